/- stowageref13.with and Merge; stowagelaw13.long and in. Lists that are read as data. -/
import Derived.Test.YtjhpdcfhdpnloaaIter3
namespace Go.Proofs.Ytjhpdcfhdpnloaa
open Go.RowKit
attribute [local go_sem] Oper.acts Oper.actsUpon

theorem atOf_iff (s : Text) : ∀ (l : List Text) (k : Nat), k ≤ atOf l s → (k < atOf l s ↔ ∃ h : k < l.length, l[k] < s)
  | [], k, _ => by simp [atOf]
  | x :: l, 0, _ => by
    by_cases h : x < s <;> simp [atOf, List.takeWhile_cons, h]
  | x :: l, k + 1, hk => by
    by_cases h : x < s
    · have e : atOf (x :: l) s = atOf l s + 1 := by simp [atOf, List.takeWhile_cons, h]
      rw [e] at hk ⊢
      have := atOf_iff s l k (by omega)
      simp only [List.length_cons, List.getElem_cons_succ, Nat.add_lt_add_iff_right]
      exact this
    · have e : atOf (x :: l) s = 0 := by simp [atOf, List.takeWhile_cons, h]
      omega
theorem less_dec (x y : Text) : Op.bytesLess x y = decide (x < y) := bytesLess_eq x y


/-- where the rest of a slice begins -/
theorem rd_tail0 {w : World} {lo hi c : Nat} {A : Option Addr} {l : List Text} (h : Rd w lo hi A (strs l)) : Rd w lo hi A (strs (l.drop 0)) := h
theorem rd_tailc {w : World} {lo hi c k : Nat} {A : Option Addr} {l : List Text} (h : Rd w lo hi A (strs l)) (hc : l.length ≤ c) (hk : c = k) : Rd w lo hi A (strs (l.drop k)) := by
  have : l.drop k = [] := List.drop_eq_nil_of_le (by omega)
  rw [this]; exact Rd.nil
theorem rd_tailk {w : World} {lo hi c k : Nat} {A : Option Addr} {l : List Text} (h : Rd w lo hi A (strs l)) (hc : l.length ≤ c) (hk : c ≠ k) : Rd w lo hi (A.map (·.add k)) (strs (l.drop k)) := by
  have := h.drop k c (by rw [strs_length]; exact hc)
  rw [if_neg hk] at this
  simpa [strs, List.map_drop] using this
theorem rd_front {w : World} {lo hi : Nat} {A : Option Addr} {l : List Text} (h : Rd w lo hi A (strs l)) (k : Nat) : Rd w lo hi A (strs (l.take k)) := by
  have := h.take k
  simpa [strs, List.map_take] using this
def AnyV (_ : Value) : Prop := True
/-- the four parts put together -/
theorem with_split (l : List Text) (s : Text) (k : Nat) (hk : atOf l s = k) (hne : l[k]? ≠ some s) : withL l s = l.take k ++ s :: l.drop k := by
  unfold withL
  rw [hk, if_neg hne]

set_option maxHeartbeats 1000000 in
theorem with_any (A : Option Addr) (l : List Text) (c lo hi : Nat) (s : Text) (w : World) (hn : l.length ≤ 1000000) (hc : l.length ≤ c) (hcm : c ≤ maxLen) (hr : Rd w lo hi A (strs l)) :
    Calls Try.prog 21 #[.slice A l.length c, .string ⟨s.toArray⟩] w fun e w' => ∃ A' c', e = .returned (.slice A' (withL l s).length c') ∧ (withL l s).length ≤ c' ∧ c' ≤ maxLen ∧ Rd w' 0 w'.heap.size A' (strs (withL l s)) ∧ Ext w w' := by
  have hal := atOf_le l s
  have hm := hcm
  unfold maxLen at hm
  go_enter Try.func21, Try.ntmps21
  go_wp2_with fail
  go_loop [5] (fun i => ∃ k : Nat, k ≤ atOf l s ∧ i = .int .i64 (k : Int)) (fun i => l.length - (intOf i).toNat)
  case atStart => exact ⟨0, by omega, rfl⟩
  case round =>
    obtain ⟨k, hk, rfl⟩ := hrel
    have hiff := Lib.hid (atOf_iff s l k hk)
    by_cases hlt : k < l.length
    · obtain ⟨ad, rfl, _, _, hcl⟩ := hr.at_ (strs_get l k hlt)
      by_cases hls : l[k] < s
      · have hb : Op.bytesLess l[k] s = true := by rw [less_dec]; simpa using hls
        have hka : k < atOf l s := hiff.out.2 ⟨hlt, hls⟩
        have HR := Lib.hid hr; clear hr
        go_wp2_with fail
        go_round
        case rel => exact ⟨k + 1, by omega, by go_num⟩
        case measure => simp [intOf]; omega
      · have hb : Op.bytesLess l[k] s = false := by rw [less_dec]; simpa using hls
        have hka : ¬ k < atOf l s := fun h => hls (hiff.out.1 h).2
        have hke : atOf l s = k := by omega
        by_cases heq : l[k] = s
        · have hq : (l[k] == s) = true := by simpa using heq
          have HE := Lib.hid heq; clear heq
          have HK := Lib.hid hke; clear hke
          go_wp2_with fail
          go_ret
          have hw : withL l s = l := by
            unfold withL
            rw [if_pos (by rw [HK.out, List.getElem?_eq_getElem hlt, HE.out])]
          rw [hw]
          exact ⟨_, _, rfl, hc, hcm, (hr.mono (Nat.zero_le _) (Nat.le_refl _)).size_.mono (Nat.le_refl _) (Nat.min_le_right _ _), Ext.refl _⟩
        · have hq : (l[k] == s) = false := by simpa using heq
          have HN : Hid (l[k]? ≠ some s) := Lib.hid (by rw [List.getElem?_eq_getElem hlt]; simpa using heq)
          have HE := Lib.hid heq; clear heq
          have HK := Lib.hid hke; clear hke
          have hln : (l.take k).length = k := List.length_take_of_le (by omega)
          have HLN := Lib.hid hln; clear hln
          have hld : (l.drop k).length = l.length - k := List.length_drop
          have HLD := Lib.hid hld; clear hld
          have HF := Lib.hid (rd_front hr k)
          have hown0 := Own.fresh w 9 [] (Nat.zero_le _) AnyV
          have hz : (w.alloc (.cells #[] 9)).heap.size = w.heap.size + 1 := size_alloc _ _
          by_cases hck : c = k
          · omega
          · have HD := Lib.hid (rd_tailk hr hc hck)
            have HR := Lib.hid hr; clear hr
            have HQ := Lib.hid hz; clear hz
            go_wp2_with (first
              | ((with_reducible refine gate (appendOp (.tmp 34) (.tmp 37) 24) rfl ?_); go_loud (refine wpList_append (xs := []) (news := strs (l.take k)) rfl _ _ _ rfl rfl rfl hown0 Try.underlying24 Try.infoStr rfl trivial (HF.out.ext ((Ext.refl w).alloc _)) (by rw [strs_length]; exact HLN.out) (strs_one _) (by simp; omega) (by simp [maxLen]; omega) (by rw [HQ.out]; omega) ?_); intro v1 w1 hown1 hg1 _; (have hx1 : Ext w w1 := ((Ext.refl w).alloc _).grown hg1 (fun g hg => by cases hg; simp)); clear hown0 hg1)
              | ((with_reducible refine gate (appendOp (.tmp 39) (.tmp 41) 24) rfl ?_); go_loud (refine wpList_append rfl _ _ _ rfl rfl rfl (hown1.alloc _) Try.underlying24 Try.infoStr rfl trivial (rd_one _ _ _) rfl (fun u hu => by simp at hu; subst hu; rfl) (by simp [strs_length]; have := HLN.out; omega) (by simp [strs_length, maxLen]; have := HLN.out; omega) (by have := hx1.sz; simp; omega) ?_); intro v2 w2 hown2 hg2 _; (have hx2 : Ext w w2 := (hx1.alloc _).grown hg2 (fun g hg => (hown1.lt g hg).1)); clear hown1 hg2)
              | ((with_reducible refine gate (appendOp (.tmp 43) (.tmp 46) 24) rfl ?_); go_loud (refine wpList_append (news := strs (l.drop k)) rfl _ _ _ rfl rfl rfl hown2 Try.underlying24 Try.infoStr rfl trivial (HD.out.ext hx2) (by rw [strs_length]; exact HLD.out) (strs_one _) (by simp [strs_length]; have := HLN.out; omega) (by simp [strs_length, maxLen]; have := HLN.out; omega) (by have := hx2.sz; omega) ?_); intro v3 w3 hown3 hg3 _; (have hx3 : Ext w w3 := hx2.grown hg3 (fun g hg => (hown2.lt g hg).1)); clear hown2 hg3))
            go_ret
            have hw := with_split l s k HK.out HN.out
            have e3 : [] ++ strs (l.take k) ++ [Value.string ⟨s.toArray⟩] ++ strs (l.drop k) = strs (withL l s) := by rw [hw]; simp [strs]
            rw [e3] at hown3
            obtain ⟨A4, n4, c4, rfl, hl4, hnc, hcm4, hr4⟩ := hown3.form
            obtain rfl : n4 = (withL l s).length := by rw [strs_length] at hl4; omega
            exact ⟨A4, c4, rfl, hnc, hcm4, hr4.mono (Nat.zero_le _) (Nat.le_refl _), hx3⟩
    · have hke : atOf l s = k := by omega
      have hkl : k = l.length := by omega
      have HKL := Lib.hid hkl
      have HN : Hid (l[k]? ≠ some s) := Lib.hid (by rw [List.getElem?_eq_none (by omega)]; simp)
      clear hkl
      have HK := Lib.hid hke; clear hke
      have hln : (l.take k).length = k := List.length_take_of_le (by omega)
      have HLN := Lib.hid hln; clear hln
      have hld : (l.drop k).length = l.length - k := List.length_drop
      have HLD := Lib.hid hld; clear hld
      have HF := Lib.hid (rd_front hr k)
      have hown0 := Own.fresh w 9 [] (Nat.zero_le _) AnyV
      have hz : (w.alloc (.cells #[] 9)).heap.size = w.heap.size + 1 := size_alloc _ _
      by_cases hck : c = k
      · have HD : Hid (Rd w lo hi A (strs (l.drop k))) := Lib.hid (rd_tailc hr hc hck)
        have HR := Lib.hid hr; clear hr
        have HQ := Lib.hid hz; clear hz
        go_wp2_with (first
          | ((with_reducible refine gate (appendOp (.tmp 34) (.tmp 37) 24) rfl ?_); go_loud (refine wpList_append (xs := []) (news := strs (l.take k)) rfl _ _ _ rfl rfl rfl hown0 Try.underlying24 Try.infoStr rfl trivial (HF.out.ext ((Ext.refl w).alloc _)) (by rw [strs_length]; exact HLN.out) (strs_one _) (by simp; omega) (by simp [maxLen]; omega) (by rw [HQ.out]; omega) ?_); intro v1 w1 hown1 hg1 _; (have hx1 : Ext w w1 := ((Ext.refl w).alloc _).grown hg1 (fun g hg => by cases hg; simp)); clear hown0 hg1)
          | ((with_reducible refine gate (appendOp (.tmp 39) (.tmp 41) 24) rfl ?_); go_loud (refine wpList_append rfl _ _ _ rfl rfl rfl (hown1.alloc _) Try.underlying24 Try.infoStr rfl trivial (rd_one _ _ _) rfl (fun u hu => by simp at hu; subst hu; rfl) (by simp [strs_length]; have := HLN.out; omega) (by simp [strs_length, maxLen]; have := HLN.out; omega) (by have := hx1.sz; simp; omega) ?_); intro v2 w2 hown2 hg2 _; (have hx2 : Ext w w2 := (hx1.alloc _).grown hg2 (fun g hg => (hown1.lt g hg).1)); clear hown1 hg2)
          | ((with_reducible refine gate (appendOp (.tmp 43) (.tmp 46) 24) rfl ?_); go_loud (refine wpList_append (news := strs (l.drop k)) rfl _ _ _ rfl rfl rfl hown2 Try.underlying24 Try.infoStr rfl trivial (HD.out.ext hx2) (by rw [strs_length]; exact HLD.out) (strs_one _) (by simp [strs_length]; have := HLN.out; omega) (by simp [strs_length, maxLen]; have := HLN.out; omega) (by have := hx2.sz; omega) ?_); intro v3 w3 hown3 hg3 _; (have hx3 : Ext w w3 := hx2.grown hg3 (fun g hg => (hown2.lt g hg).1)); clear hown2 hg3))
        go_ret
        have hw := with_split l s k HK.out HN.out
        have e3 : [] ++ strs (l.take k) ++ [Value.string ⟨s.toArray⟩] ++ strs (l.drop k) = strs (withL l s) := by rw [hw]; simp [strs]
        rw [e3] at hown3
        obtain ⟨A4, n4, c4, rfl, hl4, hnc, hcm4, hr4⟩ := hown3.form
        obtain rfl : n4 = (withL l s).length := by rw [strs_length] at hl4; omega
        exact ⟨A4, c4, rfl, hnc, hcm4, hr4.mono (Nat.zero_le _) (Nat.le_refl _), hx3⟩
      · have HD := Lib.hid (rd_tailk hr hc hck)
        have HR := Lib.hid hr; clear hr
        have HQ := Lib.hid hz; clear hz
        go_wp2_with (first
          | ((with_reducible refine gate (appendOp (.tmp 34) (.tmp 37) 24) rfl ?_); go_loud (refine wpList_append (xs := []) (news := strs (l.take k)) rfl _ _ _ rfl rfl rfl hown0 Try.underlying24 Try.infoStr rfl trivial (HF.out.ext ((Ext.refl w).alloc _)) (by rw [strs_length]; exact HLN.out) (strs_one _) (by simp; omega) (by simp [maxLen]; omega) (by rw [HQ.out]; omega) ?_); intro v1 w1 hown1 hg1 _; (have hx1 : Ext w w1 := ((Ext.refl w).alloc _).grown hg1 (fun g hg => by cases hg; simp)); clear hown0 hg1)
          | ((with_reducible refine gate (appendOp (.tmp 39) (.tmp 41) 24) rfl ?_); go_loud (refine wpList_append rfl _ _ _ rfl rfl rfl (hown1.alloc _) Try.underlying24 Try.infoStr rfl trivial (rd_one _ _ _) rfl (fun u hu => by simp at hu; subst hu; rfl) (by simp [strs_length]; have := HLN.out; omega) (by simp [strs_length, maxLen]; have := HLN.out; omega) (by have := hx1.sz; simp; omega) ?_); intro v2 w2 hown2 hg2 _; (have hx2 : Ext w w2 := (hx1.alloc _).grown hg2 (fun g hg => (hown1.lt g hg).1)); clear hown1 hg2)
          | ((with_reducible refine gate (appendOp (.tmp 43) (.tmp 46) 24) rfl ?_); go_loud (refine wpList_append (news := strs (l.drop k)) rfl _ _ _ rfl rfl rfl hown2 Try.underlying24 Try.infoStr rfl trivial (HD.out.ext hx2) (by rw [strs_length]; exact HLD.out) (strs_one _) (by simp [strs_length]; have := HLN.out; omega) (by simp [strs_length, maxLen]; have := HLN.out; omega) (by have := hx2.sz; omega) ?_); intro v3 w3 hown3 hg3 _; (have hx3 : Ext w w3 := hx2.grown hg3 (fun g hg => (hown2.lt g hg).1)); clear hown2 hg3))
        go_ret
        have hw := with_split l s k HK.out HN.out
        have e3 : [] ++ strs (l.take k) ++ [Value.string ⟨s.toArray⟩] ++ strs (l.drop k) = strs (withL l s) := by rw [hw]; simp [strs]
        rw [e3] at hown3
        obtain ⟨A4, n4, c4, rfl, hl4, hnc, hcm4, hr4⟩ := hown3.form
        obtain rfl : n4 = (withL l s).length := by rw [strs_length] at hl4; omega
        exact ⟨A4, c4, rfl, hnc, hcm4, hr4.mono (Nat.zero_le _) (Nat.le_refl _), hx3⟩

def folded (t : List Text) : List Text := t.foldl withL []
theorem folded_snoc (t : List Text) (s : Text) : folded (t ++ [s]) = withL (folded t) s := by simp [folded]
theorem withL_len (l : List Text) (s : Text) : (withL l s).length ≤ l.length + 1 := by
  unfold withL
  split
  · omega
  · simp; omega
theorem fold_len : ∀ (t l : List Text), (t.foldl withL l).length ≤ l.length + t.length
  | [], l => by simp
  | s :: t, l => by
    have h1 := fold_len t (withL l s)
    have h2 := withL_len l s
    simp only [List.foldl_cons, List.length_cons]
    omega
theorem folded_len (t : List Text) : (folded t).length ≤ t.length := by
  have := fold_len t []
  simpa [folded] using this
theorem come_len (ls : List (List Text)) (k j : Nat) (x : Text) (h : (ls.getD k [])[j]? = some x) : (come ls k (j + 1)).length ≤ ls.flatten.length := by
  have := come_prefix ls k j x h
  rw [come_step ls k j x h]; simp only [List.length_append, List.length_cons, List.length_nil]; omega

set_option maxHeartbeats 2000000 in
theorem refMerge_any (A : Option Addr) (n c hi : Nat) (ls : List (List Text)) (w : World) (hn : n ≤ 1000000) (hlen : ls.flatten.length ≤ 1000000) (hhi : hi ≤ w.heap.size) (hL : Lists w hi A n ls) :
    Calls Try.prog 10 #[.slice A n c] w fun e w' => ∃ A' c', e = .returned (.slice A' (mergeL ls.flatten).length c') ∧ (mergeL ls.flatten).length ≤ c' ∧ Rd w' 0 w'.heap.size A' (strs (mergeL ls.flatten)) ∧ Ext w w' := by
  rw [← fold_merge]
  show Calls Try.prog 10 #[.slice A n c] w fun e w' => ∃ A' c', e = .returned (.slice A' (folded ls.flatten).length c') ∧ (folded ls.flatten).length ≤ c' ∧ Rd w' 0 w'.heap.size A' (strs (folded ls.flatten)) ∧ Ext w w'
  go_enter Try.func10, Try.ntmps10
  have HN := Lib.hid hL.1
  go_wp2_with fail
  go_loopw [3, 4] (fun v i wr => ∃ (k c' : Nat) (A' : Option Addr) (m : Nat), k ≤ n ∧ i = .int .i64 (k : Int) ∧ v = .slice A' m c' ∧ Hid (m = (folded (come ls k 0)).length) ∧ m ≤ c' ∧ c' ≤ maxLen ∧ m ≤ 1000000 ∧ Rd wr 0 wr.heap.size A' (strs (folded (come ls k 0))) ∧ Ext w wr)
    (fun _ i _ => n - (intOf i).toNat)
  case atStart => exact ⟨0, 0, none, 0, by omega, rfl, rfl, Lib.hid (by rw [come_zero]; rfl), by omega, by simp [maxLen], by omega, by rw [come_zero]; exact Rd.nil, Ext.refl w⟩
  case round =>
    obtain ⟨k, c', A', m, hk, rfl, rfl, hm, hmc, hcm, hm6, hr, hx⟩ := hrel
    by_cases hlt : k < n
    · obtain ⟨ad, B, q, cq, rfl, hb, hcq, hq, hls, hqc, hq6, hrq⟩ := (hL.below hx hhi).at_ k hlt
      have HQ := Lib.hid hq; clear hq
      have HL := Lib.hid hL; clear hL
      obtain ⟨wo, rfl⟩ : ∃ wo : World, wo = wr := ⟨_, rfl⟩
      have HC := Lib.hid hcq; clear hcq
      go_wp2_with fail
      go_loopw [3, 5] (fun v j wr => ∃ (t c' : Nat) (A' : Option Addr) (m : Nat), t ≤ q ∧ j = .int .i64 (t : Int) ∧ v = .slice A' m c' ∧ Hid (m = (folded (come ls k t)).length) ∧ m ≤ c' ∧ c' ≤ maxLen ∧ m ≤ 1000000 ∧ Rd wr 0 wr.heap.size A' (strs (folded (come ls k t))) ∧ Ext w wr ∧ Ext wo wr)
        (fun _ j _ => q - (intOf j).toNat)
      case atStart => exact ⟨0, c', A', m, by omega, rfl, rfl, hm, hmc, hcm, hm6, hr, hx, Ext.refl _⟩
      case round =>
        clear hm hmc hcm hm6 hr hx
        obtain ⟨t, c', A', m, ht, rfl, rfl, hm, hmc, hcm, hm6, hr, hx, hxo⟩ := hrel
        have hcq : wr.cell? (ad.add k) = some (.slice B q cq) := by
          rw [hxo.cell (by rw [block_of_add]; have := World.block_lt_of_cell? _ _ HC.out; rw [block_of_add] at this; omega)]; exact HC.out
        by_cases hltj : t < q
        · have hjl : t < (ls.getD k []).length := by have := HQ.out; omega
          obtain ⟨ad2, rfl, _, _, hc2⟩ := (hrq.ext hxo).at_ (strs_get (ls.getD k []) t hjl)
          have hget : (ls.getD k [])[t]? = some ((ls.getD k [])[t]) := List.getElem?_eq_getElem hjl
          have HG := Lib.hid (come_step ls k t _ hget)
          have HCL := Lib.hid (Nat.le_trans (come_len ls k t _ hget) hlen)
          clear hget
          generalize (ls.getD k [])[t] = s at *
          have hwl : (withL (folded (come ls k t)) s).length ≤ 1000000 := by
            rw [← folded_snoc, ← HG.out]
            exact Nat.le_trans (folded_len _) HCL.out
          have HWL := Lib.hid hwl
          generalize hLL : folded (come ls k t) = L at *
          have HLL := Lib.hid hLL; clear hLL
          obtain rfl : m = L.length := hm.out
          have HRQ := Lib.hid hrq; clear hrq
          go_wp2_with (go_at_call 21; refine (with_any A' L c' _ _ s _ hm6 hmc hcm hr).mono ?_; rintro _ w3 ⟨A3, c3, rfl, hc3, hcm3, hr3, hx3⟩)
          go_roundw
          case rel => exact ⟨t + 1, c3, A3, _, by omega, by go_num, rfl, Lib.hid (by rw [HG.out, folded_snoc, HLL.out]), hc3, hcm3, HWL.out, by rw [HG.out, folded_snoc, HLL.out]; exact hr3, hx.trans hx3, hxo.trans hx3⟩
          case measure => simp [intOf]; omega
        · obtain rfl : t = q := by omega
          have HNX := Lib.hid (come_next ls k _ hls)
          rw [HQ.out] at HNX
          go_wp2_with fail
          go_roundw
          case rel => exact ⟨k + 1, c', A', m, by omega, by go_num, rfl, by rw [← HNX.out]; exact hm, hmc, hcm, hm6, by rw [← HNX.out]; exact hr, hx⟩
          case measure => simp [intOf]; omega
    · obtain rfl : k = n := by omega
      have HC := Lib.hid (come_all ls)
      rw [hL.1] at HC
      go_wp2_with fail
      go_ret
      rw [HC.out] at hm hr
      exact ⟨A', c', by rw [hm.out]; rfl, by rw [← hm.out]; exact hmc, hr, hx⟩

/-! ### stowagelaw13.long -/
def longB (l : List Text) (most : Nat) : Bool := l.any (fun s => decide (500 < s.length)) || decide (most < l.length)
theorem longB_false {l : List Text} {most : Nat} (h : longB l most = false) : l.length ≤ most ∧ ∀ s ∈ l, s.length ≤ 500 := by
  unfold longB at h
  rw [Bool.or_eq_false_iff] at h
  refine ⟨by simpa using h.2, fun s hs => ?_⟩
  have := List.any_eq_false.1 h.1 s hs
  simpa using this
set_option maxHeartbeats 1000000 in
theorem long_any (A : Option Addr) (n c : Nat) (lo hi : Nat) (l : List Text) (most : Nat) (w : World) (hn : n ≤ 9223372036854775807) (hmo : most ≤ 1000000) (hl : l.length = n) (hr : Rd w lo hi A (strs l)) (hs : ∀ s ∈ l, s.length ≤ 9223372036854775807) :
    Calls Try.prog 6 #[.slice A n c, .int .i64 most] w fun e w' => e = .returned (.bool (longB l most)) ∧ w = w' := by
  go_enter Try.func6, Try.ntmps6
  have HL := Lib.hid hl; clear hl
  have HS := Lib.hid hs; clear hs
  go_wp2_with fail
  go_loop [5] (fun i => ∃ k : Nat, k ≤ n ∧ i = .int .i64 (k : Int) ∧ (l.take k).any (fun s => decide (500 < s.length)) = false) (fun i => n - (intOf i).toNat)
  case atStart => exact ⟨0, by omega, rfl, by simp⟩
  case round =>
    obtain ⟨k, hk, rfl, hp⟩ := hrel
    have HP := Lib.hid hp; clear hp
    by_cases hlt : k < n
    · have hkl : k < l.length := by have := HL.out; omega
      obtain ⟨ad, rfl, _, _, hcl⟩ := hr.at_ (strs_get l k hkl)
      have HR := Lib.hid hr; clear hr
      have hsz : l[k].length ≤ 9223372036854775807 := HS.out _ (List.getElem_mem hkl)
      have HT := Lib.hid (show (l.take (k + 1)).any (fun s => decide (500 < s.length)) = decide (500 < l[k].length) by
        rw [List.take_succ_eq_append_getElem hkl, List.any_append, HP.out]; simp)
      have HA := Lib.hid (show decide (500 < l[k].length) = true → longB l most = true from fun h => by
        unfold longB
        rw [Bool.or_eq_true]
        exact .inl (List.any_eq_true.2 ⟨_, List.getElem_mem hkl, h⟩))
      generalize l[k] = s at *
      by_cases h5 : 500 < s.length
      · go_wp2_with fail
        go_ret
        exact ⟨by rw [HA.out (by simpa using h5)]; rfl, rfl⟩
      · go_wp2_with fail
        go_round
        case rel => exact ⟨k + 1, by omega, by go_num, by rw [HT.out]; simpa using h5⟩
        case measure => simp [intOf]; omega
    · obtain rfl : k = n := by omega
      have HB := Lib.hid (show longB l most = decide (most < k) by
        unfold longB
        have := HP.out
        rw [List.take_of_length_le (by rw [HL.out]; omega)] at this
        rw [this, HL.out]; simp)
      go_wp2_with fail
      go_ret
      refine ⟨?_, rfl⟩
      rw [HB.out]
      simp

/-! ### stowagelaw13.in -/
set_option maxHeartbeats 1000000 in
theorem in_any (A : Option Addr) (n c : Nat) (lo hi : Nat) (l : List Text) (s : Text) (w : World) (hn : n ≤ 1000000) (hl : l.length = n) (hr : Rd w lo hi A (strs l)) :
    Calls Try.prog 17 #[.slice A n c, .string ⟨s.toArray⟩] w fun e w' => e = .returned (.int .i64 (l.count s)) ∧ w = w' := by
  go_enter Try.func17, Try.ntmps17
  have HL := Lib.hid hl; clear hl
  go_wp2_with fail
  go_loop [5, 6] (fun v i => ∃ k m : Nat, k ≤ n ∧ m ≤ k ∧ i = .int .i64 (k : Int) ∧ v = .int .i64 (m : Int) ∧ Hid ((l.take k).count s = m)) (fun _ i => n - (intOf i).toNat)
  case atStart => exact ⟨0, 0, by omega, by omega, rfl, rfl, Lib.hid (by simp)⟩
  case round =>
    obtain ⟨k, m, hk, hmk, rfl, rfl, HP⟩ := hrel
    by_cases hlt : k < n
    · have hkl : k < l.length := by have := HL.out; omega
      obtain ⟨ad, rfl, _, _, hcl⟩ := hr.at_ (strs_get l k hkl)
      have HR := Lib.hid hr; clear hr
      have HT := Lib.hid (show (l.take (k + 1)).count s = m + if l[k] == s then 1 else 0 by
        rw [List.take_succ_eq_append_getElem hkl, List.count_append, HP.out, List.count_singleton])
      generalize l[k] = x at *
      by_cases h5 : x = s
      · have hb : (x == s) = true := by simp [h5]
        have H5 := Lib.hid h5; clear h5
        go_wp2_with fail
        go_round
        case rel => exact ⟨k + 1, m + 1, by omega, by omega, by go_num, by go_num, Lib.hid (by rw [HT.out, hb]; rfl)⟩
        case measure => simp [intOf]; omega
      · have hb : (x == s) = false := by simp [h5]
        go_wp2_with fail
        go_round
        case rel => exact ⟨k + 1, m, by omega, by omega, by go_num, rfl, Lib.hid (by rw [HT.out, hb]; rfl)⟩
        case measure => simp [intOf]; omega
    · obtain rfl : k = n := by omega
      go_wp2_with fail
      go_ret
      refine ⟨?_, rfl⟩
      have := HP.out
      rw [List.take_of_length_le (by rw [HL.out]; omega)] at this
      rw [this]; rfl
end Go.Proofs.Ytjhpdcfhdpnloaa
