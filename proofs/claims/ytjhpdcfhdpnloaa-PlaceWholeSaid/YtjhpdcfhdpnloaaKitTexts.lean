/- What stowagekit's functions on lists of texts do: LentTexts, SameTexts, KeptTexts, OverTexts. Lists that are read as data. -/
import Derived.Test.YtjhpdcfhdpnloaaRegion
namespace Go.Proofs.Ytjhpdcfhdpnloaa
open Go.RowKit
attribute [local go_sem] Oper.acts Oper.actsUpon

theorem Try.infoStr : (Try.prog.info? 9).map (fun i => (i.zero, i.size, i.bytes)) = some (some (.string ⟨#[]⟩), 1, 16) := by kernel_rfl
/-- the cells of a list of texts -/
def strs (l : List (List UInt8)) : List Value := l.map fun s => .string ⟨s.toArray⟩
theorem strs_length (l : List (List UInt8)) : (strs l).length = l.length := by simp [strs]
theorem strs_get (l : List (List UInt8)) (k : Nat) (h : k < l.length) : (strs l)[k]? = some (.string ⟨(l[k]).toArray⟩) := by simp [strs, h]
theorem strs_one (l : List (List UInt8)) : ∀ u ∈ strs l, u.oneCell' = true := by
  intro u hu; simp only [strs, List.mem_map] at hu; obtain ⟨a, _, rfl⟩ := hu; rfl
def lent : List UInt8 := [108, 101, 110, 116]
def lentCells (l : List (List UInt8)) (k : Nat) : List Value := strs l ++ (List.replicate k (.string ⟨lent.toArray⟩) ++ List.replicate (3 - k) (.string ⟨#[]⟩))
def lentOf (l : List (List UInt8)) : List (List UInt8) := l ++ [lent, lent, lent]
theorem lentOf_length (l : List (List UInt8)) : (lentOf l).length = l.length + 3 := by simp [lentOf]
theorem lentCells_three (l : List (List UInt8)) : lentCells l 3 = strs (lentOf l) := by simp [lentCells, lentOf, strs, List.replicate_succ]
theorem lentCells_zero (l : List (List UInt8)) : splice (List.replicate (l.length + 3) (Value.string ⟨#[]⟩)) 0 (strs l) = lentCells l 0 := by
  simp only [splice, lentCells, List.take_zero, List.nil_append, Nat.zero_add, List.replicate_zero, strs_length, List.drop_replicate, Nat.sub_zero]
  congr 2; omega
theorem lentCells_set (l : List (List UInt8)) (k : Nat) (h : k < 3) : (lentCells l k).set (l.length + k) (.string ⟨lent.toArray⟩) = lentCells l (k + 1) := by
  have h3 : k = 0 ∨ k = 1 ∨ k = 2 := by omega
  have hl := strs_length l
  unfold lentCells
  rw [List.set_append_right _ _ (by omega)]
  congr 1
  rw [show l.length + k - (strs l).length = k by omega]
  rcases h3 with rfl | rfl | rfl <;> rfl
theorem lentCells_length (l : List (List UInt8)) (k : Nat) (h : k ≤ 3) : (lentCells l k).length = l.length + 3 := by
  simp [lentCells, strs_length]; omega

set_option maxHeartbeats 1000000 in
theorem lentTexts_any (A : Option Addr) (l : List (List UInt8)) (c lo hi : Nat) (w : World) (hn : l.length ≤ 1000000) (hr : Rd w lo hi A (strs l)) :
    Calls Try.prog 7 #[.slice A l.length c] w fun e w' => e = .returned (.slice (some ⟨w.heap.size, 0, none⟩) l.length (l.length + 3)) ∧ Ext w w' ∧
      Blk w' w.heap.size 9 (strs (lentOf l)) := by
  have hmk := run_make_rowN (P := Try.prog) 24 9 (.string ⟨#[]⟩) 16 Try.underlying24 Try.infoStr rfl (l.length + 3) (by omega) (by omega) ((l.length : Int) + 3) (by omega)
  go_enter Try.func7, Try.ntmps7
  go_wp2_with fail
  obtain ⟨w1, e1, hb1, hx1⟩ := copy_blk (P := Try.prog) (W := w.alloc (.cells (Array.replicate (l.length + 3) (.string ⟨#[]⟩)) 9)) (dT := 24) (sT := 24) (ty := 3) (off := 0) (dLen := l.length + 3) (dCap := l.length + 3) (sLen := l.length) (sCap := c)
    (Blk.new w 9 (Array.replicate (l.length + 3) (.string ⟨#[]⟩))) Try.underlying24 rfl (by rw [strs_length]; omega) (hr.ext ((Ext.refl w).alloc _)) (by simp [strs_length]) (strs_one l)
  refine upon_run e1 ?_
  replace hx1 : Ext w w1 := ((Ext.refl w).alloc _).below hx1 (Nat.le_refl _)
  rw [Array.toList_replicate, lentCells_zero] at hb1
  clear e1 hmk hr
  go_wp2_with fail
  go_loopw [4] (fun i wr => ∃ k : Nat, k ≤ 3 ∧ i = .int .i64 ((l.length + k : Nat) : Int) ∧ Ext w wr ∧ Blk wr w.heap.size 9 (lentCells l k)) (fun i _ => l.length + 3 - (intOf i).toNat)
  case atStart => exact ⟨0, by omega, rfl, hx1, hb1⟩
  case round =>
    obtain ⟨k, hk, rfl, hx, hb⟩ := hrel
    by_cases hlt : k < 3
    · have hc := hb.cell_of (i := l.length + k) (List.getElem?_eq_getElem (by rw [lentCells_length l k hk]; omega))
      have hf := hb.frozen (l.length + k)
      go_wp2_with fail
      go_roundw
      case rel => exact ⟨k + 1, by omega, by go_num, hx.set (Nat.le_refl _) _, by rw [← lentCells_set l k hlt]; exact hb.set_ _ _⟩
      case measure => simp [intOf]; omega
    · obtain rfl : k = 3 := by omega
      go_wp2_with fail
      go_ret
      exact ⟨rfl, hx, by rw [← lentCells_three]; exact hb⟩

set_option maxHeartbeats 1000000 in
theorem sameTexts_any (A : Option Addr) (l : List (List UInt8)) (c : Nat) (A' : Option Addr) (m : List (List UInt8)) (c' lo hi lo' hi' : Nat) (w : World) (hn : l.length ≤ 1000000) (hr : Rd w lo hi A (strs l)) (hr' : Rd w lo' hi' A' (strs m)) :
    Calls Try.prog 9 #[.slice A l.length c, .slice A' m.length c'] w fun e w' => e = .returned (.bool (decide (l = m))) ∧ Ext w w' := by
  by_cases hlen : l.length = m.length
  · go_enter Try.func9, Try.ntmps9
    have hb : ((l.length : Int) != (m.length : Int)) = false := by simp [hlen]
    have hd : (l.length != m.length) = false := by simp [hlen]
    have H := Lib.hid hlen; clear hlen
    go_wp2_with fail
    go_loopw [5] (fun i wr => ∃ k : Nat, k ≤ l.length ∧ i = .int .i64 (k : Int) ∧ Ext w wr ∧ ∀ j, j < k → l[j]? = m[j]?) (fun i _ => l.length - (intOf i).toNat)
    case atStart => exact ⟨0, by omega, rfl, Ext.refl w, fun j hj => by omega⟩
    case round =>
      obtain ⟨k, hk, rfl, hx, he⟩ := hrel
      by_cases hlt : k < l.length
      · have hlt' : k < m.length := by have := H.out; omega
        obtain ⟨ad, rfl, _, _, hc⟩ := (hr.ext hx).at_ (strs_get l k hlt)
        obtain ⟨ad', rfl, _, _, hc'⟩ := (hr'.ext hx).at_ (strs_get m k hlt')
        clear hr hr'
        by_cases heq : l[k] = m[k]
        · have hs : (l[k] == m[k]) = true := by simp [heq]
          have H2 := Lib.hid heq; clear heq
          have b1 : (k : Int) < l.length := by omega
          have b2 : (k : Int) < m.length := by omega
          go_wp2_with fail
          go_quiet (fail)
          go_wp2_with fail
          go_roundw
          case rel => exact ⟨k + 1, by omega, by go_num, hx.drewN _, fun j hj => by
            rcases Nat.lt_or_ge j k with h | h
            · exact he j h
            · obtain rfl : j = k := by omega
              rw [List.getElem?_eq_getElem hlt, List.getElem?_eq_getElem hlt', H2.out]⟩
          case measure => simp [intOf]; omega
        · have hs : (l[k] == m[k]) = false := by simp [heq]
          have b1 : (k : Int) < l.length := by omega
          have b2 : (k : Int) < m.length := by omega
          go_wp2_with fail
          go_quiet (fail)
          go_wp2_with fail
          go_ret
          refine ⟨ret_no ?_, hx.drewN _⟩
          rintro rfl
          exact heq rfl
      · obtain rfl : k = l.length := by omega
        go_wp2_with fail
        go_ret
        refine ⟨ret_yes (List.ext_getElem? ?_), hx⟩
        intro j
        rcases Nat.lt_or_ge j l.length with h | h
        · exact he j h
        · rw [List.getElem?_eq_none h, List.getElem?_eq_none (by have := H.out; omega)]
  · go_enter Try.func9, Try.ntmps9
    have hd : (l.length != m.length) = true := by simp [hlen]
    have hb : ((l.length : Int) != (m.length : Int)) = true := by simp; omega
    go_wp2_with fail
    go_ret
    refine ⟨ret_no ?_, Ext.refl _⟩
    rintro rfl
    exact hlen rfl

def IsStr (u : Value) : Prop := ∃ s : List UInt8, u = .string ⟨s.toArray⟩ ∧ s.length ≤ 1000000
theorem isStr_strs (l : List (List UInt8)) (h : ∀ s ∈ l, s.length ≤ 1000000) : ∀ u ∈ strs l, IsStr u := by
  intro u hu; simp only [strs, List.mem_map] at hu; obtain ⟨a, ha, rfl⟩ := hu; exact ⟨a, rfl, h a ha⟩

set_option maxHeartbeats 1000000 in
theorem overTexts_any (v : Value) (xs : List Value) (lo : Nat) (w : World) (h : Own w lo 9 1 IsStr v xs) (hs : ∀ u ∈ xs, IsStr u) :
    Calls Try.prog 11 #[v] w fun e w' => e = .returned (.tuple #[]) ∧ w.grownBy w' v.ownBlock := by
  rcases h with ⟨rfl, rfl⟩ | ⟨g, n, cap, sp, rfl, h1, h2, h3, h4, h5, h6, h7⟩
  · go_enter Try.func11, Try.ntmps11
    go_wp2_with fail
    go_loop [3] (fun i => i = .int .i64 0) (fun _ => 0)
    case atStart => rfl
    case round =>
      subst hrel
      go_wp2_with fail
      go_end0
      exact ⟨rfl, ⟨rfl, rfl, rfl, Nat.le_refl _, fun _ _ _ => rfl⟩⟩
  · go_enter Try.func11, Try.ntmps11
    have hm := h6
    unfold maxLen at hm
    go_wp2_with fail
    go_loopw [3] (fun i wr => ∃ (k : Nat) (cs : List Value), k ≤ cap ∧ i = .int .i64 (k : Int) ∧ Blk wr g 9 cs ∧ cs.length = cap ∧ (∀ j u, k ≤ j → cs[j]? = some u → IsStr u) ∧ w.grownBy wr (some g)) (fun i _ => cap - (intOf i).toNat)
    case atStart => exact ⟨0, xs ++ sp, by omega, rfl, h2, by simp; omega, by
      intro j u _ hu
      rcases List.mem_append.1 (List.mem_of_getElem? hu) with h | h
      · exact hs u h
      · exact h7 u h, ⟨rfl, rfl, rfl, Nat.le_refl _, fun _ _ _ => rfl⟩⟩
    case round =>
      clear h2 h3 h4 h7
      obtain ⟨k, cs, hk, rfl, hb, hl, hst, hg⟩ := hrel
      have HL := Lib.hid hl; clear hl
      by_cases hlt : k < cap
      · have hlt' : k < cs.length := by have := HL.out; omega
        obtain ⟨s, hs', hsl⟩ := hst k _ (Nat.le_refl _) (List.getElem?_eq_getElem hlt')
        have hc := hb.cell_of (i := k) (List.getElem?_eq_getElem hlt')
        rw [hs'] at hc
        clear hs'
        have hf := hb.frozen k
        go_wp2_with fail
        go_roundw
        case rel => exact ⟨k + 1, _, by omega, by go_num, hb.set_ k _, by rw [List.length_set]; exact HL.out, by
          intro j u hj hu
          rw [List.getElem?_set_ne (by omega)] at hu
          exact hst j u (by omega) hu, hg.trans ⟨rfl, rfl, rfl, by simp, fun i _ hi => Below.heap_setCell _ _ _ _ (fun e => hi (by rw [e]))⟩⟩
        case measure => simp [intOf]; omega
      · obtain rfl : k = cap := by omega
        go_wp2_with fail
        go_end0
        exact ⟨rfl, hg⟩

set_option maxHeartbeats 200000 in
theorem keptTexts_any (g n : Nat) (full : List (List UInt8)) (A' : Option Addr) (m : List (List UInt8)) (c' lo' hi' : Nat) (w : World) (hb : Blk w g 9 (strs full)) (hn : full.length ≤ 1000000) (hm : m.length ≤ 1000000) (hr' : Rd w lo' hi' A' (strs m)) :
    Calls Try.prog 12 #[.slice (some ⟨g, 0, none⟩) n full.length, .slice A' m.length c'] w fun e w' => e = .returned (.bool (decide (n = m.length ∧ full = lentOf m))) ∧ Ext w w' := by
  by_cases hlen : n = m.length
  · have hd : (n == m.length) = true := by simp [hlen]
    have hd' : ((n : Int) == (m.length : Int)) = true := by simp; omega
    have H := Lib.hid hlen; clear hlen
    go_enter Try.func12, Try.ntmps12
    go_wp2_with fail
    refine wp_region_E (phis [(11, ⟨fun v => ∃ g', v = .slice (some ⟨g', 0, none⟩) m.length (m.length + 3), fun v w' => ∃ g', v = .slice (some ⟨g', 0, none⟩) m.length (m.length + 3) ∧ Blk w' g' 9 (strs (lentOf m)), fun v w1 w2 hx ⟨g', e, hb⟩ => ⟨g', e, hb.ext hx⟩, ⟨_, 0, rfl⟩⟩),
      (16, ⟨fun v => v = .bool (decide (full = lentOf m)), fun _ _ => True, fun _ _ _ _ h => h, ⟨_, rfl⟩⟩)]) (by kernel_rfl) (by kernel_rfl) ?_
    repeat (refine wpE_det (by rfl) (by rfl) (by rfl) (fun K hK => ?_); go_big_quiet_op; refine hK _ ?_; clear hK K)
    refine wpE_act (by rfl) _ rfl (fun w1 hx1 _ => ?_) ?_
    · go_simp
      refine (lentTexts_any A' m c' lo' hi' _ hm (hr'.ext hx1)).mono ?_
      rintro _ w2 ⟨rfl, hx2, hb2⟩
      exact ⟨_, rfl, hx2, ⟨_, rfl⟩, _, rfl, hb2⟩
    rintro _ ⟨g', rfl⟩
    simp only [Act.put, List.setIfInBounds_toArray, List.set_cons_zero, List.set_cons_succ]
    repeat (refine wpE_det (by rfl) (by rfl) (by rfl) (fun K hK => ?_); go_big_quiet_op; refine hK _ ?_; clear hK K)
    refine wpE_act (by rfl) _ rfl (fun w1 hx1 hf => ?_) ?_
    · go_simp
      obtain ⟨g2, e2, hb2⟩ := hf _ (List.mem_of_getElem? (i := 0) rfl) (by kernel_rfl)
      cases e2
      rw [← lentOf_length]
      refine (sameTexts_any _ full _ _ (lentOf m) _ _ _ _ _ _ hn (hb.ext hx1).rd hb2.rd).mono ?_
      rintro _ w2 ⟨rfl, hx2⟩
      exact ⟨rfl, hx2⟩
    rintro _ rfl
    simp only [Act.put, List.setIfInBounds_toArray, List.set_cons_zero, List.set_cons_succ]
    repeat (refine wpE_det (by rfl) (by rfl) (by rfl) (fun K hK => ?_); go_big_quiet_op; refine hK _ ?_; clear hK K)
    refine wpE_nil (fun w' hx _ => ?_)
    go_wp2_with fail
    go_ret
    refine ⟨?_, hx⟩
    show Ending.returned (.bool (decide (full = lentOf m))) = _
    simp [H.out]
  · go_enter Try.func12, Try.ntmps12
    have hd : (n == m.length) = false := by simp [hlen]
    have hd' : ((n : Int) == (m.length : Int)) = false := by simp; omega
    go_wp2_with fail
    go_quiet (fail)
    go_wp2_with fail
    go_ret
    exact ⟨ret_no (fun h => hlen h.1), (Ext.refl w).drewN _⟩
end Go.Proofs.Ytjhpdcfhdpnloaa
