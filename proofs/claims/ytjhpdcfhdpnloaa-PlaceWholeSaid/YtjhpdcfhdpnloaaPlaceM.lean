/- stowagelaw13.PlaceMerges, walked: it answers true, and what lay before lies as it lay. Lists that are read as data. -/
import Derived.Test.YtjhpdcfhdpnloaaPlace3
import Derived.Test.YtjhpdcfhdpnloaaRegionC
namespace Go.Proofs.Ytjhpdcfhdpnloaa
open Go.RowKit
attribute [local go_sem] Oper.acts Oper.actsUpon

/-- lists of texts that came in: nothing bounds them but what is read -/
def ArgLists (w : World) (A : Option Addr) (n : Nat) (ls : List (List Text)) : Prop :=
  ls.length = n ∧ ∀ i l, ls[i]? = some l → ∃ ad B m c, A = some ad ∧ ad.block < w.heap.size ∧ w.cell? (ad.add i) = some (.slice B m c) ∧ l.length = m ∧ m ≤ c ∧ c ≤ 9223372036854775807 ∧ Rd w 0 w.heap.size B (strs l) ∧ ∀ s ∈ l, s.length ≤ 9223372036854775807
theorem ArgLists.at_ {w : World} {A : Option Addr} {n : Nat} {ls : List (List Text)} (h : ArgLists w A n ls) (k : Nat) (hk : k < n) :
    ∃ ad B m c, A = some ad ∧ ls[k]? = some (ls.getD k []) ∧ Hid ((ls.getD k []).length = m) ∧ m ≤ c ∧ c ≤ 9223372036854775807 ∧ (∀ s ∈ ls.getD k [], s.length ≤ 9223372036854775807) ∧ ∀ w', Ext w w' → w'.cell? (ad.add k) = some (.slice B m c) ∧ Rd w' 0 w.heap.size B (strs (ls.getD k [])) := by
  have hk' : k < ls.length := by rw [h.1]; exact hk
  have e : ls[k]? = some (ls.getD k []) := by simp [hk']
  obtain ⟨ad, B, m, c, r1, r2, r3, r4, r5, r6, r7, r8⟩ := h.2 k _ e
  exact ⟨ad, B, m, c, r1, e, Lib.hid r4, r5, r6, r8, fun w' hx => ⟨by rw [hx.cell (by rw [block_of_add]; exact r2)]; exact r3, r7.ext hx⟩⟩
theorem ArgLists.lists {w : World} {A : Option Addr} {n : Nat} {ls : List (List Text)} (h : ArgLists w A n ls) (hl : ∀ l ∈ ls, l.length ≤ 1000000) : Lists w w.heap.size A n ls :=
  ⟨h.1, fun i l hi => by
    obtain ⟨ad, B, m, c, r1, r2, r3, r4, r5, r6, r7, r8⟩ := h.2 i l hi
    exact ⟨ad, B, m, c, r1, r2, r3, r4, r5, by rw [← r4]; exact hl l (List.mem_of_getElem? hi), r7⟩⟩

/-- the slices that are lent -/
def inCells (gs : List Nat) (ls : List (List Text)) : List Value := List.zipWith (fun g l => .slice (some ⟨g, 0, none⟩) (l : List Text).length (l.length + 3)) gs ls
theorem inCells_get (gs : List Nat) (ls : List (List Text)) (j g : Nat) (l : List Text) (hg : gs[j]? = some g) (hl : ls[j]? = some l) : (inCells gs ls)[j]? = some (.slice (some ⟨g, 0, none⟩) l.length (l.length + 3)) := by
  simp [inCells, List.getElem?_zipWith, hg, hl]
theorem inCells_snoc (gs : List Nat) (ls : List (List Text)) (g : Nat) (l : List Text) (hl : ls[gs.length]? = some l) : inCells (gs ++ [g]) ls = inCells gs ls ++ [.slice (some ⟨g, 0, none⟩) l.length (l.length + 3)] := by
  have hlt := (List.getElem?_eq_some_iff.1 hl).1
  have e : ls = ls.take gs.length ++ l :: ls.drop (gs.length + 1) := by
    have h2 := (List.getElem?_eq_some_iff.1 hl).2
    rw [← h2]; simp
  unfold inCells
  conv => lhs; rw [e]
  rw [List.zipWith_append (by rw [List.length_take]; omega)]
  congr 1
  · conv => rhs; rw [← List.take_append_drop gs.length ls]
    rw [show List.zipWith (fun g (l : List Text) => Value.slice (some ⟨g, 0, none⟩) l.length (l.length + 3)) gs (List.take gs.length ls ++ List.drop gs.length ls) = List.zipWith (fun g (l : List Text) => Value.slice (some ⟨g, 0, none⟩) l.length (l.length + 3)) (gs ++ []) (List.take gs.length ls ++ List.drop gs.length ls) by rw [List.append_nil]]
    rw [List.zipWith_append (by rw [List.length_take]; omega)]
    simp
theorem inCells_length (gs : List Nat) (ls : List (List Text)) (h : gs.length ≤ ls.length) : (inCells gs ls).length = gs.length := by simp [inCells]; omega
theorem blk_ne_own {w : World} {g : Nat} {t e : TypeId} {cs : List Value} (hb : Blk w g t cs) (hte : t ≠ e) {lo size : Nat} {T : Value → Prop} {v : Value} {xs : List Value} (hr : Own w lo e size T v xs) : v.ownBlock ≠ some g := by
  rcases hr with ⟨rfl, _⟩ | ⟨g', n, cap, sp, rfl, _, hgb, _⟩
  · simp [Value.ownBlock]
  · intro e'
    obtain rfl : g' = g := by simpa [Value.ownBlock] using e'
    have := (show w.heap[g']? = _ from hb).symm.trans hgb
    simp at this
    exact hte this.2
/-- what is lent -/
def LentAll (w : World) (lo : Nat) (gs : List Nat) (ls : List (List Text)) : Prop :=
  ∀ (j g : Nat) (l : List Text), gs[j]? = some g → ls[j]? = some l → lo ≤ g ∧ Blk w g 9 (strs (lentOf l)) ∧ l.length ≤ 60 ∧ ∀ s ∈ l, s.length ≤ 500
theorem LentAll.keep {w w' : World} {lo : Nat} {gs : List Nat} {ls : List (List Text)} (h : LentAll w lo gs ls) (hk : ∀ g cs, lo ≤ g → Blk w g 9 cs → Blk w' g 9 cs) : LentAll w' lo gs ls := fun j g l hg hl => by
  obtain ⟨h1, h2, h3⟩ := h j g l hg hl
  exact ⟨h1, hk g _ h1 h2, h3⟩
theorem lent_rd {w : World} {g : Nat} {l : List Text} {hi : Nat} (hb : Blk w g 9 (strs (lentOf l))) (hg : g < hi) : Rd w 0 hi (some ⟨g, 0, none⟩) (strs l) := by
  have h := (hb.rd.mono (Nat.zero_le _) hg : Rd w 0 hi _ _).take l.length
  have e : (strs (lentOf l)).take l.length = strs l := by simp [strs, lentOf]
  rwa [e] at h
theorem flat_len (ls : List (List Text)) (n : Nat) (h : ∀ l ∈ ls, l.length ≤ 60) (hn : ls.length ≤ n) : ls.flatten.length ≤ 60 * n := by
  have : ∀ ls : List (List Text), (∀ l ∈ ls, l.length ≤ 60) → ls.flatten.length ≤ 60 * ls.length := by
    intro ls
    induction ls with
    | nil => simp
    | cons l ls ih =>
      intro h
      have h1 := h l (by simp)
      have h2 := ih fun l hl => h l (by simp [hl])
      simp only [List.flatten_cons, List.length_append, List.length_cons]
      omega
  have := this ls h
  omega
theorem Try.infoSliceStr : (Try.prog.info? 24).map (fun i => (i.zero, i.size, i.bytes)) = some (some (.slice none 0 0), 1, 24) := by kernel_rfl

set_option maxHeartbeats 4000000 in
theorem placeMerges_any (A : Option Addr) (n c : Nat) (ls : List (List Text)) (w : World) (hn : n ≤ 9223372036854775807) (hA : ArgLists w A n ls) :
    Calls Try.prog 3 #[.slice A n c] w fun e w' => e = .returned (.bool true) ∧ Ext w w' := by
  by_cases h20 : n ≤ 20
  · have hd : decide ((20 : Int) < n) = false := by simp; omega
    go_enter Try.func3, Try.ntmps3
    have HA := Lib.hid hA; clear hA
    go_wp2_with fail
    go_loopw [3, 4] (fun v i wr => ∃ (k : Nat) (gs : List Nat), k ≤ n ∧ i = .int .i64 (k : Int) ∧ Hid (gs.length = k) ∧ Ext w wr ∧ Own wr w.heap.size 24 1 AnyV v (inCells gs ls) ∧ Hid (LentAll wr w.heap.size gs ls))
      (fun _ i _ => n - (intOf i).toNat)
    case atStart => exact ⟨0, [], by omega, rfl, Lib.hid rfl, Ext.refl w, Own.nil _ _ _ _ _, Lib.hid (fun j g l hg => by simp at hg)⟩
    case round =>
      obtain ⟨k, gs, hk, rfl, hgs, hx, hown, hlent⟩ := hrel
      by_cases hlt : k < n
      · obtain ⟨ad, B, m, cm, rfl, hls, hm, hmc, hcm, hsz, hrd⟩ := HA.out.at_ k hlt
        obtain ⟨hcell, hr⟩ := hrd _ hx
        have HC := Lib.hid hcell
        have HR := Lib.hid hr; clear hr
        have HS := Lib.hid hsz; clear hsz
        have HRD := Lib.hid hrd; clear hrd
        have HLS := Lib.hid hls; clear hls
        generalize ls.getD k [] = l at *
        cases hlong : longB l 60 with
        | true =>
          have HLO := Lib.hid hlong; clear hlong
          go_wp2_with (go_at_call 6; refine (long_any B m cm _ _ l 60 _ (by omega) (by decide) hm.out HR.out HS.out).mono ?_; rw [HLO.out]; rintro _ _ ⟨rfl, rfl⟩)
          go_ret
          exact ⟨rfl, hx⟩
        | false =>
          have HLO := Lib.hid hlong; clear hlong
          obtain ⟨ho1, ho2⟩ := longB_false HLO.out
          have HO2 := Lib.hid ho2; clear ho2
          obtain rfl : l.length = m := hm.out
          go_wp2_with (first
            | (go_at_call 6; refine (long_any B _ cm _ _ l 60 _ (by omega) (by decide) rfl HR.out HS.out).mono ?_; rw [HLO.out]; rintro _ _ ⟨rfl, rfl⟩)
            | (go_at_call 7; refine (lentTexts_any B l cm _ _ _ (by omega) HR.out).mono ?_; rintro _ w2 ⟨rfl, hx2, hb2⟩; have HW2 := Lib.hid (hx.trans hx2))
            | ((with_reducible refine gate (appendOp (.tmp 22) (.tmp 28) 22) rfl ?_); go_loud (refine wpList_append rfl _ _ _ rfl rfl rfl ((hown.ext hx2).alloc _) Try.underlying22 Try.infoSliceStr rfl trivial (rd_one _ _ _) rfl (fun u hu => by simp at hu; subst hu; rfl) (by rw [inCells_length _ _ (by have := hgs.out; have := HA.out.1; omega), hgs.out]; omega) (by rw [inCells_length _ _ (by have := hgs.out; have := HA.out.1; omega), hgs.out]; unfold maxLen; omega) (by have := HW2.out.sz; simp; omega) ?_)))
          intro v3 w3 hown3 hg3 _
          have hx3 : Ext w w3 := ((hx.trans hx2).alloc _).grown hg3 (fun g hg => (hown.lt g hg).1)
          have hb3 : Blk w3 wr.heap.size 9 (strs (lentOf l)) := (hb2.alloc _).grown hg3 (blk_ne_own hb2 (by decide) (hown.ext hx2))
          have hl3 : LentAll w3 w.heap.size (gs ++ [wr.heap.size]) ls := fun j g l' hg hl => by
            rcases Nat.lt_trichotomy j gs.length with h | h | h
            · rw [List.getElem?_append_left h] at hg
              obtain ⟨q1, q2, q3⟩ := hlent.out j g l' hg hl
              exact ⟨q1, ((q2.ext hx2).alloc _).grown hg3 (blk_ne_own (q2.ext hx2) (by decide) (hown.ext hx2)), q3⟩
            · subst h
              rw [List.getElem?_append_right (Nat.le_refl _)] at hg
              simp at hg; subst hg
              have hll := HLS.out
              rw [← hgs.out, hl] at hll
              cases hll
              exact ⟨hx.sz, hb3, ho1, HO2.out⟩
            · rw [List.getElem?_append_right (by omega)] at hg
              rw [List.getElem?_eq_none (by simp; omega)] at hg
              cases hg
          have e3 := inCells_snoc gs ls wr.heap.size l (by rw [hgs.out]; exact HLS.out)
          rw [← e3] at hown3
          have HL3 := Lib.hid hl3
          clear hb3 hl3 e3 hg3 hown hlent hb2 hx2
          go_wp2_with fail
          go_roundw
          case rel => exact ⟨k + 1, gs ++ [wr.heap.size], by omega, by go_num, Lib.hid (by simp [hgs.out]), hx3, hown3, HL3⟩
          case measure => simp [intOf]; omega
      · obtain rfl : k = n := by omega
        obtain ⟨A1, n1, c1, rfl, hl1, hnc1, hcm1, hr1⟩ := hown.form
        have hAn := HA.out.1
        have hn1 : n1 = k := by
          rw [inCells_length _ _ (by have := hgs.out; omega)] at hl1
          have := hgs.out; omega
        subst hn1
        obtain ⟨w1, rfl⟩ : ∃ w1 : World, w1 = wr := ⟨_, rfl⟩
        have hall : ∀ l ∈ ls, l.length ≤ 60 ∧ ∀ s ∈ l, s.length ≤ 500 := fun l hl => by
          obtain ⟨j, hj, rfl⟩ := List.mem_iff_getElem.1 hl
          obtain ⟨q1, q2, q3⟩ := hlent.out j (gs[j]'(by have := hgs.out; omega)) ls[j] (by simp) (by simp)
          exact q3
        have hflat : ls.flatten.length ≤ 1000000 := by
          have := flat_len ls n1 (fun l hl => (hall l hl).1) (by omega)
          omega
        have hL1 : Lists w1 w1.heap.size A1 n1 ls := ⟨hAn, fun j l hl => by
          have hj := (List.getElem?_eq_some_iff.1 hl).1
          have hgj : gs[j]? = some (gs[j]'(by have := hgs.out; omega)) := by simp
          obtain ⟨q1, q2, q3, q4⟩ := hlent.out j _ l hgj hl
          obtain ⟨ad, e, _, h2, h3⟩ := hr1.at_ (inCells_get gs ls j _ l hgj hl)
          exact ⟨ad, _, _, _, e, h2, h3, rfl, by omega, by omega, lent_rd q2 q2.lt⟩⟩
        have HF := Lib.hid hflat; clear hflat
        have HL1 := Lib.hid hL1; clear hL1
        have HL0 := Lib.hid (HA.out.lists fun l hl => by have := (hall l hl).1; omega)
        have HALL := Lib.hid hall; clear hall
        have hML := Lib.hid (mergeL_len ls.flatten)
        have HIS : Hid (∀ u ∈ strs (mergeL ls.flatten), IsStr u) := Lib.hid (isStr_strs _ fun s hs => by
          have := ((mergeL_law ls.flatten).2 s).1 hs
          obtain ⟨l, hl, hsl⟩ := List.mem_flatten.1 this
          have := (HALL.out l hl).2 s hsl
          omega)
        have HAN := Lib.hid hAn; clear hAn
        generalize hM : mergeL ls.flatten = M at *
        have HM := Lib.hid hM; clear hM
        go_wp2_with (first
          | (go_at_call 8; refine (merge_any A1 n1 c1 w1.heap.size ls w1 (by omega) HF.out (Nat.le_refl _) HL1.out).mono ?_; rw [HM.out]; rintro _ w2 ⟨va, rfl, howna, hx2⟩; obtain ⟨A2, n2, c2, rfl, hl2, hnc2, hcm2, hr2⟩ := howna.form; obtain rfl : n2 = M.length := (by rw [strs_length] at hl2; omega))
          | (go_at_call 10; refine (refMerge_any A n1 c w.heap.size ls w2 (by omega) HF.out (hx.trans hx2).sz (HL0.out.below (hx.trans hx2) (Nat.le_refl _))).mono ?_; rw [HM.out]; rintro _ w3 ⟨A3, c3, rfl, hc3, hr3, hx3⟩)
          | (go_at_call 9; refine (sameTexts_any A2 M c2 A3 M c3 _ _ _ _ w3 (by have := hML.out; have := HF.out; omega) (hr2.ext hx3) hr3).mono ?_; rw [show decide (M = M) = true by simp]; rintro _ w4 ⟨rfl, hx4⟩)
          | (go_at_call 11; refine (overTexts_any _ _ _ w4 ((howna.ext hx3).ext hx4) HIS.out).mono ?_; rintro _ w5 ⟨rfl, hg5⟩))
        have hx5 : Ext w w5 := (((hx.trans hx2).trans hx3).trans hx4).grown hg5 (fun g hg => by have := (howna.lt g hg).1; have := hx.sz; omega)
        have hk5 : ∀ g cs, g < w1.heap.size → Blk w1 g 9 cs → Blk w5 g 9 cs := fun g cs hg hb => (((hb.ext hx2).ext hx3).ext hx4).grown hg5 (fun e => by have := (howna.lt g e).1; omega)
        have hr5 : Rd w5 w.heap.size w1.heap.size A1 (inCells gs ls) := (((hr1.ext hx2).ext hx3).ext hx4).grown hg5 (fun g e => (howna.lt g e).1)
        have HLE : Hid (LentAll w5 w.heap.size gs ls) := Lib.hid fun j g l hg hl => by
          obtain ⟨q1, q2, q3⟩ := hlent.out j g l hg hl
          exact ⟨q1, hk5 g _ q2.lt q2, q3⟩
        clear hg5 hx4 hr3 hx3 hr2 howna hx2 hr1 hown hx hk5 hlent HIS
        go_wp2_with fail
        go_loopw [6, 7] (fun f i wr => ∃ k : Nat, k ≤ n1 ∧ i = .int .i64 (k : Int) ∧ f = .bool true ∧ Ext w5 wr) (fun _ i _ => n1 - (intOf i).toNat)
        case atStart => exact ⟨0, by omega, rfl, rfl, Ext.refl w5⟩
        case round =>
          obtain ⟨k, hk, rfl, rfl, hx6⟩ := hrel
          by_cases hlt : k < n1
          · obtain ⟨ad, B, m, cm, rfl, hls, hm, hmc, hcm, hsz, hrd⟩ := HA.out.at_ k hlt
            have HLS := Lib.hid hls; clear hls
            have hkl : ls[k]? = some (ls.getD k []) := HLS.out
            have hgk : gs[k]? = some (gs.getD k 0) := by simp [List.getD, show k < gs.length by have := hgs.out; omega]
            obtain ⟨q1, q2, q3, q4⟩ := HLE.out k _ _ hgk hkl
            obtain ⟨ad1, rfl, _, _, hcell1⟩ := hr5.at_ (inCells_get gs ls k _ _ hgk hkl)
            obtain ⟨hcell2, hr2⟩ := hrd _ (hx5.trans hx6)
            have H1 := Lib.hid hcell1; clear hcell1
            clear hcell2
            have HGK := Lib.hid hgk; clear hgk
            have HKL := Lib.hid hkl; clear hkl
            generalize hgd : gs.getD k 0 = g at *
            clear hgd
            generalize ls.getD k [] = l at *
            obtain rfl : l.length = m := hm.out
            go_wp2_with fail
            refine wp_region_E (phis [(10, ⟨fun v => v = .bool true, fun _ _ => True, fun _ _ _ _ h => h, ⟨_, rfl⟩⟩)]) (by kernel_rfl) (by kernel_rfl) ?_
            (repeat (refine wpE_det (by rfl) (by rfl) (by rfl) (fun K hK => ?_); go_big_quiet_op; refine hK _ ?_; clear hK K))
            refine wpE_at (by rfl) (by rfl) (.slice (some ⟨g, 0, none⟩) l.length (l.length + 3)) (fun w' hx' _ => exec_load1 rfl rfl Try.underlying24 rfl ((hx6.trans hx').cell_of H1.out)) ?_
            simp only [Act.put, List.setIfInBounds_toArray, List.set_cons_zero, List.set_cons_succ]
            (repeat (refine wpE_det (by rfl) (by rfl) (by rfl) (fun K hK => ?_); go_big_quiet_op; refine hK _ ?_; clear hK K))
            refine wpE_at (by rfl) (by rfl) (.slice B l.length cm) (fun w' hx' _ => exec_load1 rfl rfl Try.underlying24 rfl (hrd _ ((hx5.trans hx6).trans hx')).1) ?_
            simp only [Act.put, List.setIfInBounds_toArray, List.set_cons_zero, List.set_cons_succ]
            refine wpE_act (by rfl) _ rfl (fun w' hx' _ => ?_) ?_
            · go_simp
              rw [← lentOf_length]
              refine (keptTexts_any g l.length (lentOf l) B l cm 0 _ w' ((q2.ext hx6).ext hx') (by rw [lentOf_length]; omega) (by omega) (hrd _ ((hx5.trans hx6).trans hx')).2).mono ?_
              rintro _ w7 ⟨rfl, hx7⟩
              exact ⟨by simp, hx7⟩
            rintro _ rfl
            simp only [Act.put, List.setIfInBounds_toArray, List.set_cons_zero, List.set_cons_succ]
            (repeat (refine wpE_det (by rfl) (by rfl) (by rfl) (fun K hK => ?_); go_big_quiet_op; refine hK _ ?_; clear hK K))
            refine wpE_nil (fun w' hx' _ => ?_)
            go_wp2_with fail
            go_roundw
            case rel => exact ⟨k + 1, by omega, by go_num, rfl, hx6.trans hx'⟩
            case measure => simp [intOf]; omega
          · obtain rfl : k = n1 := by omega
            go_wp2_with (go_at_call 13; refine (awake_any _).mono ?_; rintro _ w7 ⟨rfl, hx7⟩)
            go_ret
            exact ⟨rfl, (hx5.trans hx6).trans hx7⟩
  · have hd : decide ((20 : Int) < n) = true := by simp; omega
    go_enter Try.func3, Try.ntmps3
    have HA := Lib.hid hA; clear hA
    go_wp2_with fail
    go_ret
    exact ⟨rfl, Ext.refl w⟩
end Go.Proofs.Ytjhpdcfhdpnloaa
