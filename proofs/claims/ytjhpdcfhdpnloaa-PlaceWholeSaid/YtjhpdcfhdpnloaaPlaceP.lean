/- stowagelaw13.PlaceParts, walked: it answers true, and what lay before lies as it lay. Texts that are read as data. -/
import Derived.Test.YtjhpdcfhdpnloaaPlace5
namespace Go.Proofs.Ytjhpdcfhdpnloaa
open Go.RowKit
attribute [local go_sem] Oper.acts Oper.actsUpon

theorem partsL_len (l : List Text) (z : Int) (h : partsE l z = 0) : (partsL l z).length = z.toNat := by rw [partsL, if_pos h, partsF_length]
theorem partsE_small {l : List Text} {z : Int} (h : partsE l z = 0) : l.length ≤ 10000 ∧ 1 ≤ z ∧ z ≤ 4 ∧ l.all mayB = true := by
  unfold partsE at h
  split at h
  · omega
  · split at h
    · omega
    · split at h
      · rename_i h1 h2 h3; exact ⟨by omega, by omega, by omega, h3⟩
      · omega
theorem partsL_mem {l : List Text} {z : Int} {i : Nat} {p : List Text} (h : (partsL l z)[i]? = some p) : ∀ s ∈ p, s ∈ l := by
  intro s hs
  unfold partsL at h
  split at h
  · have hi := (List.getElem?_eq_some_iff.1 h).1
    rw [partsF_length] at hi
    rw [partsF_get _ _ _ hi] at h
    cases h
    exact ((partOf_mem _ _ _ _).1 hs).1
  · simp at h
theorem partsL_le {l : List Text} {z : Int} {i : Nat} {p : List Text} (h : (partsL l z)[i]? = some p) : p.length ≤ l.length := by
  unfold partsL at h
  split at h
  · have hi := (List.getElem?_eq_some_iff.1 h).1
    rw [partsF_length] at hi
    rw [partsF_get _ _ _ hi] at h
    cases h
    exact partOf_le _ _ _
  · simp at h
theorem partsL_nil {l : List Text} {z : Int} (h : partsE l z ≠ 0) : partsL l z = [] := if_neg h
theorem RowsOf.lo_ {w : World} {lo g : Nat} {vs : List Value} {ps : List (List Text)} (h : RowsOf w lo g vs ps) {i : Nat} {v : Value} (hv : vs[i]? = some v) : ∀ b, v.ownBlock = some b → lo ≤ b ∧ b < w.heap.size := by
  have hi := (List.getElem?_eq_some_iff.1 hv).1
  exact (h.own i v (ps[i]'(by rw [← h.len]; exact hi)) hv (by simp)).lt
theorem parts_none {w : World} {lo : Nat} {v : Value} {vs : List Value} {ps : List (List Text)} (h : PartsV w lo v vs ps) (hp : ps = []) : ∃ A, v = .slice A 0 0 := by
  subst hp
  rcases h with ⟨rfl, _⟩ | ⟨g, rfl, _⟩
  · exact ⟨_, rfl⟩
  · exact ⟨_, rfl⟩
theorem parts_some {w : World} {lo m : Nat} {v : Value} {vs : List Value} {ps : List (List Text)} (h : PartsV w lo v vs ps) (hp : ps.length = m) (h1 : 1 ≤ m) : ∃ g, v = .slice (some ⟨g, 0, none⟩) m m ∧ lo ≤ g ∧ RowsOf w lo g vs ps := by
  rcases h with ⟨_, h, _⟩ | ⟨g, rfl, h⟩
  · subst h; simp at hp; omega
  · exact ⟨g, by rw [hp], h⟩
/-- the rows from the k-th on -/
structure RowsFrom (w : World) (lo g k : Nat) (vs : List Value) (ps : List (List Text)) : Prop where
  blk : Blk w g 24 vs
  own : ∀ (i : Nat) (v : Value) (p : List Text), k ≤ i → vs[i]? = some v → ps[i]? = some p → Own w lo 9 1 IsStr v (strs p)
theorem RowsOf.from_ {w : World} {lo g : Nat} {vs : List Value} {ps : List (List Text)} (h : RowsOf w lo g vs ps) : RowsFrom w lo g 0 vs ps := ⟨h.blk, fun i v p _ hv hp => h.own i v p hv hp⟩

set_option maxHeartbeats 2000000 in
theorem placeParts_any (A : Option Addr) (n c : Nat) (z : Int) (l : List Text) (w : World) (hn : n ≤ 9223372036854775807) (hl : l.length = n) (hr : Rd w 0 w.heap.size A (strs l)) (hs : ∀ s ∈ l, s.length ≤ 9223372036854775807) :
    Calls Try.prog 4 #[.slice A n c, .int .i64 z] w fun e w' => e = .returned (.bool true) ∧ Ext w w' := by
  have HS := Lib.hid hs; clear hs
  have HR := Lib.hid hr; clear hr
  by_cases hout : longB l 200 = true ∧ n ≠ 10001
  · have HB := Lib.hid hout.1
    have hne : ((n : Int) != 10001) = true := by simp; omega
    have HL := Lib.hid hl; clear hl hout
    go_enter Try.func4, Try.ntmps4
    go_wp2_with (go_at_call 6; refine (long_any A n c _ _ l 200 _ hn (by decide) HL.out HR.out HS.out).mono ?_; rw [HB.out]; rintro _ _ ⟨rfl, rfl⟩)
    go_ret
    exact ⟨rfl, Ext.refl w⟩
  · have hin : n = 10001 ∨ (n ≤ 200 ∧ ∀ s ∈ l, s.length ≤ 500) := by
      by_cases h1 : n = 10001
      · exact .inl h1
      · cases hb : longB l 200 with
        | true => exact absurd ⟨hb, h1⟩ hout
        | false =>
          obtain ⟨q1, q2⟩ := longB_false hb
          exact .inr ⟨by omega, q2⟩
    have HIN := Lib.hid hin; clear hin
    have hn6 : n ≤ 10001 := by have := HIN.out; omega
    have hg : (longB l 200 && ((n : Int) != 10001)) = false := by
      cases hb : longB l 200 with
      | true => simp only [hb, true_and, Decidable.not_not] at hout; simp [hout]
      | false => rfl
    have HG := Lib.hid hg; clear hg hout
    subst hl
    have HLL := Lib.hid (lentOf_length l)
    by_cases he : partsE l z = 0
    · obtain ⟨q1, q2, q3, q4⟩ := partsE_small he
      have HPL := Lib.hid (show ∀ s ∈ l, s.length ≤ 500 from by
        rcases HIN.out with h | h
        · omega
        · exact h.2)
      have HB : Hid (longB l 200 = false) := Lib.hid (by
        have := HG.out
        cases hb : longB l 200 with
        | false => rfl
        | true => rw [hb] at this; simp at this; omega)
      have HM := Lib.hid (partsL_len l z he)
      have hm1 : 1 ≤ z.toNat := by omega
      have HE := Lib.hid he; clear he
      have hm4 : z.toNat ≤ 4 := by omega
      generalize z.toNat = m at *
      go_enter Try.func4, Try.ntmps4
      go_wp2_with (first
        | (go_at_call 6; refine (long_any A _ c _ _ l 200 _ hn (by decide) rfl HR.out HS.out).mono ?_; rw [HB.out]; rintro _ _ ⟨rfl, rfl⟩)
        | (go_at_call 7; refine (lentTexts_any A l c _ _ _ (by omega) HR.out).mono ?_; rintro _ w1 ⟨rfl, hx1, hb1⟩)
        | (go_at_call 14; refine (parts_any _ _ _ 0 _ z l w1 hn rfl (lent_rd hb1 hb1.lt) HS.out).mono ?_; rintro _ w2 ⟨va, vs, rfl, hPa, hx2⟩; obtain ⟨ga, rfl, hga, hRa⟩ := parts_some hPa HM.out hm1)
        | (go_at_call 15; refine (refParts_any A _ c _ _ z l w2 hn rfl (HR.out.ext (hx1.trans hx2)) HS.out).mono ?_; rintro _ w3 ⟨vb, us, rfl, hPb, hx3⟩; obtain ⟨gb, rfl, hgb, hRb⟩ := parts_some hPb HM.out hm1))
      have hgs : w.heap.size < w1.heap.size := hb1.lt
      have hx13 := (hx1.trans hx2).trans hx3
      have HSZ := Lib.hid (show w1.heap.size ≤ w2.heap.size ∧ w2.heap.size ≤ w3.heap.size from ⟨hx2.sz, hx3.sz⟩)
      have HRA := Lib.hid (hRa.ext hx3)
      have HRA2 := Lib.hid hRa
      have HRB := Lib.hid hRb
      have HB1 := Lib.hid ((hb1.ext hx2).ext hx3)
      clear hPa hPb hRa hRb hb1
      go_loopw [10] (fun i wr => ∃ k : Nat, k ≤ m ∧ i = .int .i64 (k : Int) ∧ Ext w wr ∧ Hid (RowsFrom wr w1.heap.size ga k vs (partsL l z)) ∧ Hid (RowsOf wr w2.heap.size gb us (partsL l z)) ∧ Hid (Blk wr w.heap.size 9 (strs (lentOf l)))) (fun i _ => m - (intOf i).toNat)
      case atStart => exact ⟨0, by omega, rfl, hx13, Lib.hid HRA.out.from_, HRB, HB1⟩
      case round =>
        obtain ⟨k, hk, rfl, hx, hA, hB, hbl⟩ := hrel
        by_cases hlt : k < m
        · have hkp : k < (partsL l z).length := by rw [HM.out]; exact hlt
          have hkv : k < vs.length := by rw [HRA.out.len]; exact hkp
          have hku : k < us.length := by rw [HRB.out.len]; exact hkp
          have hv : vs[k]? = some vs[k] := List.getElem?_eq_getElem hkv
          have hu : us[k]? = some us[k] := List.getElem?_eq_getElem hku
          have hp : (partsL l z)[k]? = some (partsL l z)[k] := List.getElem?_eq_getElem hkp
          have hmem := partsL_mem hp
          have hpl : (partsL l z)[k].length ≤ 10001 := Nat.le_trans (partsL_le hp) hn6
          have HPI := Lib.hid (isStr_strs (partsL l z)[k] fun s hs => by have := HPL.out s (hmem s hs); omega)
          have hown := hA.out.own k _ _ (Nat.le_refl _) hv hp
          have hownb := hB.out.own k _ _ hu hp
          have HV := Lib.hid hv; have HU := Lib.hid hu; have HP := Lib.hid hp
          clear hv hu hp hmem
          generalize vs[k] = v at *
          generalize us[k] = u at *
          generalize (partsL l z)[k] = p at *
          have hown2 := hown
          have hownb2 := hownb
          obtain ⟨A1, n1, c1, rfl, hl1, hnc1, hcm1, hr1⟩ := hown2.form
          obtain ⟨A2, n2, c2, rfl, hl2, hnc2, hcm2, hr2⟩ := hownb2.form
          obtain rfl : n1 = p.length := by rw [strs_length] at hl1; omega
          obtain rfl : n2 = p.length := by rw [strs_length] at hl2; omega
          clear hl1 hl2
          go_wp2_with fail
          refine wp_region_E (phis [(8, ⟨fun v => v = .bool true, fun _ _ => True, fun _ _ _ _ h => h, ⟨_, rfl⟩⟩)]) (by kernel_rfl) (by kernel_rfl) ?_
          (repeat (refine wpE_det (by rfl) (by rfl) (by rfl) (fun K hK => ?_); go_big_quiet_op; refine hK _ ?_; clear hK K))
          refine wpE_at (by rfl) (by rfl) (.slice A1 p.length c1) (fun w' hx' _ => exec_load1 rfl rfl Try.underlying24 rfl (hx'.cell_of (hA.out.blk.cell_of HV.out))) ?_
          simp only [Act.put, List.setIfInBounds_toArray, List.set_cons_zero, List.set_cons_succ]
          (repeat (refine wpE_det (by rfl) (by rfl) (by rfl) (fun K hK => ?_); go_big_quiet_op; refine hK _ ?_; clear hK K))
          refine wpE_at (by rfl) (by rfl) (.slice A2 p.length c2) (fun w' hx' _ => exec_load1 rfl rfl Try.underlying24 rfl (hx'.cell_of (hB.out.blk.cell_of HU.out))) ?_
          simp only [Act.put, List.setIfInBounds_toArray, List.set_cons_zero, List.set_cons_succ]
          refine wpE_act (by rfl) _ rfl (fun w' hx' _ => ?_) ?_
          · go_simp
            refine (sameTexts_any A1 p c1 A2 p c2 _ _ _ _ w' (by omega) (hr1.ext hx') (hr2.ext hx')).mono ?_
            rintro _ w7 ⟨rfl, hx7⟩
            exact ⟨by simp, hx7⟩
          rintro _ rfl
          simp only [Act.put, List.setIfInBounds_toArray, List.set_cons_zero, List.set_cons_succ]
          (repeat (refine wpE_det (by rfl) (by rfl) (by rfl) (fun K hK => ?_); go_big_quiet_op; refine hK _ ?_; clear hK K))
          refine wpE_nil (fun w4 hx4 _ => ?_)
          have hcv := (hA.out.blk.ext hx4).cell_of HV.out
          have HOV := Lib.hid (hown.ext hx4)
          go_wp2_with (go_at_call 11; refine (overTexts_any _ _ _ w4 HOV.out HPI.out).mono ?_; rintro _ w5 ⟨rfl, hg5⟩)
          have hlo := HRA2.out.lo_ HV.out
          have hsz := HSZ.out
          have hAf : RowsFrom w5 w1.heap.size ga (k + 1) vs (partsL l z) := ⟨(hA.out.blk.ext hx4).grown hg5 (HRA.out.ne_g HV.out), fun i v' p' hi hv' hp' =>
            own_grown ((hA.out.own i v' p' (by omega) hv' hp').ext hx4) hg5 fun g hg e => HRA.out.apart i k v' _ g (by omega) hv' HV.out hg e.symm⟩
          have hBf : RowsOf w5 w2.heap.size gb us (partsL l z) := (hB.out.ext hx4).keep (hg5.block gb (hB.out.ext hx4).blk.lt (fun e => by have := (hlo gb e.symm).2; omega)) fun i v' hv' b hb =>
            hg5.block b ((hB.out.ext hx4).lo_ hv' b hb).2 (fun e => by have h1 := (hlo b e.symm).2; have h2 := ((hB.out.ext hx4).lo_ hv' b hb).1; omega)
          have hbf : Blk w5 w.heap.size 9 (strs (lentOf l)) := (hbl.out.ext hx4).grown hg5 (fun e => by have := (hlo _ e).1; omega)
          have hxf : Ext w w5 := (hx.trans hx4).grown hg5 (fun b hb => by have := (hlo b hb).1; omega)
          have HAF := Lib.hid hAf
          have HBF := Lib.hid hBf
          have HbF := Lib.hid hbf
          clear hAf hBf hbf hlo hsz hg5 HOV hcv hx4 hr1 hr2 hown hownb
          go_roundw
          case rel => exact ⟨k + 1, by omega, by go_num, hxf, HAF, HBF, HbF⟩
          case measure => simp [intOf]; omega
        · obtain rfl : k = m := by omega
          go_wp2_with (first
            | (go_at_call 12; rw [← HLL.out]; refine (keptTexts_any _ _ (lentOf l) A l c 0 _ _ hbl.out (by rw [HLL.out]; omega) (by omega) (HR.out.ext hx)).mono ?_; rw [show decide (l.length = l.length ∧ lentOf l = lentOf l) = true by simp]; rintro _ w4 ⟨rfl, hx4⟩)
            | (go_at_call 13; refine (awake_any _).mono ?_; rintro _ w5 ⟨rfl, hx5⟩))
          go_ret
          exact ⟨rfl, (hx.trans hx4).trans hx5⟩
    · have HPN := Lib.hid (partsL_nil he)
      clear he
      cases hb : longB l 200 with
      | true =>
        have HB := Lib.hid hb; clear hb
        have hne : ((l.length : Int) != 10001) = false := by have := HG.out; rw [HB.out] at this; simpa using this
        go_enter Try.func4, Try.ntmps4
        go_wp2_with (first
          | (go_at_call 6; refine (long_any A _ c _ _ l 200 _ hn (by decide) rfl HR.out HS.out).mono ?_; rw [HB.out]; rintro _ _ ⟨rfl, rfl⟩)
          | (go_at_call 7; refine (lentTexts_any A l c _ _ _ (by omega) HR.out).mono ?_; rintro _ w1 ⟨rfl, hx1, hb1⟩)
          | (go_at_call 14; refine (parts_any _ _ _ 0 _ z l w1 hn rfl (lent_rd hb1 hb1.lt) HS.out).mono ?_; rintro _ w2 ⟨va, vs, rfl, hPa, hx2⟩; obtain ⟨Aa, rfl⟩ := parts_none hPa HPN.out)
          | (go_at_call 15; refine (refParts_any A _ c _ _ z l w2 hn rfl (HR.out.ext (hx1.trans hx2)) HS.out).mono ?_; rintro _ w3 ⟨vb, us, rfl, hPb, hx3⟩; obtain ⟨Ab, rfl⟩ := parts_none hPb HPN.out))
        go_loop [10] (fun i => i = .int .i64 0) (fun _ => 0)
        case atStart => rfl
        case round =>
          subst hrel
          go_wp2_with (first
            | (go_at_call 12; rw [← HLL.out]; refine (keptTexts_any _ _ (lentOf l) A l c 0 _ w3 ((hb1.ext hx2).ext hx3) (by rw [HLL.out]; omega) (by omega) (HR.out.ext ((hx1.trans hx2).trans hx3))).mono ?_; rw [show decide (l.length = l.length ∧ lentOf l = lentOf l) = true by simp]; rintro _ w4 ⟨rfl, hx4⟩)
            | (go_at_call 13; refine (awake_any _).mono ?_; rintro _ w5 ⟨rfl, hx5⟩))
          go_ret
          exact ⟨rfl, (((hx1.trans hx2).trans hx3).trans hx4).trans hx5⟩
      | false =>
        have HB := Lib.hid hb; clear hb
        go_enter Try.func4, Try.ntmps4
        go_wp2_with (first
          | (go_at_call 6; refine (long_any A _ c _ _ l 200 _ hn (by decide) rfl HR.out HS.out).mono ?_; rw [HB.out]; rintro _ _ ⟨rfl, rfl⟩)
          | (go_at_call 7; refine (lentTexts_any A l c _ _ _ (by omega) HR.out).mono ?_; rintro _ w1 ⟨rfl, hx1, hb1⟩)
          | (go_at_call 14; refine (parts_any _ _ _ 0 _ z l w1 hn rfl (lent_rd hb1 hb1.lt) HS.out).mono ?_; rintro _ w2 ⟨va, vs, rfl, hPa, hx2⟩; obtain ⟨Aa, rfl⟩ := parts_none hPa HPN.out)
          | (go_at_call 15; refine (refParts_any A _ c _ _ z l w2 hn rfl (HR.out.ext (hx1.trans hx2)) HS.out).mono ?_; rintro _ w3 ⟨vb, us, rfl, hPb, hx3⟩; obtain ⟨Ab, rfl⟩ := parts_none hPb HPN.out))
        go_loop [10] (fun i => i = .int .i64 0) (fun _ => 0)
        case atStart => rfl
        case round =>
          subst hrel
          go_wp2_with (first
            | (go_at_call 12; rw [← HLL.out]; refine (keptTexts_any _ _ (lentOf l) A l c 0 _ w3 ((hb1.ext hx2).ext hx3) (by rw [HLL.out]; omega) (by omega) (HR.out.ext ((hx1.trans hx2).trans hx3))).mono ?_; rw [show decide (l.length = l.length ∧ lentOf l = lentOf l) = true by simp]; rintro _ w4 ⟨rfl, hx4⟩)
            | (go_at_call 13; refine (awake_any _).mono ?_; rintro _ w5 ⟨rfl, hx5⟩))
          go_ret
          exact ⟨rfl, (((hx1.trans hx2).trans hx3).trans hx4).trans hx5⟩
end Go.Proofs.Ytjhpdcfhdpnloaa
