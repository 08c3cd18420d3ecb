/- stowagelaw13.PlaceWhole, walked: it answers true, and what lay before lies as it lay. Texts that are read as data. -/
import Derived.Test.YtjhpdcfhdpnloaaPlaceP
import Derived.IntWalk
namespace Go.Proofs.Ytjhpdcfhdpnloaa
open Go.RowKit
attribute [local go_sem] Oper.acts Oper.actsUpon

/-! ### the plain law -/
theorem partOf_count (l : List Text) (m i : Nat) (s : Text) : (partOf l m i).count s = if setNat s m = i then l.count s else 0 := by
  unfold partOf
  by_cases h : setNat s m = i
  · rw [if_pos h, List.count_filter (by simpa using h)]
  · rw [if_neg h, List.count_eq_zero]
    intro hs
    exact h (by simpa using (List.mem_filter.1 hs).2)
theorem partsF_flat (l : List Text) (m : Nat) (h1 : 1 ≤ m) (h4 : m ≤ 4) (hall : l.all mayB = true) (s : Text) : s ∈ (partsF l m).flatten ↔ s ∈ l := by
  rw [List.mem_flatten]
  constructor
  · rintro ⟨p, hp, hs⟩
    obtain ⟨i, _, rfl⟩ := List.mem_map.1 hp
    exact ((partOf_mem _ _ _ _).1 hs).1
  · intro hs
    exact ⟨partOf l m (setNat s m), List.mem_map.2 ⟨_, List.mem_range.2 (setNat_law s m h1 h4 (List.all_eq_true.1 hall s hs)).2.2, rfl⟩, (partOf_mem _ _ _ _).2 ⟨hs, rfl⟩⟩
theorem mergeL_same (a b : List Text) (h : ∀ s, s ∈ a ↔ s ∈ b) : mergeL a = mergeL b :=
  rises_unique _ _ (mergeL_law a).1 (mergeL_law b).1 fun s => by rw [(mergeL_law a).2, (mergeL_law b).2, h s]
theorem merge_parts (l : List Text) (m : Nat) (h1 : 1 ≤ m) (h4 : m ≤ 4) (hall : l.all mayB = true) : mergeL (partsF l m).flatten = mergeL l := mergeL_same _ _ (partsF_flat l m h1 h4 hall)
theorem merge_back (l : List Text) (m : Nat) (h1 : 1 ≤ m) (h4 : m ≤ 4) (hall : l.all mayB = true) : mergeL (partsF l m).reverse.flatten = mergeL l :=
  mergeL_same _ _ fun s => by rw [← partsF_flat l m h1 h4 hall s, List.mem_flatten, List.mem_flatten]; simp
theorem merge_one (l : List Text) : mergeL [l].flatten = mergeL l := by simp
theorem mergeL_count (l : List Text) (s : Text) (h : s ∈ l) : (mergeL l).count s = 1 := by
  have hn : (mergeL l).Nodup := by
    have := (mergeL_law l).1
    unfold Rises at this
    exact this.imp fun h e => by subst e; exact lt_irreflT _ h
  exact List.Nodup.count hn |>.trans (if_pos (((mergeL_law l).2 s).2 h))
theorem mergeL_up (l : List Text) (i : Nat) (a b : Text) (ha : (mergeL l)[i]? = some a) (hb : (mergeL l)[i + 1]? = some b) : Op.bytesLess b a = false ∧ (b == a) = false := by
  obtain ⟨hi, rfl⟩ := List.getElem?_eq_some_iff.1 ha
  obtain ⟨h, rfl⟩ := List.getElem?_eq_some_iff.1 hb
  have := List.pairwise_iff_getElem.1 (mergeL_law l).1 i (i + 1) (by omega) h (by omega)
  refine ⟨by rw [less_dec]; simpa using lt_asymmT this, ?_⟩
  rw [beq_eq_false_iff_ne]
  intro e; rw [e] at this; exact lt_irreflT _ this
theorem flat_le (l : List Text) (ls : List (List Text)) (m : Nat) (h : ∀ p ∈ ls, p.length ≤ l.length) (hm : ls.length ≤ m) : ls.flatten.length ≤ l.length * m := by
  induction ls generalizing m with
  | nil => simp
  | cons p q ih =>
    cases m with
    | zero => simp at hm
    | succ m =>
      have h1 := h p (by simp)
      have h2 := ih m (fun x hx => h x (by simp [hx])) (by simpa using hm)
      simp only [List.flatten_cons, List.length_append, Nat.mul_succ]
      omega

/-! ### lists out of rows -/
theorem lists_cells {w : World} {lo hi n : Nat} {A : Option Addr} {vs : List Value} {ps : List (List Text)} {lo' : Nat} (hr : Rd w lo hi A vs) (hl : vs.length = ps.length) (hn : ps.length = n) (hhi : w.heap.size ≤ hi)
    (hv : ∀ (i : Nat) (v : Value) (p : List Text), vs[i]? = some v → ps[i]? = some p → Own w lo' 9 1 IsStr v (strs p)) (hs : ∀ p ∈ ps, p.length ≤ 1000000) : Lists w hi A n ps :=
  ⟨hn, fun i p hp => by
    have hi' : i < vs.length := by rw [hl]; exact (List.getElem?_eq_some_iff.1 hp).1
    have hvi : vs[i]? = some vs[i] := List.getElem?_eq_getElem hi'
    obtain ⟨ad, e, _, h2, h3⟩ := hr.at_ hvi
    obtain ⟨A1, n1, c1, e1, h4, h5, h6, h7⟩ := (hv i _ p hvi hp).form
    rw [e1] at h3
    have h8 : p.length = n1 := by rw [strs_length] at h4; omega
    exact ⟨ad, A1, n1, c1, e, h2, h3, h8, h5, by rw [← h8]; exact hs p (List.mem_of_getElem? hp), h7.mono (Nat.zero_le _) hhi⟩⟩
theorem partsF_small (l : List Text) (m : Nat) : ∀ p ∈ partsF l m, p.length ≤ l.length := by
  intro p hp
  obtain ⟨i, _, rfl⟩ := List.mem_map.1 hp
  exact partOf_le _ _ _

set_option maxRecDepth 100000 in
set_option maxHeartbeats 4000000 in
theorem whole_main (A : Option Addr) (c m : Nat) (l : List Text) (w : World) (hn : l.length ≤ 60) (hr : Rd w 0 w.heap.size A (strs l)) (hs : ∀ s ∈ l, s.length ≤ 500) (HCA : Hid (l.length ≤ c)) (h1 : 1 ≤ m) (h4 : m ≤ 4) (hlong : Hid (longB l 60 = false)) (hall : l.all mayB = true) :
    Calls Try.prog 5 #[.slice A l.length c, .int .i64 (m : Int)] w fun e w' => e = .returned (.bool true) ∧ Ext w w' := by
  have HS := Lib.hid (show ∀ s ∈ l, s.length ≤ 9223372036854775807 from fun s h => by have := hs s h; omega); clear hs
  have HR := Lib.hid hr; clear hr
  have hd1 : decide ((m : Int) < 1) = false := by simp; omega
  have hd4 : decide ((4 : Int) < m) = false := by simp; omega
  have he : partsE l m = 0 := by rw [partsE, if_neg (by omega), if_neg (by omega), if_pos hall]
  have hL : partsL l m = partsF l m := by rw [partsL, if_pos he]; rfl
  have HE := Lib.hid he; clear he
  have HL := Lib.hid hL; clear hL
  have HA := Lib.hid hall; clear hall
  go_enter Try.func5, Try.ntmps5
  go_wp2_with (first
    | (go_at_call 13; refine (awake_any _).mono ?_; rintro _ w1 ⟨rfl, hx1⟩)
    | (go_at_call 6; refine (long_any A _ c _ _ l 60 _ (by omega) (by decide) rfl (HR.out.ext hx1) HS.out).mono ?_; rw [hlong.out]; rintro _ _ ⟨rfl, rfl⟩)
    | (go_at_call 14; refine (parts_any A _ c _ _ (m : Int) l w1 (by omega) rfl (HR.out.ext hx1) HS.out).mono ?_; rw [HE.out, HL.out]; rintro _ w2 ⟨va, vs, rfl, hPa, hx2⟩; obtain ⟨g, rfl, hg, hR⟩ := parts_some hPa (partsF_length l m) h1))
  have hx12 := hx1.trans hx2
  have HX12 := Lib.hid hx12
  have HRW := Lib.hid hR; clear hR hPa
  go_loopw [8] (fun i wr => ∃ k : Nat, k ≤ l.length ∧ i = .int .i64 (k : Int) ∧ Ext w2 wr) (fun i _ => l.length - (intOf i).toNat)
  case atStart => exact ⟨0, by omega, rfl, Ext.refl w2⟩
  case round =>
    obtain ⟨k, hk, rfl, hx⟩ := hrel
    by_cases hlt : k < l.length
    · obtain ⟨ad, rfl, _, _, hcl⟩ := (HR.out.ext (hx12.trans hx)).at_ (strs_get l k hlt)
      have hmay : mayB l[k] = true := List.all_eq_true.1 HA.out _ (List.getElem_mem hlt)
      have hsz : l[k].length ≤ 9223372036854775807 := HS.out _ (List.getElem_mem hlt)
      generalize l[k] = s at *
      obtain ⟨q1, q2, q3⟩ := setNat_law s m h1 h4 hmay
      have HQ1 := Lib.hid q1; clear q1
      have HQ2 := Lib.hid q2; clear q2 hmay
      have HCT := Lib.hid (fun t => partOf_count l m t s)
      generalize hi0 : setNat s m = i0 at *
      clear hi0
      have hf1 : decide ((i0 : Int) < 0) = false := by simp
      have hf2 : decide ((m : Int) ≤ i0) = false := by simp; omega
      have hf3 : decide (m ≤ i0) = false := by simp; omega
      have HCL := Lib.hid hcl; clear hcl
      have hcl := HCL.out
      go_wp2_with (go_at_call 16; refine (set_any s m _ hsz).mono ?_; rw [HQ1.out, HQ2.out]; rintro _ w3 ⟨rfl, hx3⟩)
      obtain ⟨wo, rfl⟩ : ∃ wo : World, wo = w3 := ⟨_, rfl⟩
      go_loopw [11, 12] (fun j _ wr => ∃ t : Nat, t ≤ m ∧ j = .int .i64 (t : Int) ∧ Ext wo wr) (fun j _ _ => m - (intOf j).toNat)
      case atStart => exact ⟨0, by omega, rfl, Ext.refl _⟩
      case round =>
        obtain ⟨t, ht, rfl, hxt⟩ := hrel
        by_cases hltt : t < m
        · have hx2t := Lib.hid ((hx.trans hx3).trans hxt)
          have hcl2 := (hx3.trans hxt).cell_of HCL.out
          clear hcl
          have htv : t < vs.length := by rw [HRW.out.len, partsF_length]; exact hltt
          have hv : vs[t]? = some vs[t] := List.getElem?_eq_getElem htv
          have hp := partsF_get l m t hltt
          have hown := (HRW.out.ext hx2t.out).own t _ _ hv hp
          have hcv := ((HRW.out.ext hx2t.out).blk).cell_of hv
          have HPL := Lib.hid (partOf_le l m t)
          have HCT2 := Lib.hid (HCT.out t)
          clear hv hp
          have HC2 := Lib.hid hcl2
          generalize vs[t] = v at *
          generalize partOf l m t = p at *
          obtain ⟨A1, n1, c1, rfl, hl1, hnc1, hcm1, hr1⟩ := hown.form
          obtain rfl : n1 = p.length := by rw [strs_length] at hl1; omega
          clear hl1
          have HCV := Lib.hid hcv
          have hp60 : p.length ≤ 60 := by have := HPL.out; omega
          by_cases hti : t = i0
          · have hcn : p.count s = l.count s := by have := HCT2.out; rwa [if_pos hti.symm] at this
            subst hti
            have HCN := Lib.hid hcn; clear hcn
            go_wp2_with (go_at_call 17; refine (in_any _ l.length c _ _ l s _ (by omega) rfl (HR.out.ext (hx12.trans hx2t.out))).mono ?_; rintro _ _ ⟨rfl, rfl⟩)
            refine wp_region_E (phis [(8, ⟨fun v => v = .int .i64 ((l.count s : Nat) : Int), fun _ _ => True, fun _ _ _ _ h => h, ⟨_, rfl⟩⟩)]) (by kernel_rfl) (by kernel_rfl) ?_
            (repeat (refine wpE_det (by rfl) (by rfl) (by rfl) (fun K hK => ?_); go_big_quiet_op; refine hK _ ?_; clear hK K))
            refine wpE_at (by rfl) (by rfl) (.slice A1 p.length c1) (fun w' hx' _ => exec_load1 rfl rfl Try.underlying24 rfl (hx'.cell_of HCV.out)) ?_
            simp only [Act.put, List.setIfInBounds_toArray, List.set_cons_zero, List.set_cons_succ]
            (repeat (refine wpE_det (by rfl) (by rfl) (by rfl) (fun K hK => ?_); go_big_quiet_op; refine hK _ ?_; clear hK K))
            refine wpE_at (by rfl) (by rfl) (.string ⟨s.toArray⟩) (fun w' hx' _ => exec_load1 rfl rfl Try.underlying9 rfl (hx'.cell_of HC2.out)) ?_
            simp only [Act.put, List.setIfInBounds_toArray, List.set_cons_zero, List.set_cons_succ]
            refine wpE_act (by rfl) _ rfl (fun w' hx' _ => ?_) ?_
            · go_simp
              refine (in_any A1 p.length c1 _ _ p s w' (by omega) rfl (hr1.ext hx')).mono ?_
              rw [HCN.out]
              rintro _ _ ⟨rfl, rfl⟩
              exact ⟨rfl, Ext.refl _⟩
            rintro _ rfl
            simp only [Act.put, List.setIfInBounds_toArray, List.set_cons_zero, List.set_cons_succ]
            (repeat (refine wpE_det (by rfl) (by rfl) (by rfl) (fun K hK => ?_); go_big_quiet_op; refine hK _ ?_; clear hK K))
            refine wpE_nil (fun w4 hx4 _ => ?_)
            go_wp2_with fail
            go_roundw
            case rel => exact ⟨t + 1, by omega, by go_num, hxt.trans hx4⟩
            case measure => simp [intOf]; omega
          · have hb : ((t : Int) == (i0 : Int)) = false := by simp; omega
            have hb' : (t == i0) = false := by simpa using hti
            have hcn : p.count s = 0 := by have := HCT2.out; rwa [if_neg (fun e => hti e.symm)] at this
            have HCN := Lib.hid hcn; clear hcn
            go_wp2_with fail
            refine wp_region_E (phis [(8, ⟨fun v => v = .int .i64 0, fun _ _ => True, fun _ _ _ _ h => h, ⟨_, rfl⟩⟩)]) (by kernel_rfl) (by kernel_rfl) ?_
            (repeat (refine wpE_det (by rfl) (by rfl) (by rfl) (fun K hK => ?_); go_big_quiet_op; refine hK _ ?_; clear hK K))
            refine wpE_at (by rfl) (by rfl) (.slice A1 p.length c1) (fun w' hx' _ => exec_load1 rfl rfl Try.underlying24 rfl (hx'.cell_of HCV.out)) ?_
            simp only [Act.put, List.setIfInBounds_toArray, List.set_cons_zero, List.set_cons_succ]
            (repeat (refine wpE_det (by rfl) (by rfl) (by rfl) (fun K hK => ?_); go_big_quiet_op; refine hK _ ?_; clear hK K))
            refine wpE_at (by rfl) (by rfl) (.string ⟨s.toArray⟩) (fun w' hx' _ => exec_load1 rfl rfl Try.underlying9 rfl (hx'.cell_of HC2.out)) ?_
            simp only [Act.put, List.setIfInBounds_toArray, List.set_cons_zero, List.set_cons_succ]
            refine wpE_act (by rfl) _ rfl (fun w' hx' _ => ?_) ?_
            · go_simp
              refine (in_any A1 p.length c1 _ _ p s w' (by omega) rfl (hr1.ext hx')).mono ?_
              rw [HCN.out]
              rintro _ _ ⟨rfl, rfl⟩
              exact ⟨rfl, Ext.refl _⟩
            rintro _ rfl
            simp only [Act.put, List.setIfInBounds_toArray, List.set_cons_zero, List.set_cons_succ]
            (repeat (refine wpE_det (by rfl) (by rfl) (by rfl) (fun K hK => ?_); go_big_quiet_op; refine hK _ ?_; clear hK K))
            refine wpE_nil (fun w4 hx4 _ => ?_)
            go_wp2_with fail
            go_roundw
            case rel => exact ⟨t + 1, by omega, by go_num, hxt.trans hx4⟩
            case measure => simp [intOf]; omega
        · obtain rfl : t = m := by omega
          go_wp2_with fail
          go_roundw
          case rel => exact ⟨k + 1, by omega, by go_num, (hx.trans hx3).trans hxt⟩
          case measure => simp [intOf]; omega
    · obtain rfl : k = l.length := by omega
      have HX2 := Lib.hid (hx12.trans hx); clear hx12
      have HR2 := Lib.hid (HRW.out.ext hx)
      go_wp2_with fail
      go_loopw [13, 14] (fun v i wr => ∃ q : Nat, q ≤ m ∧ i = .int .i64 ((q : Int) - 1) ∧ Ext w wr ∧ Hid (RowsOf wr w1.heap.size g vs (partsF l m)) ∧ Own wr w2.heap.size 24 1 AnyV v (vs.drop q).reverse ∧ Hid (w2.heap.size ≤ wr.heap.size)) (fun _ i _ => ((intOf i) + 1).toNat)
      case atStart => exact ⟨m, by omega, rfl, HX2.out, HR2, by rw [List.drop_eq_nil_of_le (by rw [HRW.out.len, partsF_length]; omega)]; exact Own.nil _ _ _ _ _, Lib.hid hx.sz⟩
      case round =>
        obtain ⟨q, hq, rfl, hx, hRw, hback, hzz⟩ := hrel
        by_cases hq0 : 0 < q
        · obtain ⟨j, rfl⟩ : ∃ j, q = j + 1 := ⟨q - 1, by omega⟩
          rw [show (((j + 1 : Nat) : Int) - 1) = (j : Int) by omega]
          have hjv : j < vs.length := by rw [HRW.out.len, partsF_length]; omega
          have hv : vs[j]? = some vs[j] := List.getElem?_eq_getElem hjv
          have hcv := hRw.out.blk.cell_of hv
          have hdr := Lib.hid (show (vs.drop j).reverse = (vs.drop (j + 1)).reverse ++ [vs[j]] by rw [List.drop_eq_getElem_cons hjv, List.reverse_cons])
          have hln := Lib.hid (show (vs.drop (j + 1)).reverse.length ≤ 4 by rw [List.length_reverse, List.length_drop, HRW.out.len, partsF_length]; omega)
          obtain ⟨A1, n1, c1, hve, _⟩ := (hRw.out.own j _ _ hv (partsF_get l m j (by omega))).form
          clear hv
          generalize vs[j] = v at *
          subst hve
          go_wp2_with ((with_reducible refine gate (appendOp (.tmp 106) (.tmp 111) 22) rfl ?_); go_loud (refine wpList_append rfl _ _ _ rfl rfl rfl (hback.alloc _) Try.underlying22 Try.infoSliceStr rfl trivial (rd_one _ _ _) rfl (fun u hu => by simp at hu; subst hu; rfl) (by have := hln.out; omega) (by have := hln.out; unfold maxLen; omega) (by have := hzz.out; simp; omega) ?_))
          intro v3 w3 hback3 hg3 _
          rw [← hdr.out] at hback3
          have hRf : RowsOf w3 w1.heap.size g vs (partsF l m) := (((hRw.out.ext ((Ext.refl _).alloc _))).keep (hg3.block g (by rw [size_alloc]; have := hRw.out.blk.lt; omega) (fun e => by have := (hback.lt g e.symm).1; have := HRW.out.blk.lt; omega)) fun i v' hv' b hb =>
            hg3.block b (by rw [size_alloc]; have := (hRw.out.lo_ hv' b hb).2; omega) (fun e => by have h1 := (hback.lt b e.symm).1; have h2 := (HRW.out.lo_ hv' b hb).2; omega))
          have hxf : Ext w w3 := (hx.alloc _).grown hg3 (fun b hb => by have h1 := (hback.lt b hb).1; have h2 := HX12.out.sz; omega)
          have hzf : w2.heap.size ≤ w3.heap.size := by have := hg3.size; have := hzz.out; rw [size_alloc] at *; omega
          have HRF := Lib.hid hRf
          have HZF := Lib.hid hzf
          clear hRf hzf hg3 hback hcv
          go_wp2_with fail
          go_roundw
          case rel => exact ⟨j, by omega, rfl, hxf, HRF, hback3, HZF⟩
          case measure => simp [intOf]
        · obtain rfl : q = 0 := by omega
          rw [show (((0 : Nat) : Int) - 1) = -1 by omega]
          obtain ⟨w6, rfl⟩ : ∃ w6 : World, w6 = wr := ⟨_, rfl⟩
          have hps := partsF_length l m
          have hsm : ∀ p ∈ partsF l m, p.length ≤ 1000000 := fun p hp => by have := partsF_small l m p hp; omega
          have hback' := hback
          obtain ⟨A3, n3, c3, rfl, hl3, hnc3, hcm3, hr3⟩ := hback'.form
          rw [List.drop_zero] at hl3 hr3
          obtain rfl : n3 = m := by rw [List.length_reverse, hRw.out.len, hps] at hl3; omega
          have hrg : Rd w6 0 w6.heap.size (some ⟨g, 0, none⟩) vs := hRw.out.blk.rd.mono (Nat.zero_le _) hRw.out.blk.lt
          have hLa : Lists w6 w6.heap.size (some ⟨g, 0, none⟩) n3 (partsF l n3) := lists_cells hrg hRw.out.len hps (Nat.le_refl _) hRw.out.own hsm
          have hLb : Lists w6 w6.heap.size A3 n3 (partsF l n3).reverse := lists_cells (lo' := w1.heap.size) hr3 (by rw [List.length_reverse, List.length_reverse, hRw.out.len]) (by rw [List.length_reverse, hps]) (Nat.le_refl _) (fun i v p hv hp => by
            have hi := (List.getElem?_eq_some_iff.1 hv).1
            rw [List.length_reverse] at hi
            rw [List.getElem?_reverse hi] at hv
            rw [List.getElem?_reverse (by rw [← hRw.out.len]; exact hi), ← hRw.out.len] at hp
            exact hRw.out.own _ v p hv hp) (fun p hp => hsm p (List.mem_reverse.1 hp))
          have HLA := Lib.hid hLa
          have HLB := Lib.hid hLb
          have HFL := Lib.hid (show (partsF l n3).flatten.length ≤ 1000000 by
            have := flat_le l (partsF l n3) n3 (partsF_small l n3) (by omega)
            have h2 : l.length * n3 ≤ 60 * 4 := Nat.mul_le_mul (by omega) (by omega)
            omega)
          have HFB := Lib.hid (show (partsF l n3).reverse.flatten.length ≤ 1000000 by
            have := flat_le l (partsF l n3).reverse n3 (fun p hp => partsF_small l n3 p (List.mem_reverse.1 hp)) (by rw [List.length_reverse]; omega)
            have h2 : l.length * n3 ≤ 60 * 4 := Nat.mul_le_mul (by omega) (by omega)
            omega)
          have HMP := Lib.hid (merge_parts l n3 h1 h4 HA.out)
          have HMB := Lib.hid (merge_back l n3 h1 h4 HA.out)
          have HMO := Lib.hid (merge_one l)
          have HFO := Lib.hid (show [l].flatten.length ≤ 1000000 by simp; omega)
          have HML := Lib.hid (mergeL_len l)
          have HLO := Lib.hid (fun (W : World) (t : TypeId) (hW : Ext w W) => show Lists (W.alloc (.cells #[.slice A l.length c] t)) (W.heap.size + 1) (some ⟨W.heap.size, 0, none⟩) 1 [l] from
            lists_of (Blk.new W t #[.slice A l.length c]) (by omega) rfl fun i l' hl' => by
              match i, hl' with
              | 0, hl' => cases hl'; exact ⟨_, _, c, rfl, rfl, HCA.out, by omega, ((HR.out.ext hW).ext ((Ext.refl W).alloc _)).mono (Nat.zero_le _) (by have := hW.sz; omega)⟩)
          clear hLa hLb hrg hr3 hsm hback hps hl3
          have HIX := Lib.hid (fun (i : Nat) (a b : Text) (ha : (mergeL l)[i]? = some a) (hb : (mergeL l)[i + 1]? = some b) => mergeL_up l i a b ha hb)
          have HCM := Lib.hid (fun (s : Text) (h : s ∈ l) => mergeL_count l s h)
          have HMEM := Lib.hid (fun (s : Text) => (mergeL_law l).2 s)
          generalize mergeL l = M at *
          have HX6 := Lib.hid hx
          have hM6 : M.length ≤ 60 := by have := HML.out; omega
          go_wp2_with fail
          refine (merge_any (some ⟨g, 0, none⟩) n3 n3 w6.heap.size (partsF l n3) w6 (by omega) HFL.out (Nat.le_refl _) HLA.out).mono ?_
          rw [HMP.out]
          rintro _ w7 ⟨va, rfl, howna, hx7⟩
          obtain ⟨A7, n7, c7, rfl, hl7, hnc7, hcm7, hr7⟩ := howna.form
          obtain rfl : n7 = M.length := by rw [strs_length] at hl7; omega
          have HR7 := Lib.hid hr7; clear hr7 howna
          have HLB2 := Lib.hid (HLB.out.below hx7 (Nat.le_refl _))
          go_wp2_with fail
          refine (merge_any A3 n3 c3 w6.heap.size (partsF l n3).reverse w7 (by omega) HFB.out hx7.sz HLB2.out).mono ?_
          rw [HMB.out]
          rintro _ w8 ⟨vb, rfl, hownb, hx8⟩
          obtain ⟨A8, n8, c8, rfl, hl8, hnc8, hcm8, hr8⟩ := hownb.form
          obtain rfl : n8 = M.length := by rw [strs_length] at hl8; omega
          have HR8 := Lib.hid hr8; clear hr8 hownb
          have HLO2 := Lib.hid (HLO.out w8 24 ((HX6.out.trans hx7).trans hx8))
          go_wp2_with fail
          refine (merge_any (some ⟨w8.heap.size, 0, none⟩) 1 1 (w8.heap.size + 1) [l] _ (by omega) HFO.out (by simp) HLO2.out).mono ?_
          rw [HMO.out]
          rintro _ w9 ⟨vc, rfl, hownc, hx9⟩
          obtain ⟨A9, n9, c9, rfl, hl9, hnc9, hcm9, hr9⟩ := hownc.form
          obtain rfl : n9 = M.length := by rw [strs_length] at hl9; omega
          have HR9 := Lib.hid hr9; clear hr9 hownc
          have hx89 : Ext w8 w9 := ((Ext.refl w8).alloc _).trans hx9
          go_wp2_with fail
          refine (sameTexts_any A7 M c7 A8 M c8 _ _ _ _ w9 (by omega) (HR7.out.ext (hx8.trans hx89)) (HR8.out.ext hx89)).mono ?_
          rw [show decide (M = M) = true by simp]
          rintro _ w10 ⟨rfl, hx10⟩
          go_wp2_with fail
          refine (sameTexts_any A7 M c7 A9 M c9 _ _ _ _ w10 (by omega) ((HR7.out.ext (hx8.trans hx89)).ext hx10) (HR9.out.ext hx10)).mono ?_
          rw [show decide (M = M) = true by simp]
          rintro _ w11 ⟨rfl, hx11⟩
          have HRM := Lib.hid (((HR7.out.ext (hx8.trans hx89)).ext hx10).ext hx11)
          have HX11 := Lib.hid (((((HX6.out.trans hx7).trans hx8).trans hx89).trans hx10).trans hx11)
          have HRL := Lib.hid (HR.out.ext HX11.out)
          clear hx7 hx8 hx9 hx89 hx10 hx11 HR7 HR8 HR9
          go_wp2_with fail
          go_loopw [18] (fun i wr => ∃ k : Nat, k ≤ M.length ∧ i = .int .i64 (k : Int) ∧ Ext w11 wr) (fun i _ => M.length - (intOf i).toNat)
          case atStart => exact ⟨0, by omega, rfl, Ext.refl _⟩
          case round =>
            obtain ⟨k, hk, rfl, hx⟩ := hrel
            by_cases hlt : k < M.length
            · have hmk : M[k]? = some M[k] := List.getElem?_eq_getElem hlt
              obtain ⟨adm, rfl, _, _, hcm⟩ := HRM.out.at_ (strs_get M k hlt)
              have hin : M[k] ∈ l := (HMEM.out _).1 (List.getElem_mem hlt)
              have hcount : 0 < l.count M[k] := List.count_pos_iff.2 hin
              have hprev : Hid (∀ j, k = j + 1 → ∃ b, w11.cell? (adm.add j) = some (.string ⟨b.toArray⟩) ∧ Op.bytesLess M[k] b = false ∧ (M[k] == b) = false) := Lib.hid fun j hj => by
                subst hj
                obtain ⟨ad', e, _, _, h⟩ := HRM.out.at_ (strs_get M j (by omega))
                cases e
                have := HIX.out j M[j] M[j + 1] (by simp) hmk
                exact ⟨_, h, this.1, this.2⟩
              clear hmk hin
              have HCS := Lib.hid hcm; clear hcm
              generalize M[k] = s at *
              obtain ⟨x, hxc⟩ : ∃ x, l.count s = x := ⟨_, rfl⟩
              rw [hxc] at hcount
              have HXC := Lib.hid hxc; clear hxc
              have hx0 : ((x : Int) == 0) = false := by simp; omega
              have hx0' : (x == 0) = false := by simp; omega
              cases k with
              | zero =>
                rw [show ((0 : Nat) : Int) = 0 from rfl]
                go_wp2_with fail
                refine wp_region_W (phis [(20, ⟨fun v => v = .int .i64 (x : Int), fun _ _ => True, fun _ _ _ _ h => h, ⟨_, rfl⟩⟩)]) (by kernel_rfl) (by kernel_rfl) ?_
                (repeat (refine WE_det (by rfl) (by rfl) (by rfl) (fun K hK => ?_); go_big_quiet_op; refine hK _ ?_; clear hK K))
                repeat (refine WE_skip (by rfl) ?_; simp only [Act.put, List.setIfInBounds_toArray, List.set_cons_zero, List.set_cons_succ])
                (repeat (refine WE_det (by rfl) (by rfl) (by rfl) (fun K hK => ?_); go_big_quiet_op; refine hK _ ?_; clear hK K))
                refine WE_at (by rfl) (by rfl) (.string ⟨s.toArray⟩) (fun w' hx' _ => exec_load1 rfl rfl Try.underlying9 rfl ((hx.trans hx').cell_of HCS.out)) ?_
                simp only [Act.put, List.setIfInBounds_toArray, List.set_cons_zero, List.set_cons_succ]
                refine WE_act (by rfl) _ rfl (fun w' hx' _ => ?_) ?_
                · go_simp
                  refine (in_any A l.length c _ _ l s w' (by omega) rfl (HRL.out.ext (hx.trans hx'))).mono ?_
                  rw [HXC.out]
                  rintro _ _ ⟨rfl, rfl⟩
                  exact ⟨rfl, Ext.refl _⟩
                rintro _ rfl
                simp only [Act.put, List.setIfInBounds_toArray, List.set_cons_zero, List.set_cons_succ]
                (repeat (refine WE_det (by rfl) (by rfl) (by rfl) (fun K hK => ?_); go_big_quiet_op; refine hK _ ?_; clear hK K))
                refine WE_nil (fun w4 hx4 _ => ?_)
                go_wp2_with fail
                go_roundw
                case rel => exact ⟨1, by omega, by go_num, hx.trans hx4⟩
                case measure => simp [intOf]; omega
              | succ j =>
                obtain ⟨b, hcb, hb1, hb2⟩ := hprev.out j rfl
                have HCB := Lib.hid hcb; clear hcb
                have hwr : IntKind.i64.wrap (((j + 1 : Nat) : Int) - 1) = (j : Int) := by
                  rw [show (((j + 1 : Nat) : Int) - 1) = (j : Int) by omega]; exact IntWalk.i64_in _ (by omega)
                go_wp2_with fail
                refine wp_region_W (phis [(20, ⟨fun v => v = .int .i64 (x : Int), fun _ _ => True, fun _ _ _ _ h => h, ⟨_, rfl⟩⟩)]) (by kernel_rfl) (by kernel_rfl) ?_
                (repeat (refine WE_det (by rfl) (by rfl) (by rfl) (fun K hK => ?_); go_big_quiet_op; refine hK _ ?_; clear hK K))
                refine WE_at (by rfl) (by rfl) (.string ⟨s.toArray⟩) (fun w' hx' _ => exec_load1 rfl rfl Try.underlying9 rfl ((hx.trans hx').cell_of HCS.out)) ?_
                simp only [Act.put, List.setIfInBounds_toArray, List.set_cons_zero, List.set_cons_succ]
                (repeat (refine WE_det (by rfl) (by rfl) (by rfl) (fun K hK => ?_); go_big_quiet_op; refine hK _ ?_; clear hK K))
                refine WE_at (by rfl) (by rfl) (.string ⟨b.toArray⟩) (fun w' hx' _ => exec_load1 rfl rfl Try.underlying9 rfl ((hx.trans hx').cell_of HCB.out)) ?_
                simp only [Act.put, List.setIfInBounds_toArray, List.set_cons_zero, List.set_cons_succ]
                (repeat (refine WE_det (by rfl) (by rfl) (by rfl) (fun K hK => ?_); go_big_quiet_op; refine hK _ ?_; clear hK K))
                refine WE_at (by rfl) (by rfl) (.string ⟨s.toArray⟩) (fun w' hx' _ => exec_load1 rfl rfl Try.underlying9 rfl ((hx.trans hx').cell_of HCS.out)) ?_
                simp only [Act.put, List.setIfInBounds_toArray, List.set_cons_zero, List.set_cons_succ]
                refine WE_act (by rfl) _ rfl (fun w' hx' _ => ?_) ?_
                · go_simp
                  refine (in_any A l.length c _ _ l s w' (by omega) rfl (HRL.out.ext (hx.trans hx'))).mono ?_
                  rw [HXC.out]
                  rintro _ _ ⟨rfl, rfl⟩
                  exact ⟨rfl, Ext.refl _⟩
                rintro _ rfl
                simp only [Act.put, List.setIfInBounds_toArray, List.set_cons_zero, List.set_cons_succ]
                (repeat (refine WE_det (by rfl) (by rfl) (by rfl) (fun K hK => ?_); go_big_quiet_op; refine hK _ ?_; clear hK K))
                refine WE_nil (fun w4 hx4 _ => ?_)
                go_wp2_with fail
                go_roundw
                case rel => exact ⟨j + 1 + 1, by omega, by go_num, hx.trans hx4⟩
                case measure => simp [intOf]; omega
            · obtain rfl : k = M.length := by omega
              have HX12' := Lib.hid hx
              have HRM2 := Lib.hid (HRM.out.ext hx)
              have HRL2 := Lib.hid (HRL.out.ext hx)
              clear hx
              obtain ⟨w12, rfl⟩ : ∃ w12 : World, w12 = wr := ⟨_, rfl⟩
              go_wp2_with fail
              go_loop [19] (fun i => ∃ k : Nat, k ≤ l.length ∧ i = .int .i64 (k : Int)) (fun i => l.length - (intOf i).toNat)
              case atStart => exact ⟨0, by omega, rfl⟩
              case round =>
                obtain ⟨k, hk, rfl⟩ := hrel
                by_cases hlt : k < l.length
                · obtain ⟨ad, rfl, _, _, hcl⟩ := HRL2.out.at_ (strs_get l k hlt)
                  have hc1 := Lib.hid (HCM.out l[k] (List.getElem_mem hlt))
                  generalize l[k] = s at *
                  go_wp2_with (go_at_call 17; refine (in_any A7 M.length c7 _ _ M s _ (by omega) rfl HRM2.out).mono ?_; rw [hc1.out]; rintro _ _ ⟨rfl, rfl⟩)
                  go_round
                  case rel => exact ⟨k + 1, by omega, by go_num⟩
                  case measure => simp [intOf]; omega
                · obtain rfl : k = l.length := by omega
                  go_wp2_with fail
                  go_ret
                  exact ⟨rfl, HX11.out.trans HX12'.out⟩

set_option maxRecDepth 100000 in
set_option maxHeartbeats 1000000 in
theorem placeWhole_any (A : Option Addr) (c : Nat) (z : Int) (l : List Text) (w : World) (hn : l.length ≤ 9223372036854775807) (hc : l.length ≤ c) (hr : Rd w 0 w.heap.size A (strs l)) (hs : ∀ s ∈ l, s.length ≤ 9223372036854775807) :
    Calls Try.prog 5 #[.slice A l.length c, .int .i64 z] w fun e w' => e = .returned (.bool true) ∧ Ext w w' := by
  have HS := Lib.hid hs; clear hs
  have HR := Lib.hid hr; clear hr
  cases hb : longB l 60 with
  | true =>
    have HB := Lib.hid hb; clear hb
    go_enter Try.func5, Try.ntmps5
    go_wp2_with (first
      | (go_at_call 13; refine (awake_any _).mono ?_; rintro _ w1 ⟨rfl, hx1⟩)
      | (go_at_call 6; refine (long_any A _ c _ _ l 60 _ hn (by decide) rfl (HR.out.ext hx1) HS.out).mono ?_; rw [HB.out]; rintro _ _ ⟨rfl, rfl⟩))
    all_goals (go_ret; exact ⟨rfl, hx1⟩)
  | false =>
    have HB := Lib.hid hb; clear hb
    by_cases h1 : z < 1
    · have hd1 : decide (z < 1) = true := by simpa using h1
      go_enter Try.func5, Try.ntmps5
      go_wp2_with (first
        | (go_at_call 13; refine (awake_any _).mono ?_; rintro _ w1 ⟨rfl, hx1⟩)
        | (go_at_call 6; refine (long_any A _ c _ _ l 60 _ hn (by decide) rfl (HR.out.ext hx1) HS.out).mono ?_; rw [HB.out]; rintro _ _ ⟨rfl, rfl⟩))
      all_goals (go_ret; exact ⟨rfl, hx1⟩)
    · have hd1 : decide (z < 1) = false := by simpa using h1
      by_cases h4 : 4 < z
      · have hd4 : decide (4 < z) = true := by simpa using h4
        go_enter Try.func5, Try.ntmps5
        go_wp2_with (first
          | (go_at_call 13; refine (awake_any _).mono ?_; rintro _ w1 ⟨rfl, hx1⟩)
          | (go_at_call 6; refine (long_any A _ c _ _ l 60 _ hn (by decide) rfl (HR.out.ext hx1) HS.out).mono ?_; rw [HB.out]; rintro _ _ ⟨rfl, rfl⟩))
        all_goals (go_ret; exact ⟨rfl, hx1⟩)
      · obtain ⟨hl60, hs5⟩ := longB_false HB.out
        obtain ⟨m, rfl⟩ : ∃ m : Nat, z = m := ⟨z.toNat, by omega⟩
        cases hall : l.all mayB with
        | true => exact whole_main A c m l w hl60 HR.out hs5 (Lib.hid hc) (by omega) (by omega) HB hall
        | false =>
          have hd4 : decide ((4 : Int) < m) = false := by simp; omega
          have he : partsE l m = 2 := by rw [partsE, if_neg (by omega), if_neg (by omega), if_neg (by rw [hall]; decide)]
          have HE := Lib.hid he; clear he hall hs5
          go_enter Try.func5, Try.ntmps5
          go_wp2_with (first
            | (go_at_call 13; refine (awake_any _).mono ?_; rintro _ w1 ⟨rfl, hx1⟩)
            | (go_at_call 6; refine (long_any A _ c _ _ l 60 _ hn (by decide) rfl (HR.out.ext hx1) HS.out).mono ?_; rw [HB.out]; rintro _ _ ⟨rfl, rfl⟩)
            | (go_at_call 14; refine (parts_any A _ c _ _ (m : Int) l w1 hn rfl (HR.out.ext hx1) HS.out).mono ?_; rw [HE.out]; rintro _ w2 ⟨va, vs, rfl, hPa, hx2⟩))
          all_goals (go_ret; exact ⟨rfl, hx1.trans hx2⟩)
end Go.Proofs.Ytjhpdcfhdpnloaa
