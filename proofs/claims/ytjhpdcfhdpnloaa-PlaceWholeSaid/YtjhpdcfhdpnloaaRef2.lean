/- SHA-256 of the reference stowageref04: the walk of block. -/
import Derived.Test.YtjhpdcfhdpnloaaRef1
namespace Go.Proofs.Ytjhpdcfhdpnloaa
open Go.RowKit

theorem res8r {fn : Func} {tmps : Array Value} {W : World} {g : Nat} {t : TypeId} {T : Tmp} {v0 v1 v2 v3 v4 v5 v6 v7 : Int} (hr : fn.results = #[.cell T 55]) (ht : tmps.getD T undef = .pointer (some ⟨g, 0, none⟩))
    (hb : Blk W g t (u32s [v0, v1, v2, v3, v4, v5, v6, v7])) : (results fn tmps).run Try.prog W = .ok (.agg (u32s [v0, v1, v2, v3, v4, v5, v6, v7]).toArray) W := by
  have k0 := hb.cell_of (i := 0) rfl
  have k1 := hb.cell_of (i := 1) rfl
  have k2 := hb.cell_of (i := 2) rfl
  have k3 := hb.cell_of (i := 3) rfl
  have k4 := hb.cell_of (i := 4) rfl
  have k5 := hb.cell_of (i := 5) rfl
  have k6 := hb.cell_of (i := 6) rfl
  have k7 := hb.cell_of (i := 7) rfl
  clear hb
  rw [Array.getD_eq_getD_getElem?] at ht
  simp [results, hr, ht, go_sem, k0, k1, k2, k3, k4, k5, k6, k7, u32s]

set_option maxHeartbeats 400000 in
set_option maxRecDepth 100000 in
theorem refBlock_any (hs ks : List Int) (A : Option Addr) (n c lo hi a : Nat) (bs : List UInt8) (w : World) (hn : bs.length = n) (h64 : a + 64 ≤ n) (hbig : n < 2000000000000) (hr : Rd w lo hi A (bytesV bs)) (h8 : hs.length = 8) (hw : Words hs) (hk : ks.length = 64) :
    Calls Try.prog 52 #[.agg (u32s hs).toArray, .agg (u32s ks).toArray, .slice A n c, .int .i64 a] w fun e w' => e = .returned (.agg (u32s (mixed ks (bs.drop a) hs)).toArray) ∧ Ext w w' := by
  go_enter Try.func52, Try.ntmps52
  have HN := Lib.hid hn; clear hn
  have H8 := Lib.hid h8; clear h8
  have HK := Lib.hid hk; clear hk
  obtain ⟨ad, rfl, hc⟩ : ∃ ad, A = some ad ∧ ∀ w', Ext w w' → ∀ k, a + k < n → w'.cell? (ad.add (a + k)) = some (.int .u8 (byteAt (bs.drop a) k)) := by
    have hpos : 0 < bs.length := by have : bs.length = n := HN.out; omega
    obtain ⟨ad, e, _, _, hc⟩ := hr (by intro e; have := congrArg List.length e; simp [bytesV] at this; simp [this] at hpos)
    refine ⟨ad, e, fun w' hx k hk => ?_⟩
    obtain ⟨ad', e', _, _, hc'⟩ := (hr.ext hx).at_ (bytesV_get bs (a + k) (by have : bs.length = n := HN.out; omega))
    rw [e] at e'; cases e'; rw [byteAt_drop]; exact hc'
  clear hr
  generalize hds : bs.drop a = ds at *
  clear hds
  go_wp2_with fail
  go_loopw [10] (fun i wr => ∃ t : Nat, t ≤ 64 ∧ i = .int .i64 t ∧ Ext w wr ∧ Blk wr w.heap.size 55 (u32s hs) ∧
    Blk wr (w.heap.size + 1) 57 (u32s ks) ∧ Blk wr (w.heap.size + 1 + 1) 55 (List.replicate 8 (.int .u32 0)) ∧ Blk wr (w.heap.size + 1 + 1 + 1) 57 (u32s (sched ds t))) (fun i _ => 64 - (intOf i).toNat)
  case atStart =>
    exact ⟨0, by omega, rfl, ((((Ext.refl w).alloc _).alloc _).alloc _).alloc _, (((Blk.new w _ (u32s hs).toArray).alloc _).alloc _).alloc _, ((Blk.new1 w _ _ (u32s ks).toArray).alloc _).alloc _, (Blk.new2 w _ _ _ _).alloc _, Blk.new3 w _ _ _ _ _⟩
  case round =>
    obtain ⟨t, ht, rfl, hx, b0, b1, b2, b3⟩ := hrel
    by_cases h16 : t < 16
    · go_wp2_with fail
      obtain ⟨wo, rfl⟩ : ∃ wo : World, wo = wr := ⟨_, rfl⟩
      go_loopw [11] (fun i wr => ∃ j : Nat, j ≤ 4 ∧ i = .int .i64 j ∧ Ext w wr ∧ Blk wr w.heap.size 55 (u32s hs) ∧
        Blk wr (w.heap.size + 1) 57 (u32s ks) ∧ Blk wr (w.heap.size + 1 + 1) 55 (List.replicate 8 (.int .u32 0)) ∧ Blk wr (w.heap.size + 1 + 1 + 1) 57 (u32s ((sched ds t).set t (wpart ds t j)))) (fun i _ => 4 - (intOf i).toNat)
      case atStart => exact ⟨0, by omega, rfl, hx, b0, b1, b2, by rw [sched_part0 ds t (by omega)]; exact b3⟩
      case round =>
        clear hx b0 b1 b2 b3
        obtain ⟨j, hj, rfl, hx, b0, b1, b2, b3⟩ := hrel
        by_cases hlt : j < 4
        · have c0 := hc wr hx (4 * t + j) (by omega)
          rw [← Nat.add_assoc] at c0
          clear hc
          have hcell := u32s_at b3 t (by rw [List.length_set, sched_length]; omega)
          rw [wd_set_self _ _ _ (by rw [sched_length]; omega)] at hcell
          have hf := b3.frozen t
          have hr0 := wpart_range ds t j
          go_wp2_with fail
          refine wp_region_quiet_tail 17 (by kernel_rfl) (by kernel_rfl) (by kernel_rfl) ?_; simp only [List.take_succ_cons, List.take_zero, List.drop_succ_cons, List.drop_zero]; (repeat (go_big_quiet_step (fail))); refine wpQuiet_nil ?_
          go_wp2_with fail
          go_roundw
          case rel => exact ⟨j + 1, by omega, by go_num, (hx.drew).set (by simp; omega) _, b0.drew.far (by simp; omega) _, b1.drew.far (by simp) _, b2.drew.far (by simp) _, by have := (b3.u32_set t (wpart ds t (j + 1))).drew; rw [List.set_set] at this; exact this⟩
          case measure => simp [intOf]; omega
        · obtain rfl : j = 4 := by omega
          rw [show ((4 : Nat) : Int) = 4 from rfl]
          go_wp2_with fail
          go_roundw
          case rel => exact ⟨t + 1, by omega, by go_num, hx, b0, b1, b2, by rw [sched_first ds t h16, ← wpart_four]; exact b3⟩
          case measure => simp [intOf]; omega
    · by_cases hlt : t < 64
      · go_wp2_with fail
        have e15 := u32s_at b3 (t - 15) (by rw [sched_length]; omega)
        have e2 := u32s_at b3 (t - 2) (by rw [sched_length]; omega)
        have r15 := sched_range ds t (t - 15)
        have r2 := sched_range ds t (t - 2)
        go_quiet (first | (go_at_call 60; first | exact quiet_more (right_any _ _ _ (by decide) (by omega) (by omega)) | exact quiet_add_more (right_any _ _ _ (by decide) (by omega) (by omega))))
        go_wp2_with fail
        go_quiet (first | (go_at_call 60; first | exact quiet_more (right_any _ _ _ (by decide) (by omega) (by omega)) | exact quiet_add_more (right_any _ _ _ (by decide) (by omega) (by omega))))
        go_wp2_with fail
        have e7 := u32s_at b3 (t - 7) (by rw [sched_length]; omega)
        have e16 := u32s_at b3 (t - 16) (by rw [sched_length]; omega)
        have et := u32s_at b3 t (by rw [sched_length]; omega)
        have hf := b3.frozen t
        refine wp_region_quiet_tail 15 (by kernel_rfl) (by kernel_rfl) (by kernel_rfl) ?_; simp only [List.take_succ_cons, List.take_zero, List.drop_succ_cons, List.drop_zero]; (repeat (go_big_quiet_step (fail))); refine wpQuiet_nil ?_
        go_wp2_with fail
        go_roundw
        case rel => exact ⟨t + 1, by omega, by go_num, ((hx.drewN _).drew).set (by simp; omega) _, b0.far (by simp; omega) _, b1.far (by simp) _, b2.far (by simp) _, by rw [sched_next ds t (by omega)]; exact (b3.drewN _).u32_set t _⟩
        case measure => simp [intOf]; omega
      · obtain rfl : t = 64 := by omega
        rw [show ((64 : Nat) : Int) = 64 from rfl]
        clear ht h16 hlt
        have f0 := u32s_at b0 0 (by have : hs.length = 8 := H8.out; omega)
        have f1 := u32s_at b0 1 (by have : hs.length = 8 := H8.out; omega)
        have f2 := u32s_at b0 2 (by have : hs.length = 8 := H8.out; omega)
        have f3 := u32s_at b0 3 (by have : hs.length = 8 := H8.out; omega)
        have f4 := u32s_at b0 4 (by have : hs.length = 8 := H8.out; omega)
        have f5 := u32s_at b0 5 (by have : hs.length = 8 := H8.out; omega)
        have f6 := u32s_at b0 6 (by have : hs.length = 8 := H8.out; omega)
        have f7 := u32s_at b0 7 (by have : hs.length = 8 := H8.out; omega)
        go_wp2_with fail
        clear f0 f1 f2 f3 f4 f5 f6 f7
        have hg := b3.lt
        obtain ⟨gx, hgx⟩ : ∃ gx, gx = wr.heap.size := ⟨_, rfl⟩
        rw [← hgx] at hg ⊢
        have HG := Lib.hid hgx; clear hgx
        go_loopw [15] (fun i wx => ∃ t : Nat, t ≤ 64 ∧ i = .int .i64 t ∧ Ext w wx ∧ Blk wx w.heap.size 55 (u32s hs) ∧ Blk wx (w.heap.size + 1) 57 (u32s ks) ∧
          Blk wx (w.heap.size + 1 + 1) 55 (List.replicate 8 (.int .u32 0)) ∧ Blk wx (w.heap.size + 1 + 1 + 1) 57 (u32s (sched ds 64)) ∧
          Blk wx gx 55 (u32s (rounds ks (sched ds 64) hs t))) (fun i _ => 64 - (intOf i).toNat)
        case atStart =>
          refine ⟨0, by omega, rfl, hx.alloc _, b0.alloc _, b1.alloc _, b2.alloc _, b3.alloc _, ?_⟩
          rw [HG.out]
          exact Eq.mp (congrArg (fun l => Blk _ wr.heap.size 55 (u32s l)) (eight hs H8.out)) (Blk.new wr _ _)
        case round =>
          clear hx b0 b1 b2 b3
          obtain ⟨t, ht, rfl, hx, b0, b1, b2, b3, b4⟩ := hrel
          have HL := Lib.hid (rounds_length ks (sched ds 64) hs H8.out t)
          have HR := Lib.hid (rounds_words ks (sched ds 64) hs hw t)
          generalize hs' : rounds ks (sched ds 64) hs t = s at *
          have HS := Lib.hid hs'; clear hs'
          by_cases hlt : t < 64
          · have f0 := u32s_at b4 0 (by have : s.length = 8 := HL.out; omega)
            have f1 := u32s_at b4 1 (by have : s.length = 8 := HL.out; omega)
            have f2 := u32s_at b4 2 (by have : s.length = 8 := HL.out; omega)
            have f3 := u32s_at b4 3 (by have : s.length = 8 := HL.out; omega)
            have f4 := u32s_at b4 4 (by have : s.length = 8 := HL.out; omega)
            have f5 := u32s_at b4 5 (by have : s.length = 8 := HL.out; omega)
            have f6 := u32s_at b4 6 (by have : s.length = 8 := HL.out; omega)
            have f7 := u32s_at b4 7 (by have : s.length = 8 := HL.out; omega)
            have fk := u32s_at b1 t (by have : ks.length = 64 := HK.out; omega)
            have fw := u32s_at b3 t (by rw [sched_length]; omega)
            have g4 := HR.out 4
            have g0 := HR.out 0
            have z0 := b4.frozen 0
            have z1 := b4.frozen 1
            have z2 := b4.frozen 2
            have z3 := b4.frozen 3
            have z4 := b4.frozen 4
            have z5 := b4.frozen 5
            have z6 := b4.frozen 6
            have z7 := b4.frozen 7
            go_wp2_with fail
            go_quiet (first | (go_at_call 60; first | exact quiet_more (right_any _ _ _ (by decide) (by omega) (by omega)) | exact quiet_add_more (right_any _ _ _ (by decide) (by omega) (by omega))))
            go_wp2_with fail
            go_quiet (first | (go_at_call 60; first | exact quiet_more (right_any _ _ _ (by decide) (by omega) (by omega)) | exact quiet_add_more (right_any _ _ _ (by decide) (by omega) (by omega))))
            go_wp2_with fail
            go_roundw
            case rel =>
              refine ⟨t + 1, by omega, by go_num, (hx.drewN _).below (below_set8 _ _ _ _ _ _ _ _ _ _) (by omega), (b0.drewN _).below (below_set8 _ _ _ _ _ _ _ _ _ _) (by omega), (b1.drewN _).below (below_set8 _ _ _ _ _ _ _ _ _ _) (by omega), (b2.drewN _).below (below_set8 _ _ _ _ _ _ _ _ _ _) (by omega), (b3.drewN _).below (below_set8 _ _ _ _ _ _ _ _ _ _) (by omega), ?_⟩
              rw [rounds, HS.out]
              exact blk_set8 (b4.drewN _) HL.out _ _ _ _ _ _ _ _
            case measure => simp [intOf]; omega
          · obtain rfl : t = 64 := by omega
            rw [show ((64 : Nat) : Int) = 64 from rfl]
            go_wp2_with fail
            go_loopw [18] (fun i wx => ∃ t : Nat, t ≤ 8 ∧ i = .int .i64 t ∧ Ext w wx ∧ Blk wx w.heap.size 55 (u32s (addTo hs s t)) ∧
              Blk wx (w.heap.size + 1 + 1) 55 (List.replicate 8 (.int .u32 0)) ∧ Blk wx gx 55 (u32s s)) (fun i _ => 8 - (intOf i).toNat)
            case atStart => exact ⟨0, by omega, rfl, hx, b0, b2, b4⟩
            case round =>
              clear hx b0 b1 b2 b3 b4
              obtain ⟨t, ht, rfl, hx, b0, b2, b4⟩ := hrel
              have HA := Lib.hid (addTo_length hs s t)
              generalize ha' : addTo hs s t = ys at *
              have HA' := Lib.hid ha'; clear ha'
              by_cases hlt : t < 8
              · have f1 := u32s_at b0 t (by have : ys.length = hs.length := HA.out; have : hs.length = 8 := H8.out; omega)
                have f2 := u32s_at b4 t (by have : s.length = 8 := HL.out; omega)
                have z1 := b0.frozen t
                go_wp2_with fail
                refine wp_region_quiet_tail 9 (by kernel_rfl) (by kernel_rfl) (by kernel_rfl) ?_; simp only [List.take_succ_cons, List.take_zero, List.drop_succ_cons, List.drop_zero]; (repeat (go_big_quiet_step (fail))); refine wpQuiet_nil ?_
                go_wp2_with fail
                go_roundw
                case rel =>
                  refine ⟨t + 1, by omega, by go_num, (hx.set (Nat.le_refl _) _).drew, ?_, (b2.far (by simp; omega) _).drew, (b4.far (by simp; omega) _).drew⟩
                  rw [addTo, HA'.out]
                  exact (b0.u32_set t _).drew
                case measure => simp [intOf]; omega
              · obtain rfl : t = 8 := by omega
                rw [show ((8 : Nat) : Int) = 8 from rfl]
                have hy8 : ys.length = 8 := by have : ys.length = hs.length := HA.out; have : hs.length = 8 := H8.out; omega
                have f0 := u32s_at b0 0 (by omega)
                have f1 := u32s_at b0 1 (by omega)
                have f2 := u32s_at b0 2 (by omega)
                have f3 := u32s_at b0 3 (by omega)
                have f4 := u32s_at b0 4 (by omega)
                have f5 := u32s_at b0 5 (by omega)
                have f6 := u32s_at b0 6 (by omega)
                have f7 := u32s_at b0 7 (by omega)
                have q0 := b2.cell_of (i := 0) rfl
                have q1 := b2.cell_of (i := 1) rfl
                have q2 := b2.cell_of (i := 2) rfl
                have q3 := b2.cell_of (i := 3) rfl
                have q4 := b2.cell_of (i := 4) rfl
                have q5 := b2.cell_of (i := 5) rfl
                have q6 := b2.cell_of (i := 6) rfl
                have q7 := b2.cell_of (i := 7) rfl
                have z0 := b2.frozen 0
                have z1 := b2.frozen 1
                have z2 := b2.frozen 2
                have z3 := b2.frozen 3
                have z4 := b2.frozen 4
                have z5 := b2.frozen 5
                have z6 := b2.frozen 6
                have z7 := b2.frozen 7
                have hfin : mixed ks ds hs = ys := by rw [mixed, HS.out, HA'.out]
                have HY := Lib.hid hy8
                have HF := Lib.hid hfin
                clear hy8 hfin
                go_wp2_with fail
                have hb := blk_set8 (w := wr) (g := w.heap.size + 1 + 1) (s := List.replicate 8 0) b2 rfl (wd ys 0) (wd ys 1) (wd ys 2) (wd ys 3) (wd ys 4) (wd ys 5) (wd ys 6) (wd ys 7)
                refine bodyPost_ret (res8r rfl rfl hb) rfl ⟨?_, hx.below (below_set8 _ _ _ _ _ _ _ _ _ _) (by omega)⟩
                rw [eight ys HY.out, HF.out]
end Go.Proofs.Ytjhpdcfhdpnloaa
