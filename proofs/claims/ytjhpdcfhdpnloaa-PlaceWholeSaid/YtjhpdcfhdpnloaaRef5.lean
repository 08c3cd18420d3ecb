/- SHA-256 of the reference stowageref04: the walk of Sum. Conditions: bytes that are read, fewer than 10^12. -/
import Derived.Test.YtjhpdcfhdpnloaaRef4
namespace Go.Proofs.Ytjhpdcfhdpnloaa
open Go.RowKit
attribute [local go_sem] Oper.acts Oper.actsUpon

theorem paddedZ (bs : List UInt8) (x : Nat) (h : x = 8 * bs.length) : bytesV (bs ++ 128 :: List.replicate (zerosOf bs.length) 0) ++ bytesV (eightB x 8) = bytesV (padded bs) := by
  rw [← bytesV_append, padded, lastOf, lenBytes_eight, h]; simp
set_option maxHeartbeats 2500000 in
set_option maxRecDepth 100000 in
theorem refSum_any (A : Option Addr) (n c lo hi : Nat) (bs : List UInt8) (w : World) (hn : bs.length = n) (hc : n ≤ c) (hlt : n < 1000000000000) (hr : Rd w lo hi A (bytesV bs)) :
    Calls Try.prog 36 #[.slice A n c] w fun e w' => e = .returned (.agg (bytesV (sha bs)).toArray) ∧ Ext w w' := by
  go_enter Try.func36, Try.ntmps36
  have HN := Lib.hid hn; clear hn
  have hlt12 := Lib.hid hlt; clear hlt
  have hown0 := Own.fresh (w.alloc (.cells (Array.replicate 32 (.int .u8 0)) 47)) 5 [] (Nat.zero_le _) IsByte
  rw [show (w.alloc (.cells (Array.replicate 32 (.int .u8 0)) 47)).heap.size = w.heap.size + 1 by simp] at hown0
  go_wp2_with ((with_reducible refine gate (appendOp (.tmp 9) (.tmp 10) 49) rfl ?_); go_loud (refine wpList_append (xs := []) rfl _ _ _ rfl rfl rfl hown0 Try.underlying49 Try.infoByte rfl isByte_zero (((hr.ext ((Ext.refl w).alloc _)).ext ((Ext.refl _).alloc _))) (by exact (bytesV_length _).trans HN.out) (bytesV_one _) (by have := hlt12.out; simp; omega) (by have := hlt12.out; simp [maxLen]; omega) (by simp) ?_))
  intro v1 w1 hown1 hg1 _
  clear hown0
  have hwo : Ext (w.alloc (.cells (Array.replicate 32 (.int .u8 0)) 47)) w1 := ((Ext.refl _).alloc _).grown hg1 (fun k hk => by cases hk; simp)
  have hxo : Ext w (w.alloc (.cells (Array.replicate 32 (.int .u8 0)) 47)) := (Ext.refl w).alloc _
  have bd := Blk.new w 47 (Array.replicate 32 (.int .u8 0))
  have hso : (w.alloc (.cells (Array.replicate 32 (.int .u8 0)) 47)).heap.size = w.heap.size + 1 := by simp
  clear hg1
  generalize w.alloc (.cells (Array.replicate 32 (.int .u8 0)) 47) = wo at *
  have bdo : Blk wo w.heap.size 47 (List.replicate 32 (.int .u8 0)) := bd
  clear bd
  go_wp2_with ((with_reducible refine gate (appendOp (.tmp 12) (.tmp 13) 49) rfl ?_); go_loud (refine wpList_append rfl _ _ _ rfl rfl rfl (hown1.alloc _) Try.underlying49 Try.infoByte rfl isByte_zero (rd_one _ _ _) rfl (fun u hu => by simp at hu; subst hu; rfl) (by simp [bytesV_length]; have := HN.out; have := hlt12.out; omega) (by simp [bytesV_length, maxLen]; have := HN.out; have := hlt12.out; omega) (by simp; have := hwo.sz; omega) ?_))
  intro v2 w2 hown2 hg2 _
  have hw2 : Ext wo w2 := (hwo.alloc _).grown hg2 (fun k hk => by have := (hown1.lt k hk).1; omega)
  rw [show bytesV bs ++ [Value.int .u8 128] = bytesV (bs ++ 128 :: List.replicate 0 0) by rw [bytesV_append]; rfl] at hown2
  clear hg2 hown1 hwo
  go_wp2_with fail
  go_loopw [3] (fun v wx => ∃ z : Nat, z ≤ zerosOf bs.length ∧ Ext wo wx ∧ Own wx (w.heap.size + 1) 5 1 IsByte v (bytesV (bs ++ 128 :: List.replicate z 0)))
    (fun v _ => match v with | .slice _ q _ => bs.length + 1 + zerosOf bs.length - q | _ => 0)
  case atStart => exact ⟨0, by omega, hw2, hown2⟩
  case round =>
    clear hw2 hown2
    obtain ⟨z, hz, hwx, hown⟩ := hrel
    obtain ⟨A2, n2, c2, rfl, hl2, hnc2, hcm2, hr2⟩ := hown.form
    have hn2 : n2 = bs.length + 1 + z := by
      rw [bytesV_length] at hl2; simp at hl2; omega
    by_cases hlt : z < zerosOf bs.length
    · have t1 : (n2 % 64 != 56) = true := by rw [bne_iff_ne, hn2]; exact zeros_lt _ _ hlt
      have t2 : ((n2 : Int) % 64 != 56) = true := by rw [bne_iff_ne] at t1 ⊢; omega
      have HN2 := Lib.hid hn2
      clear hn2 hl2
      go_wp2_with ((with_reducible refine gate (appendOp (.tmp 19) (.tmp 20) 49) rfl ?_); go_loud (refine wpList_append rfl _ _ _ rfl rfl rfl (hown.alloc _) Try.underlying49 Try.infoByte rfl isByte_zero (rd_one _ _ _) rfl (fun u hu => by simp at hu; subst hu; rfl) (by simp [bytesV_length]; have := HN.out; have := hlt12.out; have := zeros_le bs.length; omega) (by simp [bytesV_length, maxLen]; have := HN.out; have := hlt12.out; have := zeros_le bs.length; omega) (by simp; have := hwx.sz; omega) ?_))
      intro v3 w3 hown3 hg3 _
      have hw3 : Ext wo w3 := (hwx.alloc _).grown hg3 (fun k hk => by have := (hown.lt k hk).1; omega)
      rw [zero_more] at hown3
      clear hg3
      obtain ⟨A4, n4, c4, rfl, hl4, _, _, _⟩ := hown3.form
      have hn4 : n4 = bs.length + 1 + (z + 1) := by rw [bytesV_length] at hl4; simp at hl4; omega
      have HN4 := Lib.hid hn4
      clear hn4 hl4
      go_wp2_with fail
      go_roundw
      case rel => exact ⟨z + 1, by omega, hw3, hown3⟩
      case measure =>
        show bs.length + 1 + zerosOf bs.length - n4 < bs.length + 1 + zerosOf bs.length - n2
        have e1 : n4 = bs.length + 1 + (z + 1) := HN4.out
        have e2 : n2 = bs.length + 1 + z := HN2.out
        omega
    · have hz' : z = zerosOf bs.length := by omega
      have t1 : (n2 % 64 != 56) = false := by rw [bne_eq_false_iff_eq, hn2, hz']; exact zeros_eq _
      have t2 : ((n2 : Int) % 64 != 56) = false := by rw [bne_eq_false_iff_eq] at t1 ⊢; omega
      rw [hz'] at hown
      clear hr2 hlt hz hz' hl2 hn2
      obtain ⟨w3, rfl⟩ : ∃ w3 : World, w3 = wr := ⟨_, rfl⟩
      have hn12 : n < 1000000000000 := hlt12.out
      go_wp2_with (first
        | (go_at_call 49; refine (eight_any (8 * n) _ (by omega)).mono ?_; rintro _ w4 ⟨v8, rfl, hx4, hown8⟩; obtain ⟨A8, n8, c8, rfl, hl8, hnc8, hcm8, hr8⟩ := hown8.form; obtain rfl : n8 = 8 := (by rw [bytesV_length, eightB_length] at hl8; omega))
        | ((with_reducible refine gate (appendOp (.tmp 22) (.tmp 27) 49) rfl ?_); go_loud (refine wpList_append rfl _ _ _ rfl rfl rfl (hown.ext hx4) Try.underlying49 Try.infoByte rfl isByte_zero hr8 (by exact hl8) (bytesV_one _) (by simp [bytesV_length]; have := HN.out; have := hlt12.out; have := zeros_le bs.length; omega) (by simp [bytesV_length, maxLen]; have := HN.out; have := hlt12.out; have := zeros_le bs.length; omega) (by have := hwx.sz; have := hx4.sz; omega) ?_)))
      intro v5 w5 hown5 hg5 _
      have hw5 : Ext wo w5 := (hwx.trans hx4).grown hg5 (fun k hk => by have := (hown.lt k hk).1; omega)
      rw [paddedZ bs (8 * n) (by rw [HN.out])] at hown5
      clear hg5 hown8 hr8 hx4 hown hwx hn12
      obtain ⟨A6, n6, c6, rfl, hl6, hnc6, hcm6, hr6⟩ := hown5.form
      have hn6 : (padded bs).length = n6 := by rw [bytesV_length] at hl6; omega
      have hb6 : n6 < 2000000000000 := by
        have e1 : (padded bs).length = bs.length + 1 + zerosOf bs.length + 8 := by simp [padded, lastOf, lenBytes_length]; omega
        have := zeros_le bs.length; have := HN.out; have := hlt12.out; omega
      have h64 : n6 % 64 = 0 := by rw [← hn6]; exact lastOf_length bs bs.length
      have hsha := Lib.hid (sha_padded bs)
      rw [hn6] at hsha
      clear hl6 hown5
      generalize padded bs = L at *
      have HN6 := Lib.hid hn6
      clear hn6
      go_wp2_with (first | (go_at_call 50; refine (begin_any _).mono ?_; rintro _ w6 ⟨rfl, hx6⟩) |
        ((with_reducible refine gate (.store 55 (.tmp 4) (.tmp 29)) rfl ?_); refine wpList_store_blk rfl 55 (.tmp 4) (.tmp 29) rfl rfl _ rfl (cs := u32s shaH) (by exact rfl) (Blk.new _ 55 (Array.replicate 8 (.int .u32 0))) (by exact rfl) (by exact rfl) (by exact one_u32s _) ?_))
      intro w7 hb7 hx7
      have hgh : w5.heap.size ≤ w6.heap.size := hx6.sz
      have hx57 : Ext w5 w7 := (hx6.alloc _).below hx7 hgh
      generalize w6.heap.size = gh at hb7 hgh ⊢
      clear hx7 hx6
      go_wp2_with (first | (go_at_call 51; refine (table_any _).mono ?_; rintro _ w8 ⟨rfl, hx8⟩) |
        ((with_reducible refine gate (.store 57 (.tmp 5) (.tmp 30)) rfl ?_); refine wpList_store_blk rfl 57 (.tmp 5) (.tmp 30) rfl rfl _ rfl (cs := u32s shaK) (by exact rfl) (Blk.new _ 57 (Array.replicate 64 (.int .u32 0))) (by exact rfl) (by exact rfl) (by exact one_u32s _) ?_))
      intro w9 hb9 hx9
      have hgk : gh < w8.heap.size := by have := hx8.sz; have := hb7.lt; omega
      have hb79 := ((hb7.ext hx8).alloc (.cells (Array.replicate 64 (.int .u32 0)) 57)).below hx9 hgk
      have hx59 : Ext w5 w9 := ((hx57.trans hx8).alloc _).below hx9 (by omega)
      generalize w8.heap.size = gk at hb9 hgk ⊢
      clear hx9 hx8 hb7 hx57
      go_wp2_with fail
      go_loopw [6] (fun v wx => ∃ i a : Nat, Hid (a = 64 * i) ∧ a ≤ n6 ∧ a % 64 = 0 ∧ v = .int .i64 (a : Int) ∧ Ext w5 wx ∧ Blk wx gh 55 (u32s (blocks L shaH i)) ∧ Blk wx gk 57 (u32s shaK)) (fun v _ => n6 - (intOf v).toNat)
      case atStart => exact ⟨0, 0, Lib.hid rfl, by omega, rfl, rfl, hx59, hb79, hb9⟩
      case round =>
        clear hx59 hb79 hb9
        obtain ⟨i, a, ha, hi, ha64, rfl, hx, bh, bk⟩ := hrel
        have HB' := Lib.hid (show blocks L shaH (i + 1) = mixed shaK (L.drop a) (blocks L shaH i) from by rw [ha.out]; rfl)
        have HL' := Lib.hid (blocks_length L shaH rfl i)
        have HW' := Lib.hid (blocks_words L shaH shaH_words i)
        generalize hst : blocks L shaH i = st at *
        have HST := Lib.hid hst
        clear hst
        by_cases hlt : a < n6
        · have h64i : a + 64 ≤ n6 := by omega
          go_wp2_with (first
            | ((with_reducible refine gate (.load 55 (.tmp 4)) rfl ?_); refine wpList_load_blk rfl _ _ rfl _ rfl bh Try.underlying55 rfl (by rw [u32s, List.length_map, HL'.out]; kernel_rfl) ?_)
            | ((with_reducible refine gate (.load 57 (.tmp 5)) rfl ?_); refine wpList_load_blk rfl _ _ rfl _ rfl bk Try.underlying57 rfl (by kernel_rfl) ?_)
            | (go_at_call 52; refine (refBlock_any st shaK A6 n6 c6 _ _ a L _ HN6.out h64i hb6 (hr6.ext hx) HL'.out HW'.out rfl).mono ?_; rintro _ wb ⟨rfl, hxb⟩)
            | ((with_reducible refine gate (.store 55 (.tmp 4) (.tmp 41)) rfl ?_); refine wpList_store_row rfl _ _ _ rfl rfl _ rfl (cs := u32s (mixed shaK (L.drop a) st)) rfl (bh.ext hxb) (by rw [u32s, List.length_map, mixed_length _ _ _ HL'.out]; kernel_rfl) (by rw [u32s, u32s, List.length_map, List.length_map, mixed_length _ _ _ HL'.out]; exact HL'.out) (one_u32s _) ?_))
          intro wc hbc hxc
          go_wp2_with fail
          go_roundw
          case rel => exact ⟨i + 1, a + 64, Lib.hid (by have := ha.out; omega), by omega, by omega, by go_num, (hx.trans hxb).grown hxc (fun k hk => by cases hk; exact hgh), by rw [HB'.out]; exact hbc, (bk.ext hxb).grown hxc (by simp; omega)⟩
          case measure => simp [intOf]; omega
        · have hi6 : n6 / 64 = i := by have := ha.out; omega
          rw [hi6] at hsha
          rw [HST.out] at hsha
          clear hi6 h64
          obtain ⟨wd0, rfl⟩ : ∃ wd0 : World, wd0 = wr := ⟨_, rfl⟩
          have bd6 := (bdo.ext hw5).ext hx
          have hd0 : w.heap.size < wd0.heap.size := bd6.lt
          go_wp2_with fail
          go_loopw [8] (fun v wx => ∃ t : Nat, t ≤ 32 ∧ v = .int .i64 (t : Int) ∧ Ext wd0 wx ∧ Blk wx wd0.heap.size 47 (bytesV (outB st t))) (fun v _ => 32 - (intOf v).toNat)
          case atStart => exact ⟨0, by omega, rfl, (Ext.refl wd0).alloc _, Blk.new wd0 _ _⟩
          case round =>
            obtain ⟨t, ht, rfl, hx8, hb8⟩ := hrel
            by_cases hlt8 : t < 32
            · have hb0 := (bh.ext hx8)
              have f0 := u32s_at hb0 (t / 4) (by rw [HL'.out]; omega)
              have hrg := HW'.out (t / 4)
              obtain ⟨u0, d0⟩ := byte_cell hb8 t (by rw [outB_length]; omega)
              have z0 := hb8.frozen t
              clear hb0 HB' HST HL' hsha bh bk bdo bd6 hr6 HN6
              go_wp2_with fail
              go_roundw
              case rel =>
                refine ⟨t + 1, by omega, by go_num, hx8.set (by simp) _, ?_⟩
                refine hb8.byte_set t (wordByte (wd st (t / 4)) (3 - t % 4)) _ ?_
                rw [wordByte_nat _ hrg.1, show 8 * (3 - t % 4) = 24 - 8 * (t % 4) by omega]
                simp
              case measure => simp [intOf]; omega
            · obtain rfl : t = 32 := by omega
              rw [show ((32 : Nat) : Int) = 32 from rfl]
              go_wp2_with (first
                | ((with_reducible refine gate (.load 47 (.tmp 7)) rfl ?_); refine wpList_load_blk rfl _ _ rfl _ rfl hb8 Try.underlying47 rfl (by rw [bytesV_length, outB_length]; kernel_rfl) ?_)
                | ((with_reducible refine gate (.store 47 (.tmp 2) (.tmp 58)) rfl ?_); refine wpList_store_row rfl _ _ _ rfl rfl _ rfl (cs := bytesV (outB st 32)) rfl (bd6.ext hx8) (by rw [bytesV_length, outB_length]; kernel_rfl) (by rw [bytesV_length, outB_length]; rfl) (bytesV_one _) ?_))
              intro w9 hb9 hx9
              go_wp2_with fail
              refine bodyPost_ret (results_cell_blk (cs := bytesV (outB st 32)) rfl rfl hb9 Try.underlying47 rfl (by rw [bytesV_length, outB_length]; kernel_rfl)) rfl ⟨by rw [← hsha.out, ← outB_dg], ?_⟩
              exact ((((hxo.trans hw5).trans hx).trans hx8).grown hx9 (fun k hk => by cases hk; exact Nat.le_refl _))
end Go.Proofs.Ytjhpdcfhdpnloaa
