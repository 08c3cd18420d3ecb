/- SHA-256 of the reference stowageref04: its constants, and eight bytes of a number. No conditions. -/
import Derived.Test.YtjhpdcfhdpnloaaRef2
import Derived.Test.YtjhpdcfhdpnloaaDigest3
namespace Go.Proofs.Ytjhpdcfhdpnloaa
open Go.RowKit
attribute [local go_sem] Oper.acts Oper.actsUpon

set_option maxHeartbeats 400000 in
set_option maxRecDepth 100000 in
theorem table_any (w : World) : Calls Try.prog 51 #[] w fun e w' => e = .returned (.agg (u32s shaK).toArray) ∧ Ext w w' := by
  go_enter Try.func51, Try.ntmps51
  go_wp2_with ((with_reducible refine gate (.store 57 (.tmp 0) (.tmp 1)) rfl ?_); refine wpList_store_blk rfl 57 (.tmp 0) (.tmp 1) rfl rfl w.heap.size rfl (cs := u32s shaK) (by exact rfl) (Blk.new w 57 (Array.replicate 64 (.int .u32 0))) (by exact rfl) (by exact rfl) (by exact one_u32s _) ?_)
  intro w1 hb hx
  go_wp2_with fail
  refine bodyPost_ret (results_cell_blk (cs := u32s shaK) rfl rfl hb Try.underlying57 rfl rfl) rfl ⟨rfl, ((Ext.refl w).alloc _).below hx (Nat.le_refl _)⟩
set_option maxHeartbeats 400000 in
set_option maxRecDepth 100000 in
theorem begin_any (w : World) : Calls Try.prog 50 #[] w fun e w' => e = .returned (.agg (u32s shaH).toArray) ∧ Ext w w' := by
  go_enter Try.func50, Try.ntmps50
  go_wp2_with ((with_reducible refine gate (.store 55 (.tmp 0) (.tmp 1)) rfl ?_); refine wpList_store_blk rfl 55 (.tmp 0) (.tmp 1) rfl rfl w.heap.size rfl (cs := u32s shaH) (by exact rfl) (Blk.new w 55 (Array.replicate 8 (.int .u32 0))) (by exact rfl) (by exact rfl) (by exact one_u32s _) ?_)
  intro w1 hb hx
  go_wp2_with fail
  refine bodyPost_ret (results_cell_blk (cs := u32s shaH) rfl rfl hb Try.underlying55 rfl rfl) rfl ⟨rfl, ((Ext.refl w).alloc _).below hx (Nat.le_refl _)⟩

def eightB (x k : Nat) : List UInt8 := (List.range k).map fun j => UInt8.ofNat (x / 2 ^ (56 - 8 * j))
theorem eightB_length (x k : Nat) : (eightB x k).length = k := by simp [eightB]
theorem eightB_more (x k : Nat) (y : Int) (h : y = ((x / 2 ^ (56 - 8 * k) % 256 : Nat) : Int)) : bytesV (eightB x k) ++ [Value.int .u8 y] = bytesV (eightB x (k + 1)) := by
  have : eightB x (k + 1) = eightB x k ++ [UInt8.ofNat (x / 2 ^ (56 - 8 * k))] := by simp [eightB, List.range_succ]
  rw [this, bytesV_append, h]; simp [bytesV]
set_option maxHeartbeats 1000000 in
theorem eight_any (x : Nat) (w : World) (hx : x < 2 ^ 64) : Calls Try.prog 49 #[.int .u64 x] w fun e w' =>
    ∃ v, e = .returned v ∧ Ext w w' ∧ Own w' w.heap.size 5 1 IsByte v (bytesV (eightB x 8)) := by
  go_enter Try.func49, Try.ntmps49
  have HX := Lib.hid hx; clear hx
  go_wp2_with fail
  go_loopw [3, 4] (fun v i wy => ∃ k : Nat, k ≤ 8 ∧ i = .int .i64 (k : Int) ∧ Ext w wy ∧ Own wy w.heap.size 5 1 IsByte v (bytesV (eightB x k))) (fun _ i _ => 8 - (intOf i).toNat)
  case atStart => exact ⟨0, by omega, rfl, Ext.refl w, Own.nil _ _ _ _ _⟩
  case round =>
    obtain ⟨k, hk, rfl, hwy, hown⟩ := hrel
    obtain ⟨A3, n3, c3, rfl, hl3, hnc3, hcm3, hr3⟩ := hown.form
    by_cases hk8 : k < 8
    · have h8 : k = 0 ∨ k = 1 ∨ k = 2 ∨ k = 3 ∨ k = 4 ∨ k = 5 ∨ k = 6 ∨ k = 7 := by omega
      clear hk hk8
      rcases h8 with rfl | rfl | rfl | rfl | rfl | rfl | rfl | rfl
      all_goals
        first | rw [show ((0 : Nat) : Int) = 0 from rfl] | rw [show ((1 : Nat) : Int) = 1 from rfl] | rw [show ((2 : Nat) : Int) = 2 from rfl] | rw [show ((3 : Nat) : Int) = 3 from rfl] | rw [show ((4 : Nat) : Int) = 4 from rfl] | rw [show ((5 : Nat) : Int) = 5 from rfl] | rw [show ((6 : Nat) : Int) = 6 from rfl] | rw [show ((7 : Nat) : Int) = 7 from rfl]
        go_wp2_with ((with_reducible refine gate (appendOp (.tmp 9) (.tmp 16) 49) rfl ?_); go_loud (refine wpList_append rfl _ _ _ rfl rfl rfl (hown.alloc _) Try.underlying49 Try.infoByte rfl isByte_zero (rd_one _ _ _) rfl (fun u hu => by simp at hu; subst hu; rfl) (by simp [bytesV_length, eightB_length]) (by simp [bytesV_length, eightB_length, maxLen]) (by simp; have := hwy.sz; omega) ?_))
        intro v3 w3 hown3 hg3 _
        have hw3 : Ext w w3 := (hwy.alloc _).grown hg3 (fun k hk => (hown.lt k hk).1)
        rw [eightB_more _ _ _ (by have := HX.out; omega)] at hown3
        clear hg3
        go_wp2_with fail
        go_roundw
        case rel => first | exact ⟨0 + 1, by decide, rfl, hw3, hown3⟩ | exact ⟨1 + 1, by decide, rfl, hw3, hown3⟩ | exact ⟨2 + 1, by decide, rfl, hw3, hown3⟩ | exact ⟨3 + 1, by decide, rfl, hw3, hown3⟩ | exact ⟨4 + 1, by decide, rfl, hw3, hown3⟩ | exact ⟨5 + 1, by decide, rfl, hw3, hown3⟩ | exact ⟨6 + 1, by decide, rfl, hw3, hown3⟩ | exact ⟨7 + 1, by decide, rfl, hw3, hown3⟩
        case measure => simp [intOf]
    · obtain rfl : k = 8 := by omega
      rw [show ((8 : Nat) : Int) = 8 from rfl]
      go_wp2_with fail
      go_ret
      exact ⟨_, rfl, hwy, hown⟩
end Go.Proofs.Ytjhpdcfhdpnloaa
