/- SHA-256 in the package digest and in the reference stowageref04: a word turned right. Conditions: the number of bits is one of the ten that the digest turns by; the word is one of 32 bits. -/
import Derived.Test.YtjhpdcfhdpnloaaRegion
namespace Go.Proofs.Ytjhpdcfhdpnloaa
open Go.RowKit

/-- a word of 32 bits turned right by n -/
def rot (x n : Int) : Int := bits .or .u32 (x / 2 ^ n.toNat) (x * 2 ^ (32 - n).toNat % 4294967296)
theorem u32_range (x : Int) : 0 ≤ IntKind.u32.wrap x ∧ IntKind.u32.wrap x ≤ 4294967295 := by
  have : IntKind.u32.wrap x = x % 4294967296 := rfl
  rw [this]; omega
theorem bits_u32 (op : BinOp) (f : BitVec 32 → BitVec 32 → BitVec 32) (x y : Int) (h : bits op .u32 x y = IntKind.u32.wrap ((f (BitVec.ofInt 32 x) (BitVec.ofInt 32 y)).toNat : Int)) : 0 ≤ bits op .u32 x y ∧ bits op .u32 x y ≤ 4294967295 := by
  rw [h]; exact u32_range _
theorem or_u32 (x y : Int) : bits .or .u32 x y = IntKind.u32.wrap ((BitVec.ofInt 32 x ||| BitVec.ofInt 32 y).toNat : Int) := rfl
theorem and_u32 (x y : Int) : bits .and .u32 x y = IntKind.u32.wrap ((BitVec.ofInt 32 x &&& BitVec.ofInt 32 y).toNat : Int) := rfl
theorem xor_u32 (x y : Int) : bits .xor .u32 x y = IntKind.u32.wrap ((BitVec.ofInt 32 x ^^^ BitVec.ofInt 32 y).toNat : Int) := rfl
theorem or_range (x y : Int) : 0 ≤ bits .or .u32 x y ∧ bits .or .u32 x y ≤ 4294967295 := by rw [or_u32]; exact u32_range _
theorem and_range (x y : Int) : 0 ≤ bits .and .u32 x y ∧ bits .and .u32 x y ≤ 4294967295 := by rw [and_u32]; exact u32_range _
theorem xor_range (x y : Int) : 0 ≤ bits .xor .u32 x y ∧ bits .xor .u32 x y ≤ 4294967295 := by rw [xor_u32]; exact u32_range _
theorem or_comm32 (x y : Int) : bits .or .u32 x y = bits .or .u32 y x := by rw [or_u32, or_u32, BitVec.or_comm]
theorem rot_range (x n : Int) : 0 ≤ rot x n ∧ rot x n ≤ 4294967295 := or_range _ _
def turns : List Int := [2, 6, 7, 11, 13, 17, 18, 19, 22, 25]

set_option maxHeartbeats 2000000 in
theorem turned_any (x n : Int) (w : World) (h : n ∈ turns) (h3 : 0 ≤ x) (h4 : x ≤ 4294967295) :
    Calls Try.prog 48 #[.int .u32 x, .int .i64 n] w fun e w' => e = .returned (.int .u32 (rot x n)) ∧ w = w' := by
  have k2 : bits .and .u64 (IntKind.u64.wrap (-2)) 31 = 30 := by kernel_rfl
  have k6 : bits .and .u64 (IntKind.u64.wrap (-6)) 31 = 26 := by kernel_rfl
  have k7 : bits .and .u64 (IntKind.u64.wrap (-7)) 31 = 25 := by kernel_rfl
  have k11 : bits .and .u64 (IntKind.u64.wrap (-11)) 31 = 21 := by kernel_rfl
  have k13 : bits .and .u64 (IntKind.u64.wrap (-13)) 31 = 19 := by kernel_rfl
  have k17 : bits .and .u64 (IntKind.u64.wrap (-17)) 31 = 15 := by kernel_rfl
  have k18 : bits .and .u64 (IntKind.u64.wrap (-18)) 31 = 14 := by kernel_rfl
  have k19 : bits .and .u64 (IntKind.u64.wrap (-19)) 31 = 13 := by kernel_rfl
  have k22 : bits .and .u64 (IntKind.u64.wrap (-22)) 31 = 10 := by kernel_rfl
  have k25 : bits .and .u64 (IntKind.u64.wrap (-25)) 31 = 7 := by kernel_rfl
  simp only [turns, List.mem_cons, List.not_mem_nil, or_false] at h
  rcases h with rfl | rfl | rfl | rfl | rfl | rfl | rfl | rfl | rfl | rfl
  all_goals
    go_enter Try.func48, Try.ntmps48
    go_wp2
    go_ret
    exact ⟨congrArg (fun y => Ending.returned (.int .u32 y)) (or_comm32 _ _), rfl⟩

set_option maxHeartbeats 2000000 in
theorem right_any (x n : Int) (w : World) (h : n ∈ turns) (h3 : 0 ≤ x) (h4 : x ≤ 4294967295) :
    Calls Try.prog 60 #[.int .u32 x, .int .i64 n] w fun e w' => e = .returned (.int .u32 (rot x n)) ∧ ∃ m, w' = w.drewN m := by
  simp only [turns, List.mem_cons, List.not_mem_nil, or_false] at h
  rcases h with rfl | rfl | rfl | rfl | rfl | rfl | rfl | rfl | rfl | rfl
  all_goals
    go_enter Try.func60, Try.ntmps60
    go_wp2
    go_quiet (fail)
    go_wp2
    go_ret
    exact ⟨rfl, _, rfl⟩
end Go.Proofs.Ytjhpdcfhdpnloaa
