/- SHA-256 of the reference stowageref04: the digest of bytes is that of the package digest. Conditions: bytes that are read, fewer than 10^12. -/
import Derived.Test.YtjhpdcfhdpnloaaRef3
namespace Go.Proofs.Ytjhpdcfhdpnloaa
open Go.RowKit
attribute [local go_sem] Oper.acts Oper.actsUpon

theorem lenBytes_eight (n : Nat) : lenBytes n 8 = eightB (8 * n) 8 := rfl
/-- the digest's bytes, when i of them have been laid -/
def outB (s : List Int) : Nat → List UInt8
  | 0 => List.replicate 32 0
  | i + 1 => (outB s i).set i (wordByte (wd s (i / 4)) (3 - i % 4))
theorem outB_length (s : List Int) : ∀ t, (outB s t).length = 32
  | 0 => by simp [outB]
  | t + 1 => by simp [outB, outB_length s t]
theorem outB_dg (s : List Int) : ∀ t, outB s (4 * t) = dgOf s t
  | 0 => rfl
  | t + 1 => by
    show outB s (4 * t + 1 + 1 + 1 + 1) = _
    simp only [outB, dgOf, outB_dg s t, show 4 * t / 4 = t by omega, show (4 * t + 1) / 4 = t by omega, show (4 * t + 1 + 1) / 4 = t by omega, show (4 * t + 1 + 1 + 1) / 4 = t by omega,
      show 4 * t % 4 = 0 by omega, show (4 * t + 1) % 4 = 1 by omega, show (4 * t + 1 + 1) % 4 = 2 by omega, show (4 * t + 1 + 1 + 1) % 4 = 3 by omega]
/-- the whole text that is mixed in -/
def padded (bs : List UInt8) : List UInt8 := lastOf bs bs.length
theorem blocks_congr (a b : List UInt8) (h : List Int) : ∀ j, (∀ i, i < j → ∀ k, k < 64 → byteAt a (64 * i + k) = byteAt b (64 * i + k)) → blocks a h j = blocks b h j
  | 0, _ => rfl
  | j + 1, e => by
    have hs : ∀ t, sched (a.drop (64 * j)) t = sched (b.drop (64 * j)) t := by
      intro t
      induction t with
      | zero => rfl
      | succ t ih =>
        simp only [sched, ih]
        by_cases h16 : t < 16
        · simp only [h16, if_true]
          have hb : ∀ k, k < 64 → byte32 (a.drop (64 * j)) k = byte32 (b.drop (64 * j)) k := fun k hk => by
            unfold byte32; rw [byteAt_drop, byteAt_drop, e j (Nat.lt_succ_self j) k hk]
          unfold first16
          rw [hb _ (by omega), hb _ (by omega), hb _ (by omega), hb _ (by omega)]
        · simp only [h16, if_false]
    simp only [blocks, mixed, hs, blocks_congr a b h j (fun i hi => e i (by omega))]
theorem blocks_add (bs : List UInt8) (h : List Int) (q : Nat) : ∀ i, blocks bs h (q + i) = blocks (bs.drop (64 * q)) (blocks bs h q) i
  | 0 => rfl
  | i + 1 => by
    show mixed shaK (bs.drop (64 * (q + i))) (blocks bs h (q + i)) = mixed shaK ((bs.drop (64 * q)).drop (64 * i)) (blocks (bs.drop (64 * q)) (blocks bs h q) i)
    rw [blocks_add bs h q i, List.drop_drop, Nat.mul_add]
theorem zeros_drop (n : Nat) : zerosOf (n - 64 * (n / 64)) = zerosOf n := by unfold zerosOf; omega
theorem padded_drop (bs : List UInt8) : (padded bs).drop (64 * (bs.length / 64)) = lastOf (bs.drop (64 * (bs.length / 64))) bs.length := by
  have h : 64 * (bs.length / 64) ≤ bs.length := by omega
  rw [padded, lastOf, lastOf, List.drop_append_of_le_length h, List.length_drop, zeros_drop]
theorem sha_padded (bs : List UInt8) : dgOf (blocks (padded bs) shaH ((padded bs).length / 64)) 8 = sha bs := by
  have h0 := lastOf_length bs bs.length
  have hp : (padded bs).length = (lastOf bs bs.length).length := rfl
  have hl : 64 * (bs.length / 64) ≤ bs.length := by omega
  have hle : bs.length ≤ (padded bs).length := by rw [padded, lastOf, List.length_append]; omega
  have e2 : (lastOf (bs.drop (64 * (bs.length / 64))) bs.length).length = (padded bs).length - 64 * (bs.length / 64) := by rw [← padded_drop, List.length_drop]
  have e1 : (padded bs).length / 64 = bs.length / 64 + (lastOf (bs.drop (64 * (bs.length / 64))) bs.length).length / 64 := by rw [e2]; omega
  rw [sha, e1, blocks_add, padded_drop]
  congr 2
  refine blocks_congr _ _ _ _ (fun i hi k hk => ?_)
  have : 64 * i + k < bs.length := by omega
  unfold byteAt padded lastOf
  rw [List.getD_eq_getElem?_getD, List.getD_eq_getElem?_getD, List.getElem?_append_left this]
end Go.Proofs.Ytjhpdcfhdpnloaa
