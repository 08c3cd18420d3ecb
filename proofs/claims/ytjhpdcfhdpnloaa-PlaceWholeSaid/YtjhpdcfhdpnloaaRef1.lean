/- SHA-256 of the reference stowageref04: a block is mixed in. Conditions: at least 64 bytes behind 'at' that are read, words of 32 bits. -/
import Derived.Test.YtjhpdcfhdpnloaaDigest2
namespace Go.Proofs.Ytjhpdcfhdpnloaa
open Go.RowKit

theorem drewN_two (w : World) (a b : Nat) : (w.drewN a).drewN b = w.drewN (a + b) := World.drewN_drewN ..
theorem quiet_add_more {P : Program} {f : FuncId} {args : Array Value} {w : World} {a n : Nat} {v : Value}
    (h : Calls P f args (w.drewN (a + n)) fun e w' => e = .returned v ∧ ∃ m, w' = (w.drewN (a + n)).drewN m) :
    Calls P f args (w.drewN (a + n)) fun e w'' => e = .returned v ∧ ∃ m, w'' = w.drewN (a + m) :=
  h.mono fun _ _ ⟨he, m, hm⟩ => ⟨he, n + m, by rw [hm, drewN_two, Nat.add_assoc]⟩
theorem quiet_more {P : Program} {f : FuncId} {args : Array Value} {w : World} {n : Nat} {v : Value}
    (h : Calls P f args (w.drewN n) fun e w' => e = .returned v ∧ ∃ m, w' = (w.drewN n).drewN m) :
    Calls P f args (w.drewN n) fun e w'' => e = .returned v ∧ ∃ m, w'' = w.drewN m :=
  h.mono fun _ _ ⟨he, m, hm⟩ => ⟨he, n + m, by rw [hm, drewN_two]⟩

/-- the word t, after i of its bytes -/
def wpart (bs : List UInt8) (t : Nat) : Nat → Int
  | 0 => 0
  | i + 1 => bits .or .u32 (wpart bs t i * 256 % 4294967296) (byte32 bs (4 * t + i))
theorem wpart_range (bs : List UInt8) (t : Nat) : ∀ i, 0 ≤ wpart bs t i ∧ wpart bs t i ≤ 4294967295
  | 0 => by simp [wpart]
  | _ + 1 => or_range _ _
def bv (x : Int) : BitVec 32 := BitVec.ofInt 32 x
theorem wrap_bv (b : BitVec 32) : IntKind.u32.wrap (b.toNat : Int) = (b.toNat : Int) := by
  have : IntKind.u32.wrap (b.toNat : Int) = (b.toNat : Int) % 4294967296 := rfl
  have := b.isLt
  omega
theorem bv_toNat (b : BitVec 32) : bv (b.toNat : Int) = b := by
  simp [bv]
theorem or_bv (x y : Int) : bits .or .u32 x y = ((bv x ||| bv y).toNat : Int) := by rw [or_u32, wrap_bv]; rfl
theorem bv_or (x y : Int) : bv (bits .or .u32 x y) = bv x ||| bv y := by rw [or_bv, bv_toNat]
theorem bv_mul (x : Int) (k : Nat) : bv (x * (2 ^ k : Nat) % 4294967296) = bv x <<< k := by
  have h1 : bv (x * (2 ^ k : Nat) % 4294967296) = bv (x * (2 ^ k : Nat)) := by
    apply BitVec.eq_of_toInt_eq
    simp only [bv, BitVec.toInt_ofInt]
    exact Int.emod_bmod (x * (2 ^ k : Nat)) 4294967296
  rw [h1, bv, BitVec.ofInt_mul, BitVec.shiftLeft_eq_mul_twoPow]
  congr 1
  apply BitVec.eq_of_toNat_eq
  have : ((2 ^ k : Nat) : Int) % 4294967296 = ((2 ^ k % 4294967296 : Nat) : Int) := by rw [Int.natCast_emod]; rfl
  rw [BitVec.toNat_twoPow, BitVec.toNat_ofInt]
  show (((2 ^ k : Nat) : Int) % 4294967296).toNat = 2 ^ k % 4294967296
  rw [this, Int.toNat_natCast]
theorem wpart_four (bs : List UInt8) (t : Nat) : wpart bs t 4 = first16 bs t := by
  have e8 : ∀ x : Int, bv (x * 256 % 4294967296) = bv x <<< 8 := fun x => bv_mul x 8
  have e16 : ∀ x : Int, bv (x * 65536 % 4294967296) = bv x <<< 16 := fun x => bv_mul x 16
  have e24 : ∀ x : Int, bv (x * 16777216 % 4294967296) = bv x <<< 24 := fun x => bv_mul x 24
  have z : bv 0 = 0#32 := rfl
  simp only [wpart, first16, or_bv _ (byte32 bs (4 * t + 3)), bv_or, e8, e16, e24, z, BitVec.shiftLeft_or_distrib, BitVec.zero_shiftLeft, BitVec.zero_or, ← BitVec.shiftLeft_add, Nat.add_zero]
theorem sched_zero (bs : List UInt8) : ∀ t j, t ≤ j → wd (sched bs t) j = 0
  | 0, j, _ => by
    unfold wd sched
    rw [List.getD_eq_getElem?_getD, List.getElem?_replicate]
    split <;> rfl
  | t + 1, j, h => by
    have : wd (sched bs (t + 1)) j = wd (sched bs t) j := by
      simp only [sched, wd, List.getD_eq_getElem?_getD]
      rw [List.getElem?_set_ne (by omega)]
    rw [this]; exact sched_zero bs t j (by omega)
theorem set_wd (l : List Int) (t : Nat) (h : t < l.length) : l.set t (wd l t) = l := by
  apply List.ext_getElem (by simp)
  intro i h1 h2
  by_cases e : t = i
  · subst e; simp [wd, h]
  · rw [List.getElem_set_ne e]
theorem sched_part0 (bs : List UInt8) (t : Nat) (h : t < 64) : (sched bs t).set t (wpart bs t 0) = sched bs t := by
  have := sched_zero bs t t (Nat.le_refl _)
  rw [wpart, ← this]; exact set_wd _ _ (by rw [sched_length]; exact h)
theorem wd_set_self (l : List Int) (t : Nat) (x : Int) (h : t < l.length) : wd (l.set t x) t = x := by simp [wd, h]
theorem byteAt_drop (bs : List UInt8) (a j : Nat) : byteAt (bs.drop a) j = byteAt bs (a + j) := by
  simp [byteAt, List.getD_eq_getElem?_getD]

end Go.Proofs.Ytjhpdcfhdpnloaa
