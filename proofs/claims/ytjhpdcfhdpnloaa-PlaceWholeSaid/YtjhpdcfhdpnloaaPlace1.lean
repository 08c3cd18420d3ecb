/- place.Hash, place.Set and stowageref13's: the number that the digest's first eight bytes say. Texts. -/
import Derived.Test.YtjhpdcfhdpnloaaRef5
import Derived.Laws.IdiomStrings
namespace Go.Proofs.Ytjhpdcfhdpnloaa
open Go.RowKit
attribute [local go_sem] Oper.acts Oper.actsUpon

/-! ### bytes out of a text -/
theorem convert_bytes {P : Program} (w : World) (src dst e : TypeId) (l : List UInt8) (hs : P.underlying src = some .string) (hd : P.underlying dst = some (.slice e)) (he : P.underlying e = some (.int .u8)) :
    ∃ c w', (convert src dst (.string ⟨l.toArray⟩)).run P w = .ok (.slice (some ⟨w.heap.size, 0, none⟩) l.length c) w' ∧ l.length ≤ c ∧ Rd w' w.heap.size (w.heap.size + 1) (some ⟨w.heap.size, 0, none⟩) (bytesV l) ∧ Ext w w' := by
  refine ⟨_, _, run_bytes_of_string (P := P) w src dst e ⟨l.toArray⟩ hs hd he, grownCap_ge _ _ _ _, fun _ => ⟨_, rfl, Nat.le_refl _, by simp, fun j u hu => ?_⟩, ((Ext.refl w).drew).alloc _⟩
  rw [addr_add, World.cell?]
  have := heap_alloc_new w.drew (.cells (bytesRow ⟨l.toArray⟩ (grownCap w (ByteArray.size ⟨l.toArray⟩) 0 e)) e ((bytesRow ⟨l.toArray⟩ (grownCap w (ByteArray.size ⟨l.toArray⟩) 0 e)).size, (bytesRow ⟨l.toArray⟩ (grownCap w (ByteArray.size ⟨l.toArray⟩) 0 e)).size + 1))
  have hz : w.drew.heap.size = w.heap.size := rfl
  rw [hz] at this
  simp only [this]
  have hj := (List.getElem?_eq_some_iff.1 hu).1
  rw [bytesV_length] at hj
  simp [bytesRow, bytesV, hj] at hu ⊢
  rw [Array.getElem?_append_left (by simpa using hj)]
  simpa [hj] using hu

/-! ### the number -/
def hashB (d : List UInt8) : Nat → Int
  | 0 => 0
  | k + 1 => hashB d k * 256 + byteAt d k
theorem hashB_lt (d : List UInt8) : ∀ k, 0 ≤ hashB d k ∧ hashB d k < ((256 ^ k : Nat) : Int)
  | 0 => by simp [hashB]
  | k + 1 => by
    have h := hashB_lt d k
    have hb := byteAt_range d k
    have e : ((256 ^ (k + 1) : Nat) : Int) = ((256 ^ k : Nat) : Int) * 256 := by rw [Nat.pow_succ]; omega
    rw [hashB, e]
    omega
theorem hashB_bd (d : List UInt8) (k : Nat) (hk : k ≤ 7) : 0 ≤ hashB d k ∧ hashB d k ≤ 72057594037927935 := by
  have h := hashB_lt d k
  have h2 : 256 ^ k ≤ 256 ^ 7 := Nat.pow_le_pow_right (by decide) hk
  have h3 : 256 ^ 7 = 72057594037927936 := by decide
  omega
theorem hashB_bd8 (d : List UInt8) : 0 ≤ hashB d 8 ∧ hashB d 8 ≤ 18446744073709551615 := by
  have h := hashB_lt d 8
  have h3 : 256 ^ 8 = 18446744073709551616 := by decide
  omega
theorem or_shift (x c : Int) (hx : 0 ≤ x) (hx2 : x ≤ 72057594037927935) (hc : 0 ≤ c) (hc2 : c ≤ 255) : bits .or .u64 (x * 256) c = x * 256 + c := by
  obtain ⟨n, rfl⟩ := Int.eq_ofNat_of_zero_le hx
  obtain ⟨m, rfl⟩ := Int.eq_ofNat_of_zero_le hc
  have hn : n * 256 < 2 ^ 64 := by omega
  have hm : m < 2 ^ 8 := by omega
  have e1 : n * 256 ||| m = n * 256 + m := by
    have := Nat.shiftLeft_add_eq_or_of_lt (i := 8) (b := m) hm n
    rw [Nat.shiftLeft_eq] at this
    exact this.symm
  have e2 : (BitVec.ofInt 64 ((n : Int) * 256) ||| BitVec.ofInt 64 (m : Int)).toNat = n * 256 + m := by
    have a1 : BitVec.ofInt 64 ((n : Int) * 256) = BitVec.ofNat 64 (n * 256) := by
      have : ((n : Int) * 256) = ((n * 256 : Nat) : Int) := by omega
      rw [this, BitVec.ofInt_natCast]
    have a2 : BitVec.ofInt 64 (m : Int) = BitVec.ofNat 64 m := by rw [BitVec.ofInt_natCast]
    rw [a1, a2, BitVec.toNat_or, BitVec.toNat_ofNat, BitVec.toNat_ofNat, Nat.mod_eq_of_lt hn, Nat.mod_eq_of_lt (by omega), e1]
  show IntKind.u64.wrap ((BitVec.ofInt 64 ((n : Int) * 256) ||| BitVec.ofInt 64 (m : Int)).toNat : Int) = _
  rw [e2]
  show ((n * 256 + m : Nat) : Int) % 18446744073709551616 = _
  omega
/-- what place.Hash answers: the number, and the error -/
def mayB (s : List UInt8) : Bool := decide (1 ≤ s.length) && decide (s.length ≤ 400)
def hashN (s : List UInt8) : Int := if mayB s then hashB (sha s) 8 else 0
def hashE (s : List UInt8) : Int := if mayB s then 0 else 2
theorem sha_length (s : List UInt8) : (sha s).length = 32 := by unfold sha; exact dgOf_length _ _

set_option maxHeartbeats 400000 in
theorem may_any (s : List UInt8) (w : World) (hs : s.length ≤ 9223372036854775807) :
    Calls Try.prog 27 #[.string ⟨s.toArray⟩] w fun e w' => e = .returned (.bool (mayB s)) ∧ w = w' := by
  unfold mayB
  by_cases h : 1 ≤ s.length
  · have hd : decide (1 ≤ s.length) = true := by simpa using h
    have hd1 : decide ((1 : Int) ≤ s.length) = true := by simp; omega
    go_enter Try.func27, Try.ntmps27
    go_wp2_with fail
    go_ret
    refine ⟨?_, rfl⟩
    by_cases h4 : s.length ≤ 400
    · rw [hd]; simp [h4]; omega
    · rw [hd]; simp [h4]; omega
  · have hd : decide (1 ≤ s.length) = false := by simpa using h
    have hd1 : decide ((1 : Int) ≤ s.length) = false := by simp; omega
    go_enter Try.func27, Try.ntmps27
    go_wp2_with fail
    go_ret
    exact ⟨by rw [hd]; simp, rfl⟩


theorem refMay_any (s : List UInt8) (w : World) (hs : s.length ≤ 9223372036854775807) :
    Calls Try.prog 35 #[.string ⟨s.toArray⟩] w fun e w' => e = .returned (.bool (mayB s)) ∧ w = w' := by
  unfold mayB
  by_cases h : 1 ≤ s.length
  · have hd : decide (1 ≤ s.length) = true := by simpa using h
    have hd1 : decide ((1 : Int) ≤ s.length) = true := by simp; omega
    go_enter Try.func35, Try.ntmps35
    go_wp2_with fail
    go_ret
    refine ⟨?_, rfl⟩
    by_cases h4 : s.length ≤ 400
    · rw [hd]; simp [h4]; omega
    · rw [hd]; simp [h4]; omega
  · have hd : decide (1 ≤ s.length) = false := by simpa using h
    have hd1 : decide ((1 : Int) ≤ s.length) = false := by simp; omega
    go_enter Try.func35, Try.ntmps35
    go_wp2_with fail
    go_ret
    exact ⟨by rw [hd]; simp, rfl⟩

set_option maxHeartbeats 1000000 in
theorem hash_true (s d : List UInt8) (w : World) (h400 : s.length ≤ 400) (hm : mayB s = true) (HL : Hid (d.length = 32))
    (hsum : Hid (∀ (A : Option Addr) (c lo hi : Nat) (w : World), s.length ≤ c → Rd w lo hi A (bytesV s) → Calls Try.prog 28 #[.slice A s.length c] w fun e w' => e = .returned (.agg (bytesV d).toArray) ∧ Ext w w')) :
    Calls Try.prog 22 #[.string ⟨s.toArray⟩] w fun e w' => e = .returned (.tuple #[.int .u64 (hashB d 8), .int .i64 0]) ∧ Ext w w' := by
  go_enter Try.func22, Try.ntmps22
  go_wp2_with (go_at_call 27; refine (may_any s _ (by omega)).mono ?_; rw [hm]; rintro _ _ ⟨rfl, rfl⟩)
  obtain ⟨c, w1, hrun, hc, hr, hx1⟩ := convert_bytes (P := Try.prog) w 9 49 5 s Try.underlying9 Try.underlying49 Try.underlying5
  refine upon_run hrun ?_
  go_wp2_with (first | (go_at_call 28; refine (hsum.out _ _ _ _ _ hc hr).mono ?_; rintro _ w2 ⟨rfl, hx2⟩) |
      ((with_reducible refine gate (.store 47 (.tmp 4) (.tmp 13)) rfl ?_); refine wpList_store_blk rfl _ _ _ rfl rfl _ rfl (cs := bytesV d) rfl (Blk.new _ 47 (Array.replicate 32 (.int .u8 0))) (by rw [bytesV_length, HL.out]; kernel_rfl) (by rw [bytesV_length, HL.out]; rfl) (bytesV_one _) ?_))
  intro w3 hb3 hx3
  have hx : Ext w w3 := ((hx1.trans hx2).alloc _).below hx3 (hx1.trans hx2).sz
  generalize w2.heap.size = g at hb3 ⊢
  clear hx3 hx2 hx1 hrun hr hm hsum
  go_wp2_with fail
  go_loop [5, 16] (fun n i => ∃ k : Nat, k ≤ 8 ∧ i = .int .i64 (k : Int) ∧ n = .int .u64 (hashB d k)) (fun _ i => 8 - (intOf i).toNat)
  case atStart => exact ⟨0, by omega, rfl, rfl⟩
  case round =>
    obtain ⟨k, hk, rfl, rfl⟩ := hrel
    by_cases hlt : k < 8
    · have hcell := hb3.cell_of (bytesV_get d k (by have := HL.out; omega))
      have hbr := byteAt_range d k
      have hnb := hashB_bd d k (by omega)
      have ho := Lib.hid (or_shift _ _ hnb.1 hnb.2 hbr.1 hbr.2)
      have hs' := Lib.hid (show hashB d (k + 1) = hashB d k * 256 + byteAt d k from rfl)
      generalize byteAt d k = b at *
      generalize hashB d k = x at *
      obtain ⟨hb0, hb1⟩ := hbr
      obtain ⟨hn0, hn1⟩ := hnb
      go_wp2_with fail
      go_round
      case rel => exact ⟨k + 1, by omega, by go_num, by rw [hs'.out, ← ho.out]⟩
      case measure => simp [intOf]; omega
    · have h8 : k = 8 := by omega
      have HX := Lib.hid (show hashB d k = hashB d 8 by rw [h8])
      generalize hashB d k = x at *
      subst h8
      rw [show ((8 : Nat) : Int) = 8 from rfl]
      go_wp2_with fail
      go_ret2
      exact ⟨by rw [← HX.out]; rfl, hx⟩
set_option maxHeartbeats 1000000 in
theorem hash_any (s : List UInt8) (w : World) (hs : s.length ≤ 9223372036854775807) :
    Calls Try.prog 22 #[.string ⟨s.toArray⟩] w fun e w' => e = .returned (.tuple #[.int .u64 (hashN s), .int .i64 (hashE s)]) ∧ Ext w w' := by
  unfold hashN hashE
  cases hm : mayB s with
  | false =>
    go_enter Try.func22, Try.ntmps22
    go_wp2_with (go_at_call 27; refine (may_any s _ hs).mono ?_; rw [hm]; rintro _ _ ⟨rfl, rfl⟩)
    go_ret2
    exact ⟨rfl, Ext.refl _⟩
  | true =>
    have h400 : s.length ≤ 400 := by simp [mayB] at hm; omega
    exact hash_true s (sha s) w h400 hm (Lib.hid (sha_length s)) (Lib.hid fun A c lo hi w hc hr => sum_any A _ c lo hi s w rfl hc (by omega) hr)

set_option maxHeartbeats 1000000 in
theorem refHash_true (s d : List UInt8) (w : World) (h400 : s.length ≤ 400) (hm : mayB s = true) (HL : Hid (d.length = 32))
    (hsum : Hid (∀ (A : Option Addr) (c lo hi : Nat) (w : World), s.length ≤ c → Rd w lo hi A (bytesV s) → Calls Try.prog 36 #[.slice A s.length c] w fun e w' => e = .returned (.agg (bytesV d).toArray) ∧ Ext w w')) :
    Calls Try.prog 29 #[.string ⟨s.toArray⟩] w fun e w' => e = .returned (.tuple #[.int .u64 (hashB d 8), .int .i64 0]) ∧ Ext w w' := by
  go_enter Try.func29, Try.ntmps29
  go_wp2_with (go_at_call 35; refine (refMay_any s _ (by omega)).mono ?_; rw [hm]; rintro _ _ ⟨rfl, rfl⟩)
  obtain ⟨c, w1, hrun, hc, hr, hx1⟩ := convert_bytes (P := Try.prog) w 9 49 5 s Try.underlying9 Try.underlying49 Try.underlying5
  refine upon_run hrun ?_
  go_wp2_with (first | (go_at_call 36; refine (hsum.out _ _ _ _ _ hc hr).mono ?_; rintro _ w2 ⟨rfl, hx2⟩) |
      ((with_reducible refine gate (.store 47 (.tmp 4) (.tmp 12)) rfl ?_); refine wpList_store_blk rfl _ _ _ rfl rfl _ rfl (cs := bytesV d) rfl (Blk.new _ 47 (Array.replicate 32 (.int .u8 0))) (by rw [bytesV_length, HL.out]; kernel_rfl) (by rw [bytesV_length, HL.out]; rfl) (bytesV_one _) ?_))
  intro w3 hb3 hx3
  have hx : Ext w w3 := ((hx1.trans hx2).alloc _).below hx3 (hx1.trans hx2).sz
  generalize w2.heap.size = g at hb3 ⊢
  clear hx3 hx2 hx1 hrun hr hm hsum
  go_wp2_with fail
  go_loop [5, 6] (fun n i => ∃ k : Nat, k ≤ 8 ∧ i = .int .i64 (k : Int) ∧ n = .int .u64 (hashB d k)) (fun _ i => 8 - (intOf i).toNat)
  case atStart => exact ⟨0, by omega, rfl, rfl⟩
  case round =>
    obtain ⟨k, hk, rfl, rfl⟩ := hrel
    by_cases hlt : k < 8
    · have hcell := hb3.cell_of (bytesV_get d k (by have := HL.out; omega))
      have hbr := byteAt_range d k
      have hnb := hashB_bd d k (by omega)
      have hs' := Lib.hid (show hashB d (k + 1) = hashB d k * 256 + byteAt d k from rfl)
      generalize byteAt d k = b at *
      generalize hashB d k = x at *
      obtain ⟨hb0, hb1⟩ := hbr
      obtain ⟨hn0, hn1⟩ := hnb
      go_wp2_with fail
      go_round
      case rel => exact ⟨k + 1, by omega, by go_num, by rw [hs'.out]⟩
      case measure => simp [intOf]; omega
    · have h8 : k = 8 := by omega
      have HX := Lib.hid (show hashB d k = hashB d 8 by rw [h8])
      generalize hashB d k = x at *
      subst h8
      rw [show ((8 : Nat) : Int) = 8 from rfl]
      go_wp2_with fail
      go_ret2
      exact ⟨by rw [← HX.out]; rfl, hx⟩
set_option maxHeartbeats 1000000 in
theorem refHash_any (s : List UInt8) (w : World) (hs : s.length ≤ 9223372036854775807) :
    Calls Try.prog 29 #[.string ⟨s.toArray⟩] w fun e w' => e = .returned (.tuple #[.int .u64 (hashN s), .int .i64 (hashE s)]) ∧ Ext w w' := by
  unfold hashN hashE
  cases hm : mayB s with
  | false =>
    go_enter Try.func29, Try.ntmps29
    go_wp2_with (go_at_call 35; refine (refMay_any s _ hs).mono ?_; rw [hm]; rintro _ _ ⟨rfl, rfl⟩)
    go_ret2
    exact ⟨rfl, Ext.refl _⟩
  | true =>
    have h400 : s.length ≤ 400 := by simp [mayB] at hm; omega
    exact refHash_true s (sha s) w h400 hm (Lib.hid (sha_length s)) (Lib.hid fun A c lo hi w hc hr => refSum_any A _ c lo hi s w rfl hc (by omega) hr)

/-! ### the set -/
def setB (s : List UInt8) (n : Int) : Bool := mayB s && decide (1 ≤ n) && decide (n ≤ 4)
def setN (s : List UInt8) (n : Int) : Int := if setB s n then hashB (sha s) 8 % n else 0
def setE (s : List UInt8) (n : Int) : Int := if setB s n then 0 else 2

set_option maxHeartbeats 1000000 in
theorem set_true (s : List UInt8) (x n : Int) (w : World) (hx0 : 0 ≤ x) (hx1 : x ≤ 18446744073709551615) (h1 : 1 ≤ n) (h4 : n ≤ 4)
    (hh : Hid (Calls Try.prog 22 #[.string ⟨s.toArray⟩] w fun e w' => e = .returned (.tuple #[.int .u64 x, .int .i64 0]) ∧ Ext w w')) :
    Calls Try.prog 16 #[.string ⟨s.toArray⟩, .int .i64 n] w fun e w' => e = .returned (.tuple #[.int .i64 (x % n), .int .i64 0]) ∧ Ext w w' := by
  have hd1 : decide (n < 1) = false := by simp; omega
  have hd4 : decide (4 < n) = false := by simp; omega
  have hm0 : 0 ≤ x % n := Int.emod_nonneg _ (by omega)
  have hm1 : x % n < n := Int.emod_lt_of_pos _ (by omega)
  go_enter Try.func16, Try.ntmps16
  go_wp2_with (go_at_call 22; refine hh.out.mono ?_; rintro _ w1 ⟨rfl, hx⟩)
  go_ret2
  exact ⟨rfl, hx⟩
set_option maxHeartbeats 1000000 in
theorem set_any (s : List UInt8) (n : Int) (w : World) (hs : s.length ≤ 9223372036854775807) :
    Calls Try.prog 16 #[.string ⟨s.toArray⟩, .int .i64 n] w fun e w' => e = .returned (.tuple #[.int .i64 (setN s n), .int .i64 (setE s n)]) ∧ Ext w w' := by
  have hh := hash_any s w hs
  unfold setN setE setB
  unfold hashN hashE at hh
  cases hm : mayB s with
  | true =>
    rw [hm] at hh
    by_cases h1 : 1 ≤ n
    · by_cases h4 : n ≤ 4
      · have hb := hashB_bd8 (sha s)
        refine (set_true s _ n w hb.1 hb.2 h1 h4 (Lib.hid hh)).mono ?_
        rintro _ w1 ⟨rfl, hx⟩
        exact ⟨by simp [h1, h4], hx⟩
      · have HH := Lib.hid hh; clear hh
        have hd1 : decide (n < 1) = false := by simp; omega
        have hd4 : decide (4 < n) = true := by simp; omega
        generalize sha s = d at *
        go_enter Try.func16, Try.ntmps16
        go_wp2_with (go_at_call 22; refine HH.out.mono ?_; rintro _ w1 ⟨rfl, hx⟩)
        all_goals (go_ret2; exact ⟨by simp [h4], hx⟩)
    · have HH := Lib.hid hh; clear hh
      have hd1 : decide (n < 1) = true := by simp; omega
      generalize sha s = d at *
      go_enter Try.func16, Try.ntmps16
      go_wp2_with (go_at_call 22; refine HH.out.mono ?_; rintro _ w1 ⟨rfl, hx⟩)
      all_goals (go_ret2; exact ⟨by simp [h1], hx⟩)
  | false =>
    rw [hm] at hh
    have HH := Lib.hid hh; clear hh
    generalize sha s = d at *
    go_enter Try.func16, Try.ntmps16
    go_wp2_with (go_at_call 22; refine HH.out.mono ?_; rintro _ w1 ⟨rfl, hx⟩)
    all_goals (go_ret2; exact ⟨by simp, hx⟩)

set_option maxHeartbeats 1000000 in
theorem refSet_true (s : List UInt8) (x n : Int) (w : World) (hx0 : 0 ≤ x) (hx1 : x ≤ 18446744073709551615) (h1 : 1 ≤ n) (h4 : n ≤ 4)
    (hh : Hid (Calls Try.prog 29 #[.string ⟨s.toArray⟩] w fun e w' => e = .returned (.tuple #[.int .u64 x, .int .i64 0]) ∧ Ext w w')) :
    Calls Try.prog 23 #[.string ⟨s.toArray⟩, .int .i64 n] w fun e w' => e = .returned (.tuple #[.int .i64 (x % n), .int .i64 0]) ∧ Ext w w' := by
  have hd1 : decide (n < 1) = false := by simp; omega
  have hd4 : decide (4 < n) = false := by simp; omega
  have hm0 : 0 ≤ x % n := Int.emod_nonneg _ (by omega)
  have hm1 : x % n < n := Int.emod_lt_of_pos _ (by omega)
  go_enter Try.func23, Try.ntmps23
  go_wp2_with (go_at_call 29; refine hh.out.mono ?_; rintro _ w1 ⟨rfl, hx⟩)
  go_ret2
  exact ⟨rfl, hx⟩
set_option maxHeartbeats 1000000 in
theorem refSet_any (s : List UInt8) (n : Int) (w : World) (hs : s.length ≤ 9223372036854775807) :
    Calls Try.prog 23 #[.string ⟨s.toArray⟩, .int .i64 n] w fun e w' => e = .returned (.tuple #[.int .i64 (setN s n), .int .i64 (setE s n)]) ∧ Ext w w' := by
  have hh := refHash_any s w hs
  unfold setN setE setB
  unfold hashN hashE at hh
  cases hm : mayB s with
  | true =>
    rw [hm] at hh
    by_cases h1 : 1 ≤ n
    · by_cases h4 : n ≤ 4
      · have hb := hashB_bd8 (sha s)
        refine (refSet_true s _ n w hb.1 hb.2 h1 h4 (Lib.hid hh)).mono ?_
        rintro _ w1 ⟨rfl, hx⟩
        exact ⟨by simp [h1, h4], hx⟩
      · have HH := Lib.hid hh; clear hh
        have hd1 : decide (n < 1) = false := by simp; omega
        have hd4 : decide (4 < n) = true := by simp; omega
        generalize sha s = d at *
        go_enter Try.func23, Try.ntmps23
        go_wp2_with (go_at_call 29; refine HH.out.mono ?_; rintro _ w1 ⟨rfl, hx⟩)
        all_goals (go_ret2; exact ⟨by simp [h4], hx⟩)
    · have HH := Lib.hid hh; clear hh
      have hd1 : decide (n < 1) = true := by simp; omega
      generalize sha s = d at *
      go_enter Try.func23, Try.ntmps23
      go_wp2_with (go_at_call 29; refine HH.out.mono ?_; rintro _ w1 ⟨rfl, hx⟩)
      all_goals (go_ret2; exact ⟨by simp [h1], hx⟩)
  | false =>
    rw [hm] at hh
    have HH := Lib.hid hh; clear hh
    generalize sha s = d at *
    go_enter Try.func23, Try.ntmps23
    go_wp2_with (go_at_call 29; refine HH.out.mono ?_; rintro _ w1 ⟨rfl, hx⟩)
    all_goals (go_ret2; exact ⟨by simp, hx⟩)
end Go.Proofs.Ytjhpdcfhdpnloaa
