/- stowagelaw13.awake. No conditions. -/
import Derived.Test.YtjhpdcfhdpnloaaPlace1
import Derived.Test.YtjhpdcfhdpnloaaPlace2
namespace Go.Proofs.Ytjhpdcfhdpnloaa
open Go.RowKit
attribute [local go_sem] Oper.acts Oper.actsUpon

theorem hash_abc : hashN [97, 98, 99] = 13436514500253700074 := by decide +kernel
theorem hashE_abc : hashE [97, 98, 99] = 0 := by decide +kernel
theorem set_abc : setN [97, 98, 99] 4 = 2 := by decide +kernel
theorem setE_abc : setE [97, 98, 99] 4 = 0 := by decide +kernel
theorem merge_abc : mergeL [[97], [99], [98], [99]] = [[97], [98], [99]] := by
  refine rises_unique _ _ (mergeL_law _).1 ?_ fun s => ?_
  · unfold Rises; decide
  · rw [(mergeL_law _).2 s]
    simp only [List.mem_cons, List.not_mem_nil, or_false]
    constructor
    · rintro (h | h | h | h) <;> simp [h]
    · rintro (h | h | h) <;> simp [h]
theorem lists_of {w : World} {hi g : Nat} {t : TypeId} {cells : List Value} {n : Nat} {ls : List (List Text)} (hb : Blk w g t cells) (hg : g < hi) (hn : ls.length = n)
    (h : ∀ (i : Nat) (l : List Text), ls[i]? = some l → ∃ B m c, cells[i]? = some (Value.slice B m c) ∧ l.length = m ∧ m ≤ c ∧ m ≤ 1000000 ∧ Rd w 0 hi B (strs l)) : Lists w hi (some ⟨g, 0, none⟩) n ls :=
  ⟨hn, fun i l hl => by
    obtain ⟨B, m, c, h1, h2, h3, h4, h5⟩ := h i l hl
    exact ⟨_, B, m, c, rfl, hg, by rw [addr_add]; exact hb.cell_of h1, h2, h3, h4, h5⟩⟩
theorem lists_abc (w : World) (t1 t2 t3 : TypeId) : Lists (((w.alloc (.cells #[.string ⟨#[97]⟩, .string ⟨#[99]⟩] t1)).alloc (.cells #[.string ⟨#[98]⟩, .string ⟨#[99]⟩] t2)).alloc (.cells #[.slice (some ⟨w.heap.size, 0, none⟩) 2 2, .slice (some ⟨w.heap.size + 1, 0, none⟩) 2 2, .slice none 0 0] t3)) (w.heap.size + 3) (some ⟨w.heap.size + 1 + 1, 0, none⟩) 3 [[[97], [99]], [[98], [99]], []] := by
  have b1 := ((Blk.new w t1 #[.string ⟨#[97]⟩, .string ⟨#[99]⟩]).alloc (.cells #[.string ⟨#[98]⟩, .string ⟨#[99]⟩] t2)).alloc (.cells #[.slice (some ⟨w.heap.size, 0, none⟩) 2 2, .slice (some ⟨w.heap.size + 1, 0, none⟩) 2 2, .slice none 0 0] t3)
  have b2 := (Blk.new1 w (.cells #[.string ⟨#[97]⟩, .string ⟨#[99]⟩] t1) t2 #[.string ⟨#[98]⟩, .string ⟨#[99]⟩]).alloc (.cells #[.slice (some ⟨w.heap.size, 0, none⟩) 2 2, .slice (some ⟨w.heap.size + 1, 0, none⟩) 2 2, .slice none 0 0] t3)
  have b3 := Blk.new2 w (.cells #[.string ⟨#[97]⟩, .string ⟨#[99]⟩] t1) (.cells #[.string ⟨#[98]⟩, .string ⟨#[99]⟩] t2) t3 #[.slice (some ⟨w.heap.size, 0, none⟩) 2 2, .slice (some ⟨w.heap.size + 1, 0, none⟩) 2 2, .slice none 0 0]
  refine lists_of b3 (by omega) rfl fun i l hl => ?_
  match i, hl with
  | 0, hl => cases hl; exact ⟨_, 2, 2, rfl, rfl, by omega, by omega, b1.rd.mono (by omega) (by omega)⟩
  | 1, hl => cases hl; exact ⟨_, 2, 2, rfl, rfl, by omega, by omega, b2.rd.mono (by omega) (by omega)⟩
  | 2, hl => cases hl; exact ⟨_, 0, 0, rfl, rfl, by omega, by omega, Rd.nil⟩
theorem tuple_eq {k j : IntKind} {a b c d : Int} (h : a = c) (h' : b = d) : Ending.returned (.tuple #[.int k a, .int j b]) = .returned (.tuple #[.int k c, .int j d]) := by rw [h, h']
theorem hash_call (w : World) : Calls Try.prog 22 #[.string ⟨#[97, 98, 99]⟩] w fun e w' => e = .returned (.tuple #[.int .u64 13436514500253700074, .int .i64 0]) ∧ Ext w w' :=
  (hash_any [97, 98, 99] w (by simp)).mono fun _ _ h => ⟨h.1.trans (tuple_eq hash_abc hashE_abc), h.2⟩
theorem set_call (w : World) : Calls Try.prog 16 #[.string ⟨#[97, 98, 99]⟩, .int .i64 4] w fun e w' => e = .returned (.tuple #[.int .i64 2, .int .i64 0]) ∧ Ext w w' :=
  (set_any [97, 98, 99] 4 w (by simp)).mono fun _ _ h => ⟨h.1.trans (tuple_eq set_abc setE_abc), h.2⟩
theorem merge_call (w : World) (t1 t2 t3 : TypeId) : Calls Try.prog 8 #[.slice (some ⟨w.heap.size + 1 + 1, 0, none⟩) 3 3] (((w.alloc (.cells #[.string ⟨#[97]⟩, .string ⟨#[99]⟩] t1)).alloc (.cells #[.string ⟨#[98]⟩, .string ⟨#[99]⟩] t2)).alloc (.cells #[.slice (some ⟨w.heap.size, 0, none⟩) 2 2, .slice (some ⟨w.heap.size + 1, 0, none⟩) 2 2, .slice none 0 0] t3)) fun e w' => ∃ A c, e = .returned (.slice A 3 c) ∧ Rd w' 0 w'.heap.size A (strs [[97], [98], [99]]) ∧ Ext w w' := by
  refine (merge_any _ 3 _ (w.heap.size + 3) [[[97], [99]], [[98], [99]], []] _ (by decide) (by decide) (by simp) (lists_abc w t1 t2 t3)).mono ?_
  rintro _ w3 ⟨v, rfl, hown, hx3⟩
  rw [show [[[97], [99]], [[98], [99]], []].flatten = [[97], [99], [98], [(99 : UInt8)]] from rfl, merge_abc] at hown
  obtain ⟨A, n, c, rfl, hl, hnc, hcm, hr⟩ := hown.form
  obtain rfl : n = 3 := by simp [strs] at hl; omega
  exact ⟨A, c, rfl, hr.mono (Nat.zero_le _) (Nat.le_refl _), ((((Ext.refl w).alloc _).alloc _).alloc _).trans hx3⟩
theorem same_call (A : Option Addr) (c lo hi : Nat) (w : World) (t : TypeId) (hr : Rd w lo hi A (strs [[97], [98], [99]])) : Calls Try.prog 9 #[.slice A 3 c, .slice (some ⟨w.heap.size, 0, none⟩) 3 3] (w.alloc (.cells #[.string ⟨#[97]⟩, .string ⟨#[98]⟩, .string ⟨#[99]⟩] t)) fun e w' => e = .returned (.bool true) ∧ Ext w w' := by
  refine (sameTexts_any A [[97], [98], [99]] c _ [[97], [98], [99]] 3 lo hi _ _ _ (by decide) (hr.ext ((Ext.refl w).alloc _)) (Blk.new w t #[.string ⟨#[97]⟩, .string ⟨#[98]⟩, .string ⟨#[99]⟩]).rd).mono ?_
  rintro _ w' ⟨rfl, hx⟩
  exact ⟨by simp, ((Ext.refl w).alloc _).trans hx⟩
set_option maxHeartbeats 1000000 in
theorem awake_any (w : World) : Calls Try.prog 13 #[] w fun e w' => e = .returned (.bool true) ∧ Ext w w' := by
  have H1 := Lib.hid hash_call
  have H2 := Lib.hid set_call
  go_enter Try.func13, Try.ntmps13
  go_wp2_with (first
    | (go_at_call 22; refine (H1.out _).mono ?_; rintro _ w1 ⟨rfl, hx1⟩)
    | (go_at_call 16; refine (H2.out _).mono ?_; rintro _ w2 ⟨rfl, hx2⟩)
    | (go_at_call 8; refine (merge_call w2 _ _ _).mono ?_; rintro _ w3 ⟨A, c, rfl, hr3, hx3⟩)
    | (go_at_call 9; refine (same_call A c _ _ w3 _ hr3).mono ?_; rintro _ w4 ⟨rfl, hx4⟩))
  go_ret
  exact ⟨rfl, ((hx1.trans hx2).trans hx3).trans hx4⟩
end Go.Proofs.Ytjhpdcfhdpnloaa
