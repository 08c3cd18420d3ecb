/- place.all: the iterator over the texts of all lists. Lists that are read as data. -/
import Derived.RangeFuncBox
import Derived.RangeFuncLeaves
import Derived.Shelf.Abstract
import Derived.WalkKit
import Derived.OwnWalkIn
import Derived.TacticsInMore
import Derived.LoopNIn
import Derived.LoopIn
import Derived.Maps.AppendAt
import Derived.Test.YtjhpdcfhdpnloaaKitTexts
namespace Go.Proofs.Ytjhpdcfhdpnloaa
open Go.RowKit Go.Shelf
attribute [local go_sem] Oper.semAt_some

abbrev Text := List UInt8
def encT (x : Text) : Value := .string ⟨x.toArray⟩
/-- a list of lists of texts, read in blocks below hi -/
def Lists (w : World) (hi : Nat) (A : Option Addr) (n : Nat) (ls : List (List Text)) : Prop :=
  ls.length = n ∧ ∀ i l, ls[i]? = some l → ∃ ad B m c, A = some ad ∧ ad.block < hi ∧ w.cell? (ad.add i) = some (.slice B m c) ∧ l.length = m ∧ m ≤ c ∧ m ≤ 1000000 ∧ Rd w 0 hi B (strs l)
theorem Lists.below {w w' : World} {hi n₀ : Nat} {A : Option Addr} {n : Nat} {ls : List (List Text)} (h : Lists w hi A n ls) (hb : Below n₀ w w') (hn : hi ≤ n₀) : Lists w' hi A n ls := by
  refine ⟨h.1, fun i l hl => ?_⟩
  obtain ⟨ad, B, m, c, e, h1, h2, h3, h4, h5, h6⟩ := h.2 i l hl
  have hblk : (ad.add i).block = ad.block := by unfold Addr.add; split <;> rfl
  exact ⟨ad, B, m, c, e, h1, by rw [hb.cell (by rw [hblk]; omega)]; exact h2, h3, h4, h5, h6.below hb hn⟩
/-- what has come, k lists and j texts being over -/
def come (ls : List (List Text)) (k j : Nat) : List Text := (ls.take k).flatten ++ (ls.getD k []).take j
theorem come_zero (ls : List (List Text)) : come ls 0 0 = [] := by simp [come]
theorem come_step (ls : List (List Text)) (k j : Nat) (x : Text) (h : (ls.getD k [])[j]? = some x) : come ls k (j + 1) = come ls k j ++ [x] := by
  simp only [come, List.append_assoc, List.take_add_one, h, Option.toList_some]
theorem come_next (ls : List (List Text)) (k : Nat) (l : List Text) (h : ls[k]? = some l) : come ls k l.length = come ls (k + 1) 0 := by
  simp only [come, List.getD_eq_getElem?_getD, h, Option.getD_some, List.take_length, List.take_zero, List.append_nil, List.take_add_one, Option.toList_some, List.flatten_append, List.flatten_cons, List.flatten_nil]
theorem come_all (ls : List (List Text)) : come ls ls.length 0 = ls.flatten := by simp [come]
theorem come_prefix (ls : List (List Text)) (k j : Nat) (x : Text) (h : (ls.getD k [])[j]? = some x) : (come ls k j).length < ls.flatten.length := by
  have hk : k < ls.length := by
    apply Classical.byContradiction; intro hk
    rw [List.getD_eq_getElem?_getD, List.getElem?_eq_none (show ls.length ≤ k by omega)] at h; simp at h
  have hj := (List.getElem?_eq_some_iff.1 h).1
  have e : ls.flatten = (ls.take k).flatten ++ ((ls.getD k []) ++ (ls.drop (k + 1)).flatten) := by
    conv => lhs; rw [← List.take_append_drop k ls, List.flatten_append, List.drop_eq_getElem_cons hk, List.flatten_cons]
    simp [List.getD_eq_getElem?_getD, hk]
  rw [e, come]
  simp only [List.length_append, List.length_take]
  omega

theorem Lists.at_ {w : World} {hi : Nat} {A : Option Addr} {n : Nat} {ls : List (List Text)} (h : Lists w hi A n ls) (k : Nat) (hk : k < n) : ∃ ad B m c, A = some ad ∧ ad.block < hi ∧ w.cell? (ad.add k) = some (.slice B m c) ∧ (ls.getD k []).length = m ∧ ls[k]? = some (ls.getD k []) ∧ m ≤ c ∧ m ≤ 1000000 ∧ Rd w 0 hi B (strs (ls.getD k [])) := by
  have hk' : k < ls.length := by rw [h.1]; exact hk
  have e : ls[k]? = some (ls.getD k []) := by simp [hk']
  obtain ⟨ad, B, m, c, r1, r2, r3, r4, r5, r6, r7⟩ := h.2 k _ e
  exact ⟨ad, B, m, c, r1, r2, r3, r4, e, r5, r6, r7⟩
set_option maxRecDepth 100000 in
set_option maxHeartbeats 2000000 in
theorem all1_in (F : Fence) (n : Nat) (h26 : F.fn 26) (hro : F.round = none) (hn : 1 ≤ n) (l Bs n₀ : Nat) (A : Option Addr) (len cap : Nat) (ls : List (List Text)) (hlen : len ≤ 1000000) (J Jx : List Text → World → Prop)
    (hY : ∀ pre x W, J pre W → pre.length < ls.flatten.length → YieldAt F (n - 1) Try.prog l #[encT x] W fun e W' =>
      (e = .returned (.bool true) ∧ J (pre ++ [x]) W' ∧ Below n₀ W W') ∨ (e = .returned (.bool false) ∧ Jx (pre ++ [x]) W'))
    (W : World) (hBs : W.cell? ⟨Bs, 0, none⟩ = some (.slice A len cap)) (hL : Lists W n₀ A len ls) (h0 : J [] W) :
    CallsIn F n Try.prog 26 #[.func (.yield l) #[] #[], .pointer (some ⟨Bs, 0, none⟩)] W fun e W' => (∃ v, e = .returned v) ∧
      ((∃ ys, ys = ls.flatten ∧ J ys W') ∨ (∃ pre, True ∧ Jx pre W')) := by
  refine callsIn_of_wp Try.func26 rfl h26 ?_ hro
  simp only [Try.ntmps26, List.size_toArray, List.length_cons, List.length_nil, Nat.reduceAdd, Nat.reduceSub, Array.replicate_succ, Array.replicate_zero, List.push_toArray, List.append_toArray, List.nil_append, List.cons_append]
  gi_wp2
  gi_loopw [9] (fun i wr => ∃ k : Nat, k ≤ len ∧ i = .int .i64 k ∧ J (come ls k 0) wr ∧ Lists wr n₀ A len ls)
    (fun i _ => len - (intOf i).toNat)
  case atStart => exact ⟨0, Nat.zero_le _, rfl, by rw [come_zero]; exact h0, hL⟩
  case round =>
    clear hL h0
    obtain ⟨k, hk, rfl, hJs, hL⟩ := hrel
    by_cases hlt : k < len
    · obtain ⟨ad, B, m, c, rfl, hb, hc, hm, hls, hmc, hm6, hr⟩ := hL.at_ k hlt
      have HM := Lib.hid hm; clear hm
      gi_wp2
      gi_loopw [15] (fun i wr => ∃ j : Nat, j ≤ m ∧ i = .int .i64 j ∧ J (come ls k j) wr ∧ Lists wr n₀ (some ad) len ls ∧ Rd wr 0 n₀ B (strs (ls.getD k []))) (fun i _ => m - (intOf i).toNat)
      case atStart => exact ⟨0, Nat.zero_le _, rfl, hJs, hL, hr⟩
      case round =>
        clear hL hJs hr
        obtain ⟨j, hj, rfl, hJs, hL, hr⟩ := hrel
        by_cases hltj : j < m
        · have hjl : j < (ls.getD k []).length := by have := HM.out; omega
          obtain ⟨ad2, rfl, _, hb2, hc2⟩ := hr.at_ (strs_get (ls.getD k []) j hjl)
          have hget : (ls.getD k [])[j]? = some ((ls.getD k [])[j]) := List.getElem?_eq_getElem hjl
          obtain ⟨fn, tmps, assign, body, hy, hR⟩ := hY _ ((ls.getD k [])[j]) wr hJs (come_prefix ls k j _ hget)
          unfold encT at hy
          have HG := Lib.hid (come_step ls k j _ hget)
          clear hget
          generalize (ls.getD k [])[j] = x at *
          gi_wp2
          refine hR.mono ?_
          rintro e W3 (⟨rfl, hJ3, hk3⟩ | ⟨rfl, hJx3⟩)
          · gi_wp2
            go_roundw
            case rel => exact ⟨j + 1, by omega, by simp, by rw [HG.out]; exact hJ3, hL.below hk3 (Nat.le_refl _), hr.below hk3 (Nat.le_refl _)⟩
            case measure => simp [intOf]; omega
          · gi_wp2
            refine bodyPost_ret (results_none rfl _ _ _) rfl ?_
            exact ⟨⟨_, rfl⟩, .inr ⟨_, trivial, hJx3⟩⟩
        · obtain rfl : j = m := by omega
          have HN := Lib.hid (come_next ls k _ hls)
          gi_wp2
          go_roundw
          case rel => exact ⟨k + 1, by omega, by simp, by rw [← HN.out, HM.out]; exact hJs, hL⟩
          case measure => simp [intOf]; omega
    · obtain rfl : k = len := by omega
      have HC := Lib.hid (come_all ls)
      rw [hL.1] at HC
      gi_wp2
      go_end0
      exact ⟨⟨_, rfl⟩, .inl ⟨_, HC.out, hJs⟩⟩
end Go.Proofs.Ytjhpdcfhdpnloaa
