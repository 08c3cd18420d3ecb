/- What comes in, opened: lists of texts, and lists of such lists, as they are read. No conditions. -/
import Derived.Test.YtjhpdcfhdpnloaaPlaceM
import Derived.ProofKit
import Derived.OpenShut
import Derived.ShutString
import Derived.ChangeOld
import Derived.Below
import Derived.SizedLaws
import Derived.SliceStrings
import Derived.Deep.Slices
namespace Go.Proofs.Ytjhpdcfhdpnloaa
open Go.RowKit Go.ChangeShapes Go.WideShapes Go.ChangeAt

theorem open_texts {H : Type} {enc : TypeId × Value → H} {P : Program} {w : World} {t e : TypeId} {fuel : Nat} {v : Value} {x : DataW H × List MemPlace} (ht : P.underlying t = some (.slice e)) (he : P.underlying e = some .string) (hc : P.cellsOf e = 1)
    (h : DataW.trod enc P w 0 (fun _ => true) true fuel t [v] = some x) :
    ∃ A m c l, v = .slice A m c ∧ (l : List (List UInt8)).length = m ∧ m ≤ c ∧ c ≤ maxLen ∧ Rd w 0 w.heap.size A (strs l) ∧ ∀ s ∈ l, s.length ≤ maxLen := by
  rcases open_strings ht he hc h with ⟨hcs, _⟩ | ⟨a, len, cap, ss, hcs, _, hl, hm, hz, _, hcell, hws⟩
  · cases hcs
    exact ⟨none, 0, 0, [], rfl, rfl, Nat.le_refl _, Nat.zero_le _, Rd.nil, by simp⟩
  · cases hcs
    simp only [if_true] at hz
    refine ⟨some a, len, cap, (ss.take len).map (·.data.toList), rfl, by simp; omega, hl, hm, ?_, ?_⟩
    · have hcl : ∀ j u, (strs ((ss.take len).map (·.data.toList)))[j]? = some u → w.cell? (a.add j) = some u := fun j u hu => by
        have hj := (List.getElem?_eq_some_iff.1 hu).1
        have hj' : j < len ∧ j < ss.length := by simp [strs] at hj; omega
        rw [hcell j hj'.2]
        simp [strs, hj'.1, hj'.2] at hu
        rw [← hu]
        simp [List.getD, hj'.2]
      intro hne
      have h0 : 0 < (strs ((ss.take len).map (·.data.toList))).length := List.length_pos_iff.2 hne
      obtain ⟨u, hu⟩ : ∃ u, (strs ((ss.take len).map (·.data.toList)))[0]? = some u := ⟨_, List.getElem?_eq_getElem h0⟩
      have hb := World.block_lt_of_cell? _ _ (hcl 0 u hu)
      rw [block_of_add] at hb
      exact ⟨a, rfl, Nat.zero_le _, hb, hcl⟩
    · intro s hs
      obtain ⟨b, hb, rfl⟩ := List.mem_map.1 hs
      have := hws b (List.mem_of_mem_take hb)
      simpa using this

theorem open_text_lists {H : Type} {enc : TypeId × Value → H} {P : Program} {w : World} {t u e : TypeId} {fuel : Nat} {v : Value} {x : DataW H × List MemPlace} (ht : P.underlying t = some (.slice u)) (hu : P.underlying u = some (.slice e)) (hcu : P.cellsOf u = 1) (he : P.underlying e = some .string) (hc : P.cellsOf e = 1)
    (h : DataW.trod enc P w 0 (fun _ => true) true fuel t [v] = some x) :
    ∃ A n c ls, v = .slice A n c ∧ n ≤ maxLen ∧ ArgLists w A n ls := by
  rcases Go.Deep.open_slice1 ht hcu h with ⟨hcs, _⟩ | ⟨a, len, cap, m, n, V, D, Pl, hcs, _, hl, hm, hmm, _, hx⟩
  · cases hcs
    exact ⟨none, 0, 0, [], rfl, Nat.zero_le _, rfl, fun i l hl => by simp at hl⟩
  · cases hcs
    simp only [if_true] at hmm
    have hel : ∀ i, ∃ l : List (List UInt8), i < len → ∃ B q c, V i = .slice B q c ∧ l.length = q ∧ q ≤ c ∧ c ≤ maxLen ∧ Rd w 0 w.heap.size B (strs l) ∧ ∀ s ∈ l, s.length ≤ maxLen := fun i => by
      by_cases hi : i < len
      · obtain ⟨B, q, c, l, h1, h2⟩ := open_texts hu he hc (hx i (by omega)).2
        exact ⟨l, fun _ => ⟨B, q, c, h1, h2⟩⟩
      · exact ⟨[], fun h => absurd h hi⟩
    obtain ⟨L, hL⟩ := Classical.axiomOfChoice hel
    refine ⟨some a, len, cap, (List.range len).map L, rfl, by omega, by simp, fun i l hil => ?_⟩
    have hi : i < len := by simpa using (List.getElem?_eq_some_iff.1 hil).1
    obtain rfl : L i = l := by simpa [hi] using hil
    obtain ⟨B, q, c, h1, h2, h3, h4, h5, h6⟩ := hL i hi
    have hcell := (hx i (by omega)).1
    have hb := World.block_lt_of_cell? _ _ hcell
    rw [block_of_add] at hb
    rw [h1] at hcell
    exact ⟨a, B, q, c, rfl, hb, hcell, h2, h3, h4, h5, h6⟩
end Go.Proofs.Ytjhpdcfhdpnloaa
