/- Merged lists in plain words: sorted and each text once, or put in one by one, is one list. No program in it, no conditions. -/
import Derived.Test.YtjhpdcfhdpnloaaIter
import Derived.Lib.SlicesCompact
namespace Go.Proofs.Ytjhpdcfhdpnloaa
instance : Std.Irrefl (α := UInt8) (· < ·) := ⟨fun a => UInt8.lt_irrefl a⟩
theorem lt_irreflT (a : Text) : ¬ a < a := List.lt_irrefl a
theorem lt_transT {a b c : Text} (h : a < b) (k : b < c) : a < c := List.lt_trans h k
theorem lt_asymmT {a b : Text} (h : a < b) : ¬ b < a := List.lt_asymm h
theorem lt_triT (a b : Text) : a < b ∨ a = b ∨ b < a := by
  by_cases h : a < b
  · exact .inl h
  · by_cases k : b < a
    · exact .inr (.inr k)
    · exact .inr (.inl (List.le_antisymm (show a ≤ b from k) (show b ≤ a from h)))
/-- texts that rise -/
def Rises (l : List Text) : Prop := l.Pairwise (· < ·)
theorem rises_unique : ∀ (a b : List Text), Rises a → Rises b → (∀ s, s ∈ a ↔ s ∈ b) → a = b
  | [], [], _, _, _ => rfl
  | [], y :: b, _, _, h => absurd ((h y).2 (by simp)) (by simp)
  | x :: a, [], _, _, h => absurd ((h x).1 (by simp)) (by simp)
  | x :: a, y :: b, ha, hb, h => by
    unfold Rises at ha hb
    rw [List.pairwise_cons] at ha hb
    have hxy : x = y := by
      have h1 := (h x).1 (by simp)
      have h2 := (h y).2 (by simp)
      rcases List.mem_cons.1 h1 with e | e
      · exact e
      · rcases List.mem_cons.1 h2 with e' | e'
        · exact e'.symm
        · exact absurd (ha.1 y e') (lt_asymmT (hb.1 x e))
    subst hxy
    congr 1
    refine rises_unique a b ha.2 hb.2 fun s => ?_
    constructor
    · intro hs
      rcases List.mem_cons.1 ((h s).1 (List.mem_cons_of_mem _ hs)) with e | e
      · subst e; exact absurd (ha.1 _ hs) (lt_irreflT _)
      · exact e
    · intro hs
      rcases List.mem_cons.1 ((h s).2 (List.mem_cons_of_mem _ hs)) with e | e
      · subst e; exact absurd (hb.1 _ hs) (lt_irreflT _)
      · exact e
/-- what slices.Sort and slices.Compact make -/
def mergeL (l : List Text) : List Text := Lib.compact (l.mergeSort fun x y => decide (x ≤ y))
theorem compactUp_law (d : Array Text) (hs : d.toList.Pairwise (· ≤ ·)) : ∀ m, m ≤ d.size → Rises (Lib.compactUpTo d m) ∧ (∀ s, s ∈ Lib.compactUpTo d m ↔ ∃ j, j < m ∧ s = d[j]!)
  | 0, _ => by simp [Lib.compactUpTo, Rises]
  | m + 1, hm => by
    obtain ⟨h1, h2⟩ := compactUp_law d hs m (by omega)
    have hle : ∀ i j, i < j → j < d.size → d[i]! ≤ d[j]! := fun i j hij hj => by
      have := List.pairwise_iff_getElem.1 hs i j (by simp; omega) (by simpa using hj) hij
      simpa [getElem!_pos, hj, show i < d.size by omega] using this
    rw [Lib.compactUpTo_succ]
    by_cases hk : Lib.keeps d m = true
    · rw [if_pos hk]
      constructor
      · unfold Rises
        rw [List.pairwise_append]
        refine ⟨h1, by simp, fun a ha b hb => ?_⟩
        obtain rfl : b = d[m]! := by simpa using hb
        obtain ⟨j, hj, rfl⟩ := (h2 a).1 ha
        unfold Lib.keeps at hk
        have hk : m = 0 ∨ d[m]! ≠ d[m - 1]! := by simpa using hk
        rcases hk with hk | hk
        · omega
        · have e1 : d[m - 1]! ≤ d[m]! := hle (m - 1) m (by omega) (by omega)
          have e2 : d[m - 1]! < d[m]! := by
            rcases lt_triT d[m - 1]! d[m]! with e | e | e
            · exact e
            · exact absurd e.symm hk
            · exact absurd e e1
          by_cases hjm : j = m - 1
          · subst hjm; exact e2
          · have e3 := hle j (m - 1) (by omega) (by omega)
            rcases lt_triT d[j]! d[m - 1]! with e | e | e
            · exact lt_transT e e2
            · rw [e]; exact e2
            · exact absurd e e3
      · intro s
        rw [List.mem_append, h2 s]
        constructor
        · rintro (⟨j, hj, rfl⟩ | h)
          · exact ⟨j, by omega, rfl⟩
          · exact ⟨m, by omega, by simpa using h⟩
        · rintro ⟨j, hj, rfl⟩
          by_cases e : j = m
          · subst e; right; simp
          · left; exact ⟨j, by omega, rfl⟩
    · rw [if_neg hk, List.append_nil]
      refine ⟨h1, fun s => ?_⟩
      rw [h2 s]
      unfold Lib.keeps at hk
      have hk : ¬ (m = 0 ∨ d[m]! ≠ d[m - 1]!) := by simpa using hk
      have hk1 : d[m]! = d[m - 1]! := by
        apply Classical.byContradiction; intro h; exact hk (.inr h)
      have hk0 : m ≠ 0 := fun h => hk (.inl h)
      constructor
      · rintro ⟨j, hj, rfl⟩; exact ⟨j, by omega, rfl⟩
      · rintro ⟨j, hj, rfl⟩
        by_cases e : j = m
        · subst e; exact ⟨j - 1, by omega, hk1⟩
        · exact ⟨j, by omega, rfl⟩
theorem mergeSort_le (l : List Text) : (l.mergeSort fun x y => decide (x ≤ y)).Pairwise (· ≤ ·) := by
  have := List.pairwise_mergeSort (le := fun x y : Text => decide (x ≤ y)) (fun a b c h k => by
    simp only [decide_eq_true_eq] at *
    exact List.le_trans h k) (fun a b => by simp only [Bool.or_eq_true, decide_eq_true_eq]; exact List.le_total a b) l
  simpa using this
theorem mergeL_law (l : List Text) : Rises (mergeL l) ∧ ∀ s, s ∈ mergeL l ↔ s ∈ l := by
  have h := compactUp_law (l.mergeSort fun x y => decide (x ≤ y)).toArray (by simpa using mergeSort_le l) _ (Nat.le_refl _)
  have e : Lib.compactUpTo (l.mergeSort fun x y => decide (x ≤ y)).toArray (l.mergeSort fun x y => decide (x ≤ y)).toArray.size = mergeL l := by simp [mergeL, Lib.compact]
  rw [e] at h
  refine ⟨h.1, fun s => ?_⟩
  rw [h.2 s, ← List.mem_mergeSort (le := fun x y : Text => decide (x ≤ y)) (l := l), List.mem_iff_getElem]
  constructor
  · rintro ⟨j, hj, rfl⟩
    exact ⟨j, by simpa using hj, by simp [getElem!_pos, show j < l.length by simpa using hj]⟩
  · rintro ⟨j, hj, rfl⟩
    exact ⟨j, by simpa using hj, by simp [getElem!_pos, show j < l.length by simpa using hj]⟩
/-- how many texts of a list stand ahead of a text -/
def atOf (l : List Text) (s : Text) : Nat := (l.takeWhile fun x => decide (x < s)).length
theorem atOf_le (l : List Text) (s : Text) : atOf l s ≤ l.length := (List.takeWhile_prefix _).length_le
def withL (l : List Text) (s : Text) : List Text := if l[atOf l s]? = some s then l else l.take (atOf l s) ++ s :: l.drop (atOf l s)
theorem take_atOf (l : List Text) (s : Text) : l.take (atOf l s) = l.takeWhile fun x => decide (x < s) := by
  unfold atOf
  exact (List.prefix_iff_eq_take.1 (List.takeWhile_prefix _)).symm
theorem drop_atOf : ∀ (l : List Text) (s : Text), l.drop (atOf l s) = l.dropWhile fun x => decide (x < s)
  | [], _ => by simp [atOf]
  | x :: l, s => by
    by_cases h : x < s
    · have := drop_atOf l s
      simp [atOf, h] at this ⊢
      exact this
    · simp [atOf, h]
theorem lt_atOf (l : List Text) (s : Text) : ∀ x ∈ l.take (atOf l s), x < s := by
  rw [take_atOf]
  intro x hx
  have := List.all_takeWhile (p := fun x => decide (x < s)) (l := l)
  rw [List.all_eq_true] at this
  simpa using this x hx
theorem withL_law (l : List Text) (s : Text) (h : Rises l) : Rises (withL l s) ∧ ∀ x, x ∈ withL l s ↔ x = s ∨ x ∈ l := by
  unfold withL
  by_cases hs : l[atOf l s]? = some s
  · rw [if_pos hs]
    refine ⟨h, fun x => ⟨.inr, ?_⟩⟩
    rintro (rfl | h)
    · exact List.mem_of_getElem? hs
    · exact h
  · rw [if_neg hs]
    have hd : ∀ x ∈ l.drop (atOf l s), s < x := by
      have hhead : ∀ y m, l.drop (atOf l s) = y :: m → s < y := fun y m e => by
        have hn : ¬ y < s := by
          have := drop_atOf l s
          rw [e] at this
          have := List.head?_dropWhile_not (fun x => decide (x < s)) l
          rw [← drop_atOf, e] at this
          simpa using this
        have hy : l[atOf l s]? = some y := by
          rw [← List.head?_drop, e]; rfl
        rcases lt_triT s y with q | q | q
        · exact q
        · subst q; exact absurd hy hs
        · exact absurd q hn
      cases e : l.drop (atOf l s) with
      | nil => simp
      | cons y m =>
        have hp : Rises (y :: m) := by rw [← e]; exact List.Pairwise.sublist (List.drop_sublist _ _) h
        intro x hx
        have hy := hhead y m e
        rcases List.mem_cons.1 hx with rfl | hx
        · exact hy
        · exact lt_transT hy ((List.pairwise_cons.1 hp).1 x hx)
    constructor
    · unfold Rises
      rw [List.pairwise_append]
      refine ⟨List.Pairwise.sublist (List.take_sublist _ _) h, List.pairwise_cons.2 ⟨hd, List.Pairwise.sublist (List.drop_sublist _ _) h⟩, fun a ha b hb => ?_⟩
      have h1 := lt_atOf l s a ha
      rcases List.mem_cons.1 hb with rfl | hb
      · exact h1
      · exact lt_transT h1 (hd b hb)
    · intro x
      rw [List.mem_append, List.mem_cons]
      have : x ∈ l ↔ x ∈ l.take (atOf l s) ∨ x ∈ l.drop (atOf l s) := by rw [← List.mem_append, List.take_append_drop]
      rw [this]
      constructor
      · rintro (h | h | h)
        · exact .inr (.inl h)
        · exact .inl h
        · exact .inr (.inr h)
      · rintro (h | h | h)
        · exact .inr (.inl h)
        · exact .inl h
        · exact .inr (.inr h)
theorem fold_law : ∀ (t l : List Text), Rises l → Rises (t.foldl withL l) ∧ ∀ x, x ∈ t.foldl withL l ↔ x ∈ t ∨ x ∈ l
  | [], l, h => by simp [h]
  | s :: t, l, h => by
    obtain ⟨h1, h2⟩ := withL_law l s h
    obtain ⟨h3, h4⟩ := fold_law t _ h1
    refine ⟨h3, fun x => ?_⟩
    rw [List.foldl_cons, h4 x, h2 x, List.mem_cons]
    constructor
    · rintro (h | h | h)
      · exact .inl (.inr h)
      · exact .inl (.inl h)
      · exact .inr h
    · rintro ((h | h) | h)
      · exact .inr (.inl h)
      · exact .inl h
      · exact .inr (.inr h)
theorem fold_merge (t : List Text) : t.foldl withL [] = mergeL t := by
  obtain ⟨h1, h2⟩ := fold_law t [] (by simp [Rises])
  obtain ⟨h3, h4⟩ := mergeL_law t
  exact rises_unique _ _ h1 h3 fun s => by rw [h2 s, h4 s]; simp
theorem mergeL_len (l : List Text) : (mergeL l).length ≤ l.length := by
  have : ∀ (d : Array Text) m, (Lib.compactUpTo d m).length ≤ m := fun d m => by
    unfold Lib.compactUpTo; rw [List.length_map]; exact Nat.le_trans (List.length_filter_le _ _) (by simp)
  have h := this (l.mergeSort fun x y => decide (x ≤ y)).toArray (l.mergeSort fun x y => decide (x ≤ y)).length
  simpa [mergeL, Lib.compact] using h
end Go.Proofs.Ytjhpdcfhdpnloaa
