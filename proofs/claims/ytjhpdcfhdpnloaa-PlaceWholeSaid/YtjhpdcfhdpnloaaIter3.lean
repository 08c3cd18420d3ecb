/- slices.Collect, slices.Sorted over place.all; slices.Compact; place.Merge. Lists that are read as data. -/
import Derived.Test.YtjhpdcfhdpnloaaIter2
namespace Go.Proofs.Ytjhpdcfhdpnloaa
open Go.RowKit Go.Shelf Go.Sort
attribute [local go_sem] Oper.semAt_some

/-! ### a row that the call owns, sorted or made compact -/
theorem putCells_zero (ts : List Text) (xs sp : List Value) (h : ts.length = xs.length) : putCells encStr 0 ts.toArray (xs ++ sp).toArray = (strs ts ++ sp).toArray := by
  apply Array.ext'
  apply List.ext_getElem?
  intro j
  rw [Array.getElem?_toList]
  by_cases hj : j < ts.length
  · have hx : j < (xs ++ sp).length := by simp; omega
    rw [List.getElem?_append_left (by rw [strs_length]; exact hj), strs_get ts j hj]
    simp [putCells, hj, encStr, show j < xs.length + sp.length by omega]
  · rw [List.getElem?_append_right (by rw [strs_length]; omega), strs_length]
    simp only [putCells, Array.getElem?_mapIdx, List.getElem?_toArray]
    rw [List.getElem?_append_right (by omega), h]
    simp [hj]
theorem blk_putRow {w : World} {g n : Nat} {os : Array Obj} {t : TypeId} {ts : List Text} {xs sp : List Value} (hb : Blk w g t (xs ++ sp)) (h : ts.length = xs.length) :
    Blk (grow (putRow encStr (Sort.ahead w n) g 0 ts.toArray) os) g t (strs ts ++ sp) := by
  have := heap_sorted (n := n) (os := os) ts.toArray hb
  rw [putCells_zero ts xs sp h] at this
  exact this
theorem holds_blk {w : World} {g : Nat} {t : TypeId} {ss : List Text} {sp : List Value} (hb : Blk w g t (strs ss ++ sp)) : Holds encStr w g 0 ss.toArray :=
  holds_of_block hb (by simp [strs, encStr])

theorem Shelf.sorts_wide (m : Nat) : (∀ (blk off cap : Nat) (ss : List (List UInt8)) (W : World), Holds encStr W blk off ss.toArray → blk < W.heap.size → ss.length < 4611686018427387904 →
    CallsIn Fence.wide m Try.prog 25 #[.slice (some ⟨blk, off, none⟩) ss.length cap] W fun e w' => e = .returned (.tuple #[]) ∧ ∃ k os, w' = grow (putRow encStr (Sort.ahead W k) blk off (ss.mergeSort fun x y => decide (x ≤ y)).toArray) os) ∧
  (∀ (p : Option Addr) (cap : Nat) (W : World), CallsIn Fence.wide m Try.prog 25 #[.slice p 0 cap] W fun e w' => e = .returned (.tuple #[]) ∧ w' = W) :=
  ⟨fun blk off cap ss W hH hblk hsz => callsIn_wide.2 (Try.slices_Sort_string blk off cap ss W hH hblk hsz),
   fun p cap W => callsIn_wide.2 (Try.slices_Sort_string_none p cap W)⟩
def sortT (xs : List Text) : List Text := xs.mergeSort fun x y => decide (x ≤ y)
theorem sortT_length (xs : List Text) : (sortT xs).length = xs.length := by simp [sortT]
/-- slices.Sort at a row that the call owns -/
theorem sort_own {lo : Nat} {v : Value} {xs : List Text} {w : World} (h : Own w lo 9 1 IsStr v (strs xs)) (hn : xs.length ≤ 1000000) (m : Nat) :
    CallsIn Fence.wide m Try.prog 25 #[v] w fun e w' => e = .returned (.tuple #[]) ∧ Own w' lo 9 1 IsStr v (strs (sortT xs)) ∧ w.grownBy w' v.ownBlock := by
  have hw := Shelf.sorts_wide m
  rcases h with ⟨rfl, h0⟩ | ⟨g, n, cap, sp, rfl, h1, h2, h3, h4, h5, h6, h7⟩
  · obtain rfl : xs = [] := by simpa [strs] using h0
    refine (hw.2 none 0 w).mono ?_
    rintro _ _ ⟨rfl, rfl⟩
    exact ⟨rfl, by rw [show sortT [] = [] by simp [sortT]]; exact Own.nil _ _ _ _ _, ⟨rfl, rfl, rfl, Nat.le_refl _, fun _ _ _ => rfl⟩⟩
  · have hn' : xs.length = n := by rw [strs_length] at h3; omega
    subst hn'
    refine (hw.1 g 0 cap xs w (holds_blk h2) h2.lt (by omega)).mono ?_
    rintro _ _ ⟨rfl, k, os, rfl⟩
    have hb := blk_putRow (n := k) (os := os) (ts := sortT xs) h2 (by rw [sortT_length, strs_length])
    exact ⟨rfl, .inr ⟨g, _, cap, sp, rfl, h1, hb, by rw [strs_length, sortT_length]; omega, by rw [strs_length, sortT_length] at *; exact h4, h5, h6, h7⟩, grownBy_sorted _⟩
/-- slices.Compact at a row that the call owns -/
theorem compact_own {lo : Nat} {v : Value} {xs : List Text} {w : World} (h : Own w lo 9 1 IsStr v (strs xs)) (hn : xs.length ≤ 1000000) :
    Calls Try.prog 18 #[v] w fun e w' => ∃ v', e = .returned v' ∧ Own w' lo 9 1 IsStr v' (strs (Lib.compact xs)) ∧ w.grownBy w' v.ownBlock := by
  have hcl : (Lib.compact xs).length ≤ xs.length := by
    unfold Lib.compact Lib.compactUpTo; rw [List.length_map]; exact Nat.le_trans (List.length_filter_le _ _) (by simp)
  rcases h with ⟨rfl, h0⟩ | ⟨g, n, cap, sp, rfl, h1, h2, h3, h4, h5, h6, h7⟩
  · obtain rfl : xs = [] := by simpa [strs] using h0
    refine (Try.slices_Compact_string_empty none 0 w).mono ?_
    rintro _ _ ⟨rfl, rfl⟩
    exact ⟨_, rfl, Own.nil _ _ _ _ _, ⟨rfl, rfl, rfl, Nat.le_refl _, fun _ _ _ => rfl⟩⟩
  · have hn' : xs.length = n := by rw [strs_length] at h3; omega
    subst hn'
    refine (Try.slices_Compact_string g 0 cap xs w (holds_blk h2) (by omega) h5).mono ?_
    rintro _ _ ⟨rfl, q, rfl⟩
    have hb := blk_putRow (n := q) (os := #[]) (ts := Lib.compact xs ++ List.replicate (xs.length - (Lib.compact xs).length) []) h2 (by rw [strs_length]; simp; omega)
    have hg := grownBy_sorted (w := w) (g := g) (n := q) (os := #[]) (Lib.compact xs ++ List.replicate (xs.length - (Lib.compact xs).length) []).toArray
    rw [grow_empty] at hb hg
    refine ⟨_, rfl, .inr ⟨g, _, cap, strs (List.replicate (xs.length - (Lib.compact xs).length) []) ++ sp, rfl, h1, ?_, by rw [strs_length]; omega, ?_, by omega, h6, ?_⟩, hg⟩
    · rw [← List.append_assoc]; simpa [strs] using hb
    · rw [List.length_append, strs_length, strs_length] at *; simp; omega
    · intro u hu
      rcases List.mem_append.1 hu with hu | hu
      · refine isStr_strs _ ?_ u hu
        intro s hs; rw [(List.mem_replicate.1 hs).2]; simp
      · exact h7 u hu

set_option maxHeartbeats 1000000 in
theorem collect_in (F : Fence) (n : Nat) (h24 : F.fn 24) (h30 : F.fn 30) (hro : F.round = none) (hn : 4 ≤ n) (g : Nat) (lb : Array Value) (hFg : F.fn g) (eg : ∀ args w, (callFunc g args).run Try.prog w = .ok (.enter g args) w)
    (xs : List Text) (hlen : xs.length ≤ 1000000) (w : World) (n₀ : Nat) (hn₀ : n₀ ≤ w.heap.size)
    (hseq : SeqStopsK F (n - 1 - 1) Try.prog g lb (fun x : Text => #[encT x]) (Below n₀) (fun ys => ys = xs) (fun _ => True) xs.length w) :
    CallsIn F n Try.prog 24 #[.func (.func g) #[] lb] w fun e w' => ∃ v, e = .returned v ∧ Own w' w.heap.size 9 1 IsStr v (strs xs) ∧ Below w.heap.size w w' := by
  have h1 : 1 ≤ n := by omega
  refine callsIn_of_wp Try.func24 rfl h24 ?_ hro
  simp only [Try.ntmps24, List.size_toArray, List.length_cons, List.length_nil, Nat.reduceAdd, Nat.reduceSub, Array.replicate_succ, Array.replicate_zero, List.push_toArray, List.append_toArray, List.nil_append, List.cons_append]
  gi_wp2_with (gi_at_call 30; refine (appendSeq_in F (n - 1) h30 hro (by omega) g lb hFg eg xs hlen _ n₀ hn₀ hseq).mono ?_; rintro e w' ⟨v, rfl, hrow, hb⟩)
  go_ret
  exact ⟨v, rfl, hrow, hb⟩
set_option maxHeartbeats 1000000 in
theorem sorted_in (n : Nat) (hn : 5 ≤ n) (g : Nat) (lb : Array Value) (eg : ∀ args w, (callFunc g args).run Try.prog w = .ok (.enter g args) w)
    (xs : List Text) (hlen : xs.length ≤ 1000000) (w : World) (n₀ : Nat) (hn₀ : n₀ ≤ w.heap.size)
    (hseq : SeqStopsK Fence.wide (n - 1 - 1 - 1) Try.prog g lb (fun x : Text => #[encT x]) (Below n₀) (fun ys => ys = xs) (fun _ => True) xs.length w) :
    CallsIn Fence.wide n Try.prog 19 #[.func (.func g) #[] lb] w fun e w' => ∃ v, e = .returned v ∧ Own w' w.heap.size 9 1 IsStr v (strs (sortT xs)) ∧ Below w.heap.size w w' := by
  have h1 : 1 ≤ n := by omega
  refine callsIn_of_wp Try.func19 rfl trivial ?_ rfl
  simp only [Try.ntmps19, List.size_toArray, List.length_cons, List.length_nil, Nat.reduceAdd, Nat.reduceSub, Array.replicate_succ, Array.replicate_zero, List.push_toArray, List.append_toArray, List.nil_append, List.cons_append]
  gi_wp2_with (first
    | (refine ⟨trivial, ?_⟩; gi_at_call 24; refine (collect_in Fence.wide (n - 1) trivial trivial rfl (by omega) g lb trivial eg xs hlen _ n₀ hn₀ hseq).mono ?_; rintro e w1 ⟨v, rfl, hrow, hb⟩)
    | (refine ⟨trivial, ?_⟩; gi_at_call 25; refine (sort_own hrow hlen (n - 1)).mono ?_; rintro e w2 ⟨rfl, hrow2, hg2⟩))
  go_ret
  exact ⟨v, rfl, hrow2, hb.grown hg2 hb.size (fun j hj => (hrow.lt j hj).1)⟩
set_option maxHeartbeats 1000000 in
/-- **place.Merge: all texts of all lists, rising, each once, in memory of its own.** -/
theorem merge_any (A : Option Addr) (n c hi : Nat) (ls : List (List Text)) (w : World) (hn : n ≤ 1000000) (hlen : ls.flatten.length ≤ 1000000) (hhi : hi ≤ w.heap.size) (hL : Lists w hi A n ls) :
    Calls Try.prog 8 #[.slice A n c] w fun e w' => ∃ v, e = .returned v ∧ Own w' w.heap.size 9 1 IsStr v (strs (mergeL ls.flatten)) ∧ Ext w w' := by
  refine (callsIn_wide (n := 8)).1 ?_
  have hsz : (w.alloc (.cells #[.slice A n c] 22)).heap.size = w.heap.size + 1 := size_alloc _ _
  have hB0 : Below hi w (w.alloc (.cells #[.slice A n c] 22)) := (Below.refl _ w).alloc hhi _
  have hst : SeqStopsK Fence.wide (8 - 1 - 1 - 1 - 1) Try.prog 26 #[.pointer (some ⟨w.heap.size, 0, none⟩)] (fun x : Text => #[encT x]) (Below hi) (fun ys => ys = ls.flatten) (fun _ => True) ls.flatten.length (w.alloc (.cells #[.slice A n c] 22)) :=
    all_stops Fence.wide _ trivial rfl (by decide) w.heap.size hi A n c ls hn _ (by omega) (by omega) (Boxed.new w _ _).cell (hL.below hB0 (Nat.le_refl _))
  refine callsIn_of_wp Try.func8 rfl trivial ?_ rfl
  simp only [Try.ntmps8, List.size_toArray, List.length_cons, List.length_nil, Nat.reduceAdd, Nat.reduceSub, Array.replicate_succ, Array.replicate_zero, List.push_toArray, List.append_toArray, List.nil_append, List.cons_append]
  gi_wp2_with (first
    | (refine ⟨trivial, ?_⟩; gi_at_call 20; refine (all_in Fence.wide 7 trivial rfl A n c w).mono ?_; rintro _ _ ⟨rfl, rfl⟩)
    | (refine ⟨trivial, ?_⟩; gi_at_call 19; refine (sorted_in 7 (by decide) 26 _ (enters_of Try.func26 (by kernel_rfl) rfl) ls.flatten hlen _ hi (by omega) hst).mono ?_; rintro _ w1 ⟨v, rfl, hrow, hb⟩)
    | (refine ⟨trivial, ?_⟩; gi_at_call 18; refine (callsIn_wide.2 (compact_own hrow (by rw [sortT_length]; exact hlen))).mono ?_; rintro _ w2 ⟨v2, rfl, hrow2, hg2⟩))
  go_ret
  refine ⟨v2, rfl, hrow2.less (by omega), ?_⟩
  exact ((Ext.refl w).alloc _).trans (hb.grown hg2 hb.size (fun j hj => (hrow.lt j hj).1))
end Go.Proofs.Ytjhpdcfhdpnloaa
