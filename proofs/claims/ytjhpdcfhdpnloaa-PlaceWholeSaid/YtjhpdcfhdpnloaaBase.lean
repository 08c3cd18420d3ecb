/- The words that all texts of this seat share: slices that read as lists, blocks known whole, rows that a call owns; nothing of the program. No conditions. -/
import Derived.Test.YtjhpdcfhdpnloaaProg
import Derived.WalkKit
import Derived.WalkSpells
import Derived.WalkLawsBesides
import Derived.KernelRfl
import Derived.BigQuiet
import Derived.Deep.QuietTactic
import Derived.Deep.RegionWith
import Derived.Deep.LoopGhost
import Derived.Deep.DeepCutAuto
import Derived.Deep.AppendLies
import Derived.Deep.Draws
import Derived.Laws.CopyOwn
import Derived.Maps.AppendAt
import Derived.Lib.Hide
import Derived.StillTailTactics
namespace Go.Proofs.Ytjhpdcfhdpnloaa
open Go.RowKit

/-! ### addresses -/
theorem block_of_add (a : Addr) (n : Nat) : (a.add n).block = a.block := by unfold Addr.add; split <;> rfl
theorem add_pos (a : Addr) (n : Nat) (h : 0 < n) : a.add n = ⟨a.block, a.off + n, none⟩ := by unfold Addr.add; rw [if_neg (by omega)]
theorem add_of_add (a : Addr) (i j : Nat) : (a.add i).add j = a.add (i + j) := by
  unfold Addr.add
  by_cases hi : i = 0 <;> by_cases hj : j = 0 <;> simp [hi, hj, Nat.add_assoc]

/-! ### worlds that only grow -/
def Ext (w w' : World) : Prop := Below w.heap.size w w'
theorem Ext.refl (w : World) : Ext w w := Below.refl _ _
theorem Ext.trans {a b c : World} (h : Ext a b) (k : Ext b c) : Ext a c := Below.trans h (k.mono h.size)
theorem Ext.drew {a w : World} (h : Ext a w) : Ext a w.drew := Below.drew h
theorem Ext.drewN {a w : World} (h : Ext a w) (n : Nat) : Ext a (w.drewN n) := ⟨h.os, h.tape, h.output, h.size, h.block⟩
theorem Ext.alloc {a w : World} (h : Ext a w) (o : Obj) : Ext a (w.alloc o) := Below.alloc h h.size o
theorem Ext.set {a w : World} (h : Ext a w) {p : Addr} (hp : a.heap.size ≤ p.block) (u : Value) : Ext a (w.setCell p u) := Below.setCell h hp u
theorem Ext.below {a w w' : World} {B : Nat} (h : Ext a w) (k : Below B w w') (hB : a.heap.size ≤ B) : Ext a w' := Below.trans h (k.mono hB)
theorem Ext.sz {a w : World} (h : Ext a w) : a.heap.size ≤ w.heap.size := h.size
theorem Ext.grown {a w w' : World} {row : Option Nat} (h : Ext a w) (hg : w.grownBy w' row) (hr : ∀ k, row = some k → a.heap.size ≤ k) : Ext a w' := Below.grown h hg h.size hr

/-! ### a slice's cells, read: they lie in the blocks from lo on, below hi -/
def Rd (w : World) (lo hi : Nat) (A : Option Addr) (xs : List Value) : Prop :=
  xs ≠ [] → ∃ ad, A = some ad ∧ lo ≤ ad.block ∧ ad.block < hi ∧ ∀ j u, xs[j]? = some u → w.cell? (ad.add j) = some u

section
variable {w w' : World} {lo lo' hi hi' : Nat} {A : Option Addr} {xs : List Value}
theorem Rd.nil : Rd w lo hi A [] := fun h => absurd rfl h
theorem Rd.at_ {k : Nat} {u : Value} (h : Rd w lo hi A xs) (hk : xs[k]? = some u) : ∃ ad, A = some ad ∧ lo ≤ ad.block ∧ ad.block < hi ∧ w.cell? (ad.add k) = some u := by
  obtain ⟨ad, e, h1, h2, hc⟩ := h (by rintro rfl; simp at hk)
  exact ⟨ad, e, h1, h2, hc k u hk⟩
theorem Rd.keep (h : Rd w lo hi A xs) (hk : ∀ p : Addr, lo ≤ p.block → p.block < hi → w'.cell? p = w.cell? p) : Rd w' lo hi A xs := fun hn => by
  obtain ⟨ad, e, h1, h2, hc⟩ := h hn
  exact ⟨ad, e, h1, h2, fun j u hu => (hk _ (by rw [block_of_add]; exact h1) (by rw [block_of_add]; exact h2)).trans (hc j u hu)⟩
theorem Rd.mono (h : Rd w lo hi A xs) (hl : lo' ≤ lo) (hh : hi ≤ hi') : Rd w lo' hi' A xs := fun hn => by
  obtain ⟨ad, e, h1, h2, hc⟩ := h hn
  exact ⟨ad, e, by omega, by omega, hc⟩
theorem Rd.below {B : Nat} (h : Rd w lo hi A xs) (hb : Below B w w') (hB : hi ≤ B) : Rd w' lo hi A xs := h.keep fun _ _ hp => hb.cell (by omega)
theorem Rd.size_ (h : Rd w lo hi A xs) : Rd w lo (min hi w.heap.size) A xs := fun hn => by
  obtain ⟨ad, e, h1, h2, hc⟩ := h hn
  refine ⟨ad, e, h1, ?_, hc⟩
  obtain ⟨u, hu⟩ : ∃ u, xs[0]? = some u := by
    cases xs with
    | nil => exact absurd rfl hn
    | cons x l => exact ⟨x, rfl⟩
  have := World.block_lt_of_cell? w _ (hc 0 u hu)
  rw [block_of_add] at this
  omega
theorem Rd.ext (h : Rd w lo hi A xs) (hb : Ext w w') : Rd w' lo hi A xs := (h.size_.below hb (Nat.min_le_right _ _)).mono (Nat.le_refl _) (Nat.min_le_left _ _)
theorem Rd.take (h : Rd w lo hi A xs) (k : Nat) : Rd w lo hi A (xs.take k) := fun hn => by
  obtain ⟨ad, e, h1, h2, hc⟩ := h (by rintro rfl; simp at hn)
  refine ⟨ad, e, h1, h2, fun j u hu => hc j u ?_⟩
  rw [List.getElem?_take] at hu
  split at hu
  · exact hu
  · cases hu
theorem Rd.drop (h : Rd w lo hi A xs) (k cap : Nat) (hc : xs.length ≤ cap) : Rd w lo hi (if cap = k then A else A.map (·.add k)) (xs.drop k) := fun hn => by
  have hl : k < xs.length := by
    rcases Nat.lt_or_ge k xs.length with h | h
    · exact h
    · exact absurd (List.drop_eq_nil_of_le h) hn
  obtain ⟨ad, rfl, h1, h2, hcell⟩ := h (by rintro rfl; simp at hl)
  rw [if_neg (by omega)]
  refine ⟨ad.add k, rfl, by rw [block_of_add]; exact h1, by rw [block_of_add]; exact h2, fun j u hu => ?_⟩
  rw [add_of_add]
  exact hcell _ u (by rw [← hu, List.getElem?_drop])
end

/-! ### a block known whole -/
def Blk (w : World) (g : Nat) (t : TypeId) (cs : List Value) : Prop := w.heap[g]? = some (.cells cs.toArray t (0, 0))

section
variable {w w' : World} {g : Nat} {t : TypeId} {cs : List Value}
theorem Blk.lt (h : Blk w g t cs) : g < w.heap.size := by
  rcases Nat.lt_or_ge g w.heap.size with hlt | hge
  · exact hlt
  · unfold Blk at h; rw [Array.getElem?_eq_none hge] at h; cases h
theorem Blk.cell (h : Blk w g t cs) (i : Nat) : w.cell? ⟨g, i, none⟩ = cs[i]? := by
  have := cell_of_row w g i cs.toArray t (0, 0) h
  simpa using this
theorem Blk.cell_of (h : Blk w g t cs) {i : Nat} {u : Value} (hi : cs[i]? = some u) : w.cell? ⟨g, i, none⟩ = some u := (h.cell i).trans hi
theorem Blk.frozen (h : Blk w g t cs) (i : Nat) : w.frozen? ⟨g, i, none⟩ = false := by
  unfold Blk at h
  simp [World.frozen?, h]
theorem Blk.drew (h : Blk w g t cs) : Blk w.drew g t cs := h
theorem Blk.drewN (h : Blk w g t cs) (n : Nat) : Blk (w.drewN n) g t cs := h
theorem Blk.alloc (h : Blk w g t cs) (o : Obj) : Blk (w.alloc o) g t cs := (Below.heap_alloc w o g h.lt).trans h
theorem Blk.new (w : World) (t : TypeId) (cs : Array Value) : Blk (w.alloc (.cells cs t)) w.heap.size t cs.toList := by
  have := heap_alloc_new w (.cells cs t)
  simpa [Blk] using this
theorem size_alloc (w : World) (o : Obj) : (w.alloc o).heap.size = w.heap.size + 1 := by simp
theorem Blk.new1 (w : World) (o : Obj) (t : TypeId) (cs : Array Value) : Blk ((w.alloc o).alloc (.cells cs t)) (w.heap.size + 1) t cs.toList := by
  have h := Blk.new (w.alloc o) t cs
  rwa [size_alloc] at h
theorem Blk.new2 (w : World) (o o' : Obj) (t : TypeId) (cs : Array Value) : Blk (((w.alloc o).alloc o').alloc (.cells cs t)) (w.heap.size + 1 + 1) t cs.toList := by
  have h := Blk.new1 (w.alloc o) o' t cs
  rwa [size_alloc] at h
theorem Blk.new3 (w : World) (o o' o'' : Obj) (t : TypeId) (cs : Array Value) : Blk ((((w.alloc o).alloc o').alloc o'').alloc (.cells cs t)) (w.heap.size + 1 + 1 + 1) t cs.toList := by
  have h := Blk.new2 (w.alloc o) o' o'' t cs
  rwa [size_alloc] at h
theorem Blk.set_ (h : Blk w g t cs) (i : Nat) (u : Value) : Blk (w.setCell ⟨g, i, none⟩ u) g t (cs.set i u) := by
  unfold Blk at h ⊢
  simp [World.setCell, Array.getElem?_modify, h]
theorem Blk.far (h : Blk w g t cs) {p : Addr} (hp : g ≠ p.block) (u : Value) : Blk (w.setCell p u) g t cs := (Below.heap_setCell w p u g hp).trans h
theorem Blk.below {B : Nat} (h : Blk w g t cs) (hb : Below B w w') (hg : g < B) : Blk w' g t cs := (hb.block g hg).trans h
theorem Blk.ext (h : Blk w g t cs) (hb : Ext w w') : Blk w' g t cs := h.below hb h.lt
theorem Blk.rd (h : Blk w g t cs) : Rd w g (g + 1) (some ⟨g, 0, none⟩) cs := fun _ => ⟨_, rfl, Nat.le_refl _, Nat.lt_succ_self _, fun j u hu => by
  rw [add_plain g j]; exact h.cell_of hu⟩
  where add_plain (g j : Nat) : (⟨g, 0, none⟩ : Addr).add j = ⟨g, j, none⟩ := by unfold Addr.add; split <;> simp_all
end
theorem addr_add (g j : Nat) : (⟨g, 0, none⟩ : Addr).add j = ⟨g, j, none⟩ := by unfold Addr.add; split <;> simp_all

/-! ### make -/
theorem run_make_rowN {P : Program} (t e : TypeId) (z : Value) (bytes : Nat) (ht : P.underlying t = some (.slice e)) (hinfo : (P.info? e).map (fun i => (i.zero, i.size, i.bytes)) = some (some z, 1, bytes))
    (hz1 : z.cells = #[z]) (n : Nat) (hbytes : bytes * n ≤ 281474976710656) (h63 : n ≤ 9223372036854775807) (x : Int) (hx : x = (n : Int)) (w : World) :
    (Instr.makeSlice t (.int .i64 x) (.int .i64 x)).run P w = .ok (.slice (some ⟨w.heap.size, 0, none⟩) n n) (w.alloc (.cells (List.replicate n z).toArray e)) := by
  obtain ⟨i, hi, hz, hs, hb⟩ := info_parts hinfo
  subst hx
  have hb : (i.bytes : Int) * (n : Int) ≤ 281474976710656 := by
    have h : ((i.bytes * n : Nat) : Int) ≤ 281474976710656 := by rw [hb]; omega
    rwa [Int.natCast_mul] at h
  have hr := run_make (P := P) w t e i z ht hi hz .i64 .i64 n n (by omega) (by omega) hb (by omega)
  simp only [Int.toNat_natCast] at hr
  rw [hr, hs, Nat.mul_one, hz1]
  congr 3
  apply Array.ext'
  apply List.ext_getElem
  · simp [madeCells]
  · intro i h1 h2
    simp [madeCells, Nat.mod_one]

theorem ret_no {p : Prop} [Decidable p] (h : ¬ p) : Ending.returned (.bool false) = .returned (.bool (decide p)) := by simp [h]
theorem ret_yes {p : Prop} [Decidable p] (h : p) : Ending.returned (.bool true) = .returned (.bool (decide p)) := by simp [h]

theorem quiet_add_same {P : Program} {f : FuncId} {args : Array Value} {w : World} {a n : Nat} {v : Value}
    (h : Calls P f args (w.drewN (a + n)) fun e w' => e = .returned v ∧ w.drewN (a + n) = w') :
    Calls P f args (w.drewN (a + n)) fun e w'' => e = .returned v ∧ ∃ m, w'' = w.drewN (a + m) :=
  h.mono fun _ _ ⟨he, hm⟩ => ⟨he, n, hm.symm⟩
theorem quiet_same {P : Program} {f : FuncId} {args : Array Value} {w : World} {n : Nat} {v : Value}
    (h : Calls P f args (w.drewN n) fun e w' => e = .returned v ∧ w.drewN n = w') :
    Calls P f args (w.drewN n) fun e w'' => e = .returned v ∧ ∃ m, w'' = w.drewN m :=
  h.mono fun _ _ ⟨he, hm⟩ => ⟨he, n, hm.symm⟩

/-! ### at an operation that the walk can't run by itself -/
theorem upon_run {P : Program} {o : Oper} {a : Act} {K : Act → World → Prop} {Q : Exit → Act → World → Prop} {α : Type} {s : Sem α} {W W' : World} {v : α} {f : α → World → Result Next}
    (h : s.run P W = .ok v W') (k : o.upon P a K Q (f v W')) : o.upon P a K Q ((s.run P W).andThen f) := by rw [h]; exact k

/-! ### copy -/
theorem copy_blk {P : Program} {W : World} {dT sT ty elem t : TypeId} {g off dLen dCap sLen sCap lo hi : Nat} {A : Option Addr} {cur cs : List Value}
    (hb : Blk W g t cur) (hu : P.underlying dT = some (.slice elem)) (hs : (P.info? elem).map (·.size) = some 1) (hn : cs.length = min sLen dLen) (hr : Rd W lo hi A cs)
    (hfit : off + cs.length ≤ cur.length) (h1 : ∀ v ∈ cs, v.oneCell' = true) :
    ∃ w', (Builtin.copy_ #[dT, sT] ty #[.slice (some ⟨g, off, none⟩) dLen dCap, .slice A sLen sCap]).run P W = .ok (goInt cs.length) w' ∧ Blk w' g t (splice cur off cs) ∧ Below g W w' := by
  by_cases h0 : cs = []
  · subst h0
    refine ⟨W, run_copy_none (P := P) W dT sT ty elem _ _ _ _ _ _ hu hs (by simpa using hn.symm), ?_, Below.refl _ _⟩
    simpa [splice] using hb
  · obtain ⟨ad, rfl, _, _, hc⟩ := hr h0
    refine ⟨_, run_copy_row (P := P) W dT sT ty elem g off dLen dCap ad sLen sCap cur.toArray t cs hu hs hb hn hc (by simpa using hfit) h1, ?_, ?_⟩
    · have := setRow_heap W g cur.toArray (cur.take off ++ cs ++ cur.drop (off + cs.length)).toArray t _ hb
      simpa [Blk, splice, List.append_assoc] using this
    · exact below_setRow (Below.refl _ _) (Nat.le_refl _) _

/-! ### a row that the call owns: nil, or at the head of a block of its own; what stands behind it in that block is of the kind T -/
def Own (w : World) (lo : Nat) (e : TypeId) (size : Nat) (T : Value → Prop) (v : Value) (xs : List Value) : Prop :=
  (v = .slice none 0 0 ∧ xs = []) ∨ ∃ g n cap sp, v = .slice (some ⟨g, 0, none⟩) n cap ∧ lo ≤ g ∧ Blk w g e (xs ++ sp) ∧ xs.length = n * size ∧ xs.length + sp.length = cap * size ∧ n ≤ cap ∧ cap ≤ maxLen ∧ ∀ u ∈ sp, T u

section
variable {w w' : World} {lo lo' : Nat} {e : TypeId} {size : Nat} {T : Value → Prop} {v : Value} {xs : List Value}
theorem Own.nil (w : World) (lo : Nat) (e : TypeId) (size : Nat) (T : Value → Prop) : Own w lo e size T (.slice none 0 0) [] := .inl ⟨rfl, rfl⟩
theorem Own.keep (h : Own w lo e size T v xs) (hk : ∀ g, v.ownBlock = some g → w'.heap[g]? = w.heap[g]?) : Own w' lo e size T v xs := by
  rcases h with h | ⟨g, n, cap, sp, rfl, h1, h2, h3⟩
  · exact .inl h
  · exact .inr ⟨g, n, cap, sp, rfl, h1, (hk g rfl).trans h2, h3⟩
theorem Own.lt (h : Own w lo e size T v xs) : ∀ g, v.ownBlock = some g → lo ≤ g ∧ g < w.heap.size := by
  intro g hg
  rcases h with ⟨rfl, _⟩ | ⟨g', n, cap, sp, rfl, h1, h2, h3⟩
  · cases hg
  · cases hg; exact ⟨h1, h2.lt⟩
theorem Own.below {B : Nat} (h : Own w lo e size T v xs) (hb : Below B w w') (hB : ∀ g, v.ownBlock = some g → g < B) : Own w' lo e size T v xs := h.keep fun g hg => hb.block g (hB g hg)
theorem Own.ext (h : Own w lo e size T v xs) (hb : Ext w w') : Own w' lo e size T v xs := h.below hb fun g hg => (h.lt g hg).2
theorem Own.drewN (h : Own w lo e size T v xs) (n : Nat) : Own (w.drewN n) lo e size T v xs := h
theorem Own.drew (h : Own w lo e size T v xs) : Own w.drew lo e size T v xs := h
theorem Own.alloc (h : Own w lo e size T v xs) (o : Obj) : Own (w.alloc o) lo e size T v xs := h.ext ((Ext.refl w).alloc o)
theorem Own.set_ (h : Own w lo e size T v xs) {p : Addr} (hp : v.ownBlock ≠ some p.block) (u : Value) : Own (w.setCell p u) lo e size T v xs := h.keep fun g hg => Below.heap_setCell w p u g (by rintro rfl; exact hp hg)
theorem Own.less (h : Own w lo e size T v xs) (hl : lo' ≤ lo) : Own w lo' e size T v xs := by
  rcases h with h | ⟨g, n, cap, sp, rfl, h1, h3⟩
  · exact .inl h
  · exact .inr ⟨g, n, cap, sp, rfl, Nat.le_trans hl h1, h3⟩
theorem Own.form (h : Own w lo e size T v xs) : ∃ A n c, v = .slice A n c ∧ xs.length = n * size ∧ n ≤ c ∧ c ≤ maxLen ∧ Rd w lo w.heap.size A xs := by
  rcases h with ⟨rfl, rfl⟩ | ⟨g, n, cap, sp, rfl, h1, h2, h3, h4, h5, h6, h7⟩
  · exact ⟨none, 0, 0, rfl, by simp, Nat.le_refl _, Nat.zero_le _, Rd.nil⟩
  · refine ⟨_, _, _, rfl, h3, h5, h6, fun _ => ⟨_, rfl, h1, h2.lt, fun j u hu => ?_⟩⟩
    rw [addr_add]
    refine h2.cell_of ?_
    rw [List.getElem?_append_left (List.getElem?_eq_some_iff.1 hu).1]; exact hu
theorem Own.rd1 {A : Option Addr} {n c : Nat} (h : Own w lo e 1 T (.slice A n c) xs) : xs.length = n ∧ n ≤ c ∧ Rd w lo w.heap.size A xs := by
  obtain ⟨A', n', c', hv, h1, h2, _, h3⟩ := h.form
  cases hv
  exact ⟨by omega, h2, h3⟩
theorem Own.fresh (w : World) (e : TypeId) (cs : List Value) (hl : cs.length ≤ maxLen) (T : Value → Prop) : Own (w.alloc (.cells cs.toArray e)) w.heap.size e 1 T (.slice (some ⟨w.heap.size, 0, none⟩) cs.length cs.length) cs := by
  refine .inr ⟨_, _, _, [], rfl, Nat.le_refl _, ?_, by omega, by simp, Nat.le_refl _, hl, by simp⟩
  have := Blk.new w e cs.toArray
  simpa using this
theorem ownsRow_of_own (h : Own w lo e size T v xs) : ∃ n, xs.length = n * size ∧ w.ownsRow lo e size v n xs := by
  rcases h with ⟨rfl, rfl⟩ | ⟨g, n, cap, sp, rfl, h1, h2, h3, h4, h5, h6, h7⟩
  · exact ⟨0, by simp, by simp, .inl ⟨rfl, rfl⟩⟩
  · refine ⟨n, h3, h3, .inr ⟨g, cap, _, rfl, h1, h2, h5, h6, by simpa using h4, ?_⟩⟩
    rw [← h3]; simp
end

theorem grown_below {w w' : World} {row : Option Nat} {B : Nat} (h : w.grownBy w' row) (hB : B ≤ w.heap.size) (hr : ∀ k, row = some k → B ≤ k) : Below B w w' := Below.grown (Below.refl _ _) h hB hr

theorem zeroCells_rep (z : Value) (n : Nat) : (Builtin.zeroCells #[z] n).toList = List.replicate n z := by
  apply List.ext_getElem
  · simp [Builtin.zeroCells]
  · intro i h1 h2
    simp [Builtin.zeroCells, Nat.mod_one]

/-- append onto an owned row of one-cell elements: nil, empty or not; what is appended is read anywhere -/
theorem append_own {P : Program} {W : World} {lo l h m c : Nat} {t ty e : TypeId} {z : Value} {bytes : Nat} {T : Value → Prop} {v : Value} {xs news : List Value} {A : Option Addr}
    (hown : Own W lo e 1 T v xs) (ht : P.underlying t = some (.slice e)) (hinfo : (P.info? e).map (fun i => (i.zero, i.size, i.bytes)) = some (some z, 1, bytes)) (hz : z.cells = #[z]) (hT : T z)
    (hr : Rd W l h A news) (hl : news.length = m) (h1 : ∀ u ∈ news, u.oneCell' = true) (hbytes : (xs.length + m) * bytes ≤ 140737488355328) (hmax : xs.length + m ≤ maxLen) (hlo : lo ≤ W.heap.size) :
    ∃ v' w', (Builtin.append_ #[t, t] ty #[v, .slice A m c]).run P W = .ok v' w' ∧ Own w' lo e 1 T v' (xs ++ news) ∧ W.grownBy w' v.ownBlock ∧ (v'.ownBlock = v.ownBlock ∨ v'.ownBlock = some W.heap.size) ∧ (news = [] → v' = v) := by
  obtain ⟨i, hi, hz0, hs, hb⟩ := info_parts hinfo
  subst hb
  by_cases hne : news = []
  · subst hne
    have hm : m = 0 := by simpa using hl.symm
    subst hm
    refine ⟨v, W, ?_, by simpa using hown, ⟨rfl, rfl, rfl, Nat.le_refl _, fun _ _ _ => rfl⟩, .inl rfl, fun _ => rfl⟩
    have hld : ∀ x : Addr, (loadCells x 0).run P W = .ok #[] W := fun x => by simpa using run_loadCells_list (P := P) W x [] (by simp)
    rcases hown with ⟨rfl, _⟩ | ⟨g, n, cap, sp, rfl, h1', h2, h3, h4, h5, h6, h7⟩
    · cases A <;> simp [Builtin.append_, run_underlying ht, sizeOf, typeInfo, hi, Builtin.lenOf, Builtin.firstCells, hld]
    · cases A <;> simp [Builtin.append_, run_underlying ht, sizeOf, typeInfo, hi, Builtin.lenOf, Builtin.firstCells, hld, h5, storeCells]
  · obtain ⟨ad, rfl, _, _, hc⟩ := hr hne
    have hm0 : 0 < m := by
      rw [← hl]; exact List.length_pos_iff.2 hne
    rcases hown with ⟨rfl, rfl⟩ | ⟨g, n, cap, sp, rfl, h1', h2, h3, h4, h5, h6, h7⟩
    · have hr := run_append_nil (P := P) W t ty e i z ht hi hz0 ad m c news (by rw [hs]; omega) hc hm0 (by simp only [maxLen] at hmax; simp at hmax; omega) (by simp at hbytes; omega)
      have hge := grownCap_ge W m 0 e
      have hle := grownCap_le_maxLen W m 0 e (by simpa using hmax)
      refine ⟨_, _, hr, .inr ⟨W.heap.size, m, _, List.replicate (grownCap W m 0 e - m) z, rfl, hlo, ?_, by simp [hl], ?_, hge, hle, ?_⟩, ⟨rfl, rfl, rfl, by simp, fun k hk _ => Below.heap_alloc W.drew _ k hk⟩, .inr rfl, fun h => absurd h hne⟩
      · have hb := Blk.new W.drew e (news.toArray ++ Builtin.zeroCells z.cells (grownCap W m 0 e - m))
        rw [hz] at hb ⊢
        simpa [zeroCells_rep] using hb
      · simp [hl]; omega
      · intro u hu; rw [(List.mem_replicate.1 hu).2]; exact hT
    · by_cases hroom : n + m ≤ cap
      · have hfit : n * i.size + news.length ≤ (xs ++ sp).toArray.size := by simp [hs]; omega
        have hr := run_append_room (P := P) W t ty e i ht hi g n cap (xs ++ sp).toArray h2 ad m c news (by rw [hs]; omega) hc h1 hroom hfit
        refine ⟨_, _, hr, .inr ⟨g, n + m, cap, sp.drop m, rfl, h1', ?_, by simp; omega, by simp; omega, hroom, h6, fun u hu => h7 u (List.mem_of_mem_drop hu)⟩, ⟨rfl, rfl, rfl, by simp, fun k _ hk => setRow_other W g k _ (fun e => hk (by simp [Value.ownBlock, e]))⟩, .inl rfl, fun h => absurd h hne⟩
        have hb := setRow_heap W g (xs ++ sp).toArray (((xs ++ sp).toArray.toList.take (n * i.size)) ++ news ++ ((xs ++ sp).toArray.toList.drop (n * i.size + news.length))).toArray e _ h2
        have e1 : n * i.size = xs.length := by rw [hs]; omega
        rw [e1] at hb ⊢
        have e2 : (xs ++ sp).drop (xs.length + news.length) = sp.drop m := by rw [List.drop_append, hl]; simp
        simpa [Blk, List.append_assoc, e2, hl] using hb
      · have holds : ∀ j u, xs[j]? = some u → W.cell? ((⟨g, 0, none⟩ : Addr).add j) = some u := fun j u hu => by
          rw [addr_add]
          exact h2.cell_of (by rw [List.getElem?_append_left (List.getElem?_eq_some_iff.1 hu).1]; exact hu)
        have hxn : xs.length = n := by omega
        rw [hxn] at hbytes hmax
        have hr := run_append_grow (P := P) W t ty e i z ht hi hz0 ⟨g, 0, none⟩ n cap xs (by rw [hs]; omega) holds ad m c news (by rw [hs]; omega) hc (by omega) (by simp only [maxLen] at hmax; omega) (growslice_fits (by omega) hbytes)
        have hge := grownCap_ge W (n + m) cap e
        have hle := grownCap_le_maxLen W (n + m) cap e hmax
        refine ⟨_, _, hr, .inr ⟨W.heap.size, n + m, _, List.replicate (grownCap W (n + m) cap e - (n + m)) z, rfl, hlo, ?_, by simp; omega, ?_, hge, hle, ?_⟩, ⟨rfl, rfl, rfl, by simp, fun k hk _ => Below.heap_alloc W.drew _ k hk⟩, .inr rfl, fun h => absurd h hne⟩
        · have hb := Blk.new W.drew e (xs.toArray ++ news.toArray ++ Builtin.zeroCells z.cells (grownCap W (n + m) cap e - (n + m)))
          rw [hz] at hb ⊢
          simpa [zeroCells_rep] using hb
        · simp; omega
        · intro u hu; rw [(List.mem_replicate.1 hu).2]; exact hT

/-! ### a whole struct or array, read out of a block that is known whole, or stored into one -/
def aggB (d : TypeDesc) : Bool := match d with | .struct _ | .array _ _ => true | _ => false
/-- it asks at which operation the walk stands, and does nothing: 'with_reducible refine gate (..) rfl ?_' fails at once at another one -/
theorem gate {P : Program} {ops : Array Oper} {rest : List Oper} {o : Oper} {a : Act} {Q : Exit → Act → World → Prop} {W : World} (op : Op) (_ho : o.op = op) (h : wpList P ops Q (o :: rest) a W) : wpList P ops Q (o :: rest) a W := h
theorem run_loadVar_blk {P : Program} {w : World} {g : Nat} {t ty : TypeId} {cs : List Value} {d : TypeDesc} (hb : Blk w g t cs) (hu : P.underlying ty = some d) (hd : aggB d = true) (hi : (P.info? ty).map (·.size) = some cs.length) :
    (loadVar ty ⟨g, 0, none⟩).run P w = .ok (.agg cs.toArray) w :=
  run_loadVar_row (P := P) w g t ty cs.toArray (0, 0) d hb hu (by cases d <;> simp_all [aggB]) (by simpa using hi)
theorem run_loadAt_blk {P : Program} {w : World} {g : Nat} {t ty : TypeId} {cs : List Value} {d : TypeDesc} (hb : Blk w g t cs) (hu : P.underlying ty = some d) (hd : aggB d = true) (hi : (P.info? ty).map (·.size) = some cs.length) :
    (Instr.loadAt ty (.pointer (some ⟨g, 0, none⟩))).run P w = .ok (.agg cs.toArray) w := by
  simp only [Instr.loadAt, Instr.sureAddr, Sem.run_bind, Sem.run_pure, Result.andThen_ok, run_loadVar_blk hb hu hd hi]
theorem wpList_load_blk {P : Program} {ops : Array Oper} {rest : List Oper} {o : Oper} {a : Act} {w : World} {Q : Exit → Act → World → Prop} (hgd : o.guard = none) (ty : TypeId) (x : Operand) (ho : o.op = .load ty x)
    (g : Nat) (hx : a.eval x = .pointer (some ⟨g, 0, none⟩)) {t : TypeId} {cs : List Value} {d : TypeDesc} (hb : Blk w g t cs)
    (hu : P.underlying ty = some d) (hd : aggB d = true) (hi : (P.info? ty).map (·.size) = some cs.length)
    (h : wpList P ops Q rest (a.put o.dst (.agg cs.toArray)) w) : wpList P ops Q (o :: rest) a w :=
  wpList_plain hgd fun _ hK => wp_load_row ty x ho g hx t cs.toArray (0, 0) d hb hu (by cases d <;> simp_all [aggB]) (by simpa using hi) (hK _ _ h)
theorem run_storeVar_blk {P : Program} {w : World} {g : Nat} {t ty : TypeId} {cs cur : List Value} (hb : Blk w g t cur) (hi : (P.info? ty).map (·.size) = some cs.length) (hl : cur.length = cs.length) (h1 : ∀ v ∈ cs, v.oneCell' = true) :
    (storeVar ty ⟨g, 0, none⟩ (.agg cs.toArray)).run P w = .ok () (w.setRow g cs.toArray) := by
  have hst := run_storeCells_at P g 0 t cs 0 cur.toArray w hb (by simp; omega) h1
  cases hq : P.info? ty with
  | none => simp [hq] at hi
  | some i =>
    have hs : i.size = cs.length := by simpa [hq] using hi
    simp [storeVar, sizeOf, typeInfo, hq, hs, Value.cells]
    rw [hst]
    congr 2
    simp [List.drop_eq_nil_of_le, hl]
theorem run_storeAt_blk {P : Program} {w : World} {g : Nat} {t ty : TypeId} {cs cur : List Value} (hb : Blk w g t cur) (hi : (P.info? ty).map (·.size) = some cs.length) (hl : cur.length = cs.length) (h1 : ∀ v ∈ cs, v.oneCell' = true) :
    (Instr.storeAt ty (.pointer (some ⟨g, 0, none⟩)) (.agg cs.toArray)).run P w = .ok () (w.setRow g cs.toArray) := by
  simp only [Instr.storeAt, Instr.sureAddr, Sem.run_bind, Sem.run_pure, Result.andThen_ok, run_storeVar_blk hb hi hl h1]
theorem blk_setRow {w : World} {g : Nat} {t : TypeId} {cs cur : List Value} (hb : Blk w g t cur) : Blk (w.setRow g cs.toArray) g t cs := setRow_heap w g cur.toArray cs.toArray t _ hb
theorem wpList_store_blk {P : Program} {ops : Array Oper} {rest : List Oper} {o : Oper} {a : Act} {w : World} {Q : Exit → Act → World → Prop} (hgd : o.guard = none) (ty : TypeId) (x y : Operand) (ho : o.op = .store ty x y) (hdst : o.dst = none)
    (g : Nat) (hx : a.eval x = .pointer (some ⟨g, 0, none⟩)) {t : TypeId} {cs cur : List Value} (hy : a.eval y = .agg cs.toArray) (hb : Blk w g t cur)
    (hi : (P.info? ty).map (·.size) = some cs.length) (hl : cur.length = cs.length) (h1 : ∀ v ∈ cs, v.oneCell' = true)
    (h : ∀ w', Blk w' g t cs → Below g w w' → wpList P ops Q rest a w') : wpList P ops Q (o :: rest) a w := by
  refine wpList_plain hgd fun K hK => ?_
  have hrun := run_storeAt_blk (P := P) (ty := ty) hb hi hl h1
  unfold Oper.wp execOp
  simp only [ho, hx, hy, Sem.run_bind, hrun, Result.andThen_ok, Sem.run_pure]
  have e : a.put o.dst undef = a := by rw [hdst]; rfl
  show K (a.put o.dst undef) _
  rw [e]
  exact hK _ _ (h _ (blk_setRow hb) (below_setRow (Below.refl _ _) (Nat.le_refl _) _))
theorem results_cell_blk {P : Program} {fn : Func} {p : Tmp} {ty : TypeId} {w : World} {g : Nat} {t : TypeId} {cs : List Value} {d : TypeDesc} {tmps : Array Value} (h : fn.results = #[.cell p ty]) (hp : tmps.getD p undef = .pointer (some ⟨g, 0, none⟩)) (hb : Blk w g t cs)
    (hu : P.underlying ty = some d) (hd : aggB d = true) (hi : (P.info? ty).map (·.size) = some cs.length) : (results fn tmps).run P w = .ok (.agg cs.toArray) w :=
  results_cell_row h tmps w g t cs.toArray (0, 0) d hp hb hu (by cases d <;> simp_all [aggB]) (by simpa using hi)

end Go.Proofs.Ytjhpdcfhdpnloaa
