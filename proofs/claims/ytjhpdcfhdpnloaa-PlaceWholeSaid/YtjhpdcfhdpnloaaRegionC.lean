/- A region that draws its order and in which several operations turn old blocks, walked once in the order of the text. No conditions on the program. -/
import Derived.Test.YtjhpdcfhdpnloaaRegionS
import Derived.Test.YtjhpdcfhdpnloaaLaws
namespace Go.Proofs.Ytjhpdcfhdpnloaa
open Go.RowKit

/-- what is known of an acting operation: 'q' of its value; 'p' of its value and the world from then on -/
structure StC where
  q : Value → Prop
  p : Value → World → Prop
  ex : ∃ v, q v
/-- what a region's walk is told: 'B' of every world; 'G st' of the worlds until operation st has been done; 'acts' -/
structure PlanC where
  B : World → Prop
  G : List (Nat × (World → Prop))
  acts : List (Nat × StC)
def PlanC.find (X : PlanC) (i : Nat) : Option StC := (X.acts.find? fun p => p.1 == i).map (·.2)
def PlanC.phi (X : PlanC) (i : Nat) (v : Value) (w : World) : Prop := match X.find i with
  | some A => A.p v w
  | none => True
def PlanC.q (X : PlanC) (i : Nat) (v : Value) : Prop := match X.find i with
  | some A => A.q v
  | none => True
def PlanC.ac (X : PlanC) (i : Nat) : Bool := (X.find i).isSome
def PlanC.gam (X : PlanC) (n : Nat) (L : Nat → Prop) (w : World) : Prop := X.B w ∧ ∀ p ∈ X.G, ¬ (p.1 < n ∧ L p.1) → p.2 w
def wpC (P : Program) (ops : Array Oper) (Q : Exit → Act → World → Prop) (X : PlanC) : Nat → List Oper → Act → List (Nat × (World → Prop)) → Prop := wpX P ops Q (X.gam ops.size) X.q X.phi X.ac

section
variable {P : Program} {ops : Array Oper} {Q : Exit → Act → World → Prop} {X : PlanC} {i : Nat} {o : Oper} {rest : List Oper} {a : Act} {fs : List (Nat × (World → Prop))}
theorem wpC_nil (h : ∀ w', X.B w' → (∀ p ∈ fs, p.2 w') → Q .normal a w') : wpC P ops Q X i [] a fs := fun _ w' _ hw hf => h w' hw.1 hf
theorem wpC_skip (hw : Region.wanted o (yielded ops a.tmps) = false) (h : wpC P ops Q X (i + 1) rest (a.put o.dst undef) fs) : wpC P ops Q X i (o :: rest) a fs := by
  unfold wpC wpX
  rw [if_neg (by simp [hw])]; exact h
/-- an operation that asks nothing of the world -/
theorem wpC_det (hw : Region.wanted o (yielded ops a.tmps) = true) (hac : X.ac i = false) (hd : detOp o.op = true)
    (h : ∀ K : Act → Prop, (∀ a, wpC P ops Q X (i + 1) rest a fs → K a) → o.quiet P a (fun _ => True) K) : wpC P ops Q X i (o :: rest) a fs := by
  unfold wpC wpX
  rw [if_pos hw, if_neg (by simp [hac])]
  obtain ⟨v, h1, h2⟩ := h _ (fun _ h => h)
  refine ⟨v, fun W _ => ?_, h2⟩
  have y := YieldX.of_quietAt hd (h1 W trivial)
  unfold Oper.quietAt
  rcases y with y | ⟨y, rfl⟩ <;> rw [y] <;> exact ⟨rfl, rfl⟩
/-- an operation that reads: what holds until an operation behind it is done, holds here -/
theorem wpC_at (hw : Region.wanted o (yielded ops a.tmps) = true) (hac : X.ac i = false) (v : Value) (hst : ∀ p ∈ X.G, p.1 < ops.size)
    (h1 : ∀ w', X.B w' → (∀ p ∈ X.G, ancB ops p.1 i = true → p.2 w') → (∀ p ∈ fs, ancB ops i p.1 = true → p.2 w') → (execOp a.eval o).run P w' = .ok (.value v) w') (h2 : wpC P ops Q X (i + 1) rest (a.put o.dst v) fs) : wpC P ops Q X i (o :: rest) a fs := by
  unfold wpC wpX
  rw [if_pos hw, if_neg (by simp [hac])]
  refine ⟨v, fun W ⟨⟨L, hr, hW⟩, hf⟩ => ?_, h2⟩
  unfold Oper.quietAt
  rw [h1 W hW.1 (fun p hp hb => hW.2 p hp (fun hn => hr.2.2 p.1 (hst p hp) hb hn.2)) hf]
  exact ⟨rfl, rfl⟩
/-- an operation that acts -/
theorem wpC_act (hw : Region.wanted o (yielded ops a.tmps) = true) (A : StC) (hA : X.find i = some A) (hi : i < ops.size) (hst : ∀ p ∈ X.G, p.1 < ops.size)
    (h1 : ∀ w', X.B w' → (∀ p ∈ X.G, p.1 = i ∨ ancB ops p.1 i = true → p.2 w') → (∀ p ∈ fs, ancB ops i p.1 = true → p.2 w') → Oper.acts P o a w' (fun v w'' => X.B w'' ∧ (∀ p ∈ X.G, p.1 ≠ i → ancB ops i p.1 = false → p.2 w' → p.2 w'') ∧ (A.q v ∧ A.p v w'') ∧
      ∀ j u, j ≠ i → ancB ops j i = false → X.phi j u w' → X.phi j u w''))
    (h2 : ∀ v, A.q v → wpC P ops Q X (i + 1) rest (a.put o.dst v) (fs ++ [(i, A.p v)])) : wpC P ops Q X i (o :: rest) a fs := by
  unfold wpC wpX
  have hac : X.ac i = true := by simp [PlanC.ac, hA]
  have hφ : ∀ v, X.phi i v = A.p v := fun v => by funext W; simp [PlanC.phi, hA]
  have hq : ∀ v, X.q i v = A.q v := fun v => by simp [PlanC.q, hA]
  rw [if_pos hw, if_pos hac]
  refine ⟨fun L W hr hW hf => ?_, by obtain ⟨v, hv⟩ := A.ex; exact ⟨v, by rw [hq]; exact hv⟩, fun v hv => by rw [hφ]; exact h2 v (by rw [hq] at hv; exact hv)⟩
  have := h1 W hW.1 (fun p hp hb => hW.2 p hp (fun hn => by
    rcases hb with e | hb
    · rw [e] at hn; exact hr.2.1 hn.2
    · exact hr.2.2 p.1 (hst p hp) hb hn.2)) hf
  unfold Oper.acts at *
  generalize (execOp a.eval o).run P W = r at *
  have conv : ∀ v w'', (X.B w'' ∧ (∀ p ∈ X.G, p.1 ≠ i → ancB ops i p.1 = false → p.2 W → p.2 w'') ∧ (A.q v ∧ A.p v w'') ∧ ∀ j u, j ≠ i → ancB ops j i = false → X.phi j u W → X.phi j u w'') →
      X.gam ops.size (fun k => L k ∨ k = i) w'' ∧ (X.q i v ∧ X.phi i v w'') ∧ ∀ j u, j ≠ i → ancB ops j i = false → X.phi j u W → X.phi j u w'' := fun v w'' h =>
    ⟨⟨h.1, fun p hp hn => h.2.1 p hp (fun e => hn ⟨hst p hp, .inr e⟩) (by
      cases hh : ancB ops i p.1 with
      | false => rfl
      | true => exact absurd ⟨hst p hp, .inl (hr.1 p.1 (hst p hp) hh)⟩ hn) (hW.2 p hp fun hl => hn ⟨hl.1, .inl hl.2⟩)⟩, ⟨by rw [hq]; exact h.2.2.1.1, by rw [hφ]; exact h.2.2.1.2⟩, h.2.2.2⟩
  cases r with
  | ok n w' =>
    cases n <;> simp only [Oper.actsUpon] at this ⊢
    case value u => exact conv _ _ this
    case skip => exact conv _ _ this
    case enter f args => exact this.mono fun e w'' ⟨v, he, hr⟩ => ⟨v, he, conv _ _ hr⟩
  | halt x w' => simp only [Oper.actsUpon] at this
end
/-- **A region that draws its order, walked once; several operations may turn old blocks.** -/
theorem wp_region_C {P : Program} {Q : Exit → Act → World → Prop} {id : Nat} {l : List Oper} {a : Act} {w : World} (X : PlanC) (hm : P.follows .mixedOrders = true) (hF : regionX l.toArray X.ac = true)
    (hB : X.B w.drew) (hG : ∀ p ∈ X.G, p.2 w.drew) (h : wpC P l.toArray Q X 0 l a []) : (Code.region id l.toArray true).wp P Q a w :=
  wp_region_X (X.gam l.toArray.size) X.q X.phi X.ac hm hF (fun _ _ _ hL hw => ⟨hw.1, fun p hp hn => hw.2 p hp fun hl => hn ⟨hl.1, hL p.1 hl.1 hl.2⟩⟩) (fun _ => ⟨hB, fun p hp _ => hG p hp⟩) h

theorem PlanC.phi_keep {X : PlanC} {x y : World} {i : Nat} {ops : Array Oper} (h : ∀ p ∈ X.acts, p.1 ≠ i → ancB ops p.1 i = false → ∀ u, p.2.p u x → p.2.p u y) : ∀ j u, j ≠ i → ancB ops j i = false → X.phi j u x → X.phi j u y := by
  intro j u hj ha hp
  unfold PlanC.phi PlanC.find at *
  cases hf : X.acts.find? (fun p => p.1 == j) with
  | none => simp
  | some q =>
    have hm := List.mem_of_find?_eq_some hf
    have he := List.find?_some hf
    have he' : q.1 = j := by simpa using he
    rw [hf] at hp
    simp only [Option.map_some] at hp ⊢
    exact h q hm (by rw [he']; exact hj) (by rw [he']; exact ha) u hp
theorem no_anc {C : Prop} {b : Bool} (h : b = false) (k : b = true) : C := by cases h.symm.trans k

/-! ### worlds in which some old blocks may turn -/
structure Chg (S : Nat → Prop) (w w' : World) : Prop where
  os : w'.os = w.os
  tape : w'.tape = w.tape
  output : w'.output = w.output
  size : w.heap.size ≤ w'.heap.size
  block : ∀ k, k < w.heap.size → ¬ S k → w'.heap[k]? = w.heap[k]?
section
variable {S : Nat → Prop} {w w' w'' : World}
theorem Chg.refl (S : Nat → Prop) (w : World) : Chg S w w := ⟨rfl, rfl, rfl, Nat.le_refl _, fun _ _ _ => rfl⟩
theorem Chg.trans (h : Chg S w w') (k : Chg S w' w'') : Chg S w w'' := ⟨k.os.trans h.os, k.tape.trans h.tape, k.output.trans h.output, Nat.le_trans h.size k.size, fun b hb hs => (k.block b (Nat.lt_of_lt_of_le hb h.size) hs).trans (h.block b hb hs)⟩
theorem Chg.mono {S' : Nat → Prop} (h : Chg S w w') (hs : ∀ k, k < w.heap.size → S k → S' k) : Chg S' w w' := ⟨h.os, h.tape, h.output, h.size, fun b hb hn => h.block b hb fun hS => hn (hs b hb hS)⟩
theorem Chg.of_ext (h : Ext w w') : Chg S w w' := ⟨h.os, h.tape, h.output, h.size, fun b hb _ => h.block b hb⟩
theorem Chg.of_grown {row : Option Nat} (h : w.grownBy w' row) (hs : ∀ b, row = some b → S b) : Chg S w w' := ⟨h.os, h.tape, h.output, h.size, fun b hb hn => h.block b hb fun e => hn (hs b e.symm)⟩
theorem Chg.ext (h : Chg S w w') (hs : ∀ k, k < w.heap.size → ¬ S k) : Ext w w' := ⟨h.os, h.tape, h.output, h.size, fun b hb => h.block b hb (hs b hb)⟩
theorem Chg.drew : Chg S w w.drew := Chg.of_ext ((Ext.refl w).drew)
theorem Chg.set_ {p : Addr} (hp : S p.block ∨ w.heap.size ≤ p.block) (u : Value) : Chg S w (w.setCell p u) := ⟨rfl, rfl, rfl, by simp, fun b hb hn => Below.heap_setCell _ _ _ _ (fun e => by
  subst e
  rcases hp with h | h
  · exact hn h
  · omega)⟩
theorem Blk.chg {g : Nat} {t : TypeId} {cs : List Value} (h : Blk w g t cs) (hc : Chg S w w') (hs : ¬ S g) : Blk w' g t cs := (hc.block g h.lt hs).trans h
theorem Rd.chg {lo hi : Nat} {A : Option Addr} {xs : List Value} (h : Rd w lo hi A xs) (hc : Chg S w w') (hs : ∀ k, lo ≤ k → k < hi → ¬ S k) : Rd w' lo hi A xs := by
  have h' := h.size_
  refine Rd.mono (h'.keep fun p hl hp => World.cell?_of_block (hc.block p.block (by omega) (hs _ hl (by omega)))) (Nat.le_refl _) (Nat.min_le_left _ _)
theorem Own.chg {lo : Nat} {e : TypeId} {size : Nat} {T : Value → Prop} {v : Value} {xs : List Value} (h : Own w lo e size T v xs) (hc : Chg S w w') (hs : ∀ g, v.ownBlock = some g → ¬ S g) : Own w' lo e size T v xs :=
  h.keep fun g hg => hc.block g (h.lt g hg).2 (hs g hg)
theorem Chg.cell {p : Addr} {v : Value} (hc : Chg S w w') (h : w.cell? p = some v) (hs : ¬ S p.block) : w'.cell? p = some v :=
  (World.cell?_of_block (hc.block p.block (World.block_lt_of_cell? _ _ h) hs)).trans h
end

/-! ### what single operations come to -/
theorem acts_mono {P : Program} {o : Oper} {a : Act} {w : World} {R R' : Value → World → Prop} (h : Oper.acts P o a w R') (hR : ∀ v y, R' v y → R v y) : Oper.acts P o a w R := by
  unfold Oper.acts at *
  generalize (execOp a.eval o).run P w = r at *
  cases r with
  | ok n w' =>
    cases n <;> simp only [Oper.actsUpon] at h ⊢
    case value u => exact hR _ _ h
    case skip => exact hR _ _ h
    case enter f args => exact h.mono fun e w'' ⟨v, he, hr⟩ => ⟨v, he, hR _ _ hr⟩
  | halt x w' => simp only [Oper.actsUpon] at h
theorem exec_load1 {P : Program} {ρ : Operand → Value} {o : Oper} {ty : TypeId} {x : Operand} (ho : o.op = .load ty x) {w : World} {ad : Addr} (hx : ρ x = .pointer (some ad)) {d : TypeDesc}
    (hu : P.underlying ty = some d) (hd : aggB d = false) {v : Value} (hc : w.cell? ad = some v) : (execOp ρ o).run P w = .ok (.value v) w := by
  have hl : (load ad).run P w = .ok v w := by
    rw [run_load, hc]
  unfold execOp
  cases d <;> simp_all [aggB, Instr.loadAt, Instr.sureAddr, loadVar, isAgg, run_underlying hu]
theorem Ext.cell_of {w w' : World} (h : Ext w w') {p : Addr} {v : Value} (hc : w.cell? p = some v) : w'.cell? p = some v := (h.cell (p := p) (World.block_lt_of_cell? _ _ hc)).trans hc
theorem acts_append {P : Program} {o : Oper} {a : Act} {W : World} {R : Value → World → Prop} (s x : Operand) (t : TypeId) (ho : o.op = appendOp s x t)
    {lo l h m c : Nat} {e : TypeId} {z : Value} {bytes : Nat} {T : Value → Prop} {v : Value} {xs news : List Value} {A : Option Addr} (hs : a.eval s = v) (hx : a.eval x = .slice A m c)
    (hown : Own W lo e 1 T v xs) (ht : P.underlying t = some (.slice e)) (hinfo : (P.info? e).map (fun i => (i.zero, i.size, i.bytes)) = some (some z, 1, bytes)) (hz : z.cells = #[z]) (hT : T z)
    (hr : Rd W l h A news) (hl : news.length = m) (h1 : ∀ u ∈ news, u.oneCell' = true) (hbytes : (xs.length + m) * bytes ≤ 140737488355328) (hmax : xs.length + m ≤ maxLen) (hlo : lo ≤ W.heap.size)
    (k : ∀ v' w', Own w' lo e 1 T v' (xs ++ news) → W.grownBy w' v.ownBlock → (v'.ownBlock = v.ownBlock ∨ v'.ownBlock = some W.heap.size) → R v' w') : Oper.acts P o a W R := by
  obtain ⟨v', w', hrun, h2, h3, h4, _⟩ := append_own (P := P) (ty := o.type) (c := c) hown ht hinfo hz hT hr hl h1 hbytes hmax hlo
  unfold Oper.acts execOp
  simp only [ho, appendOp, resolve, invoke, builtin, Sem.run_bind, Sem.run_pure, Result.andThen_ok, List.map_toArray, List.map_cons, List.map_nil, hs, hx, hrun, Oper.actsUpon]
  exact k v' w' h2 h3 h4
theorem acts_store1 {P : Program} {o : Oper} {a : Act} {W : World} {R : Value → World → Prop} {ty : TypeId} {x y : Operand} (ho : o.op = .store ty x y) {ad : Addr} {u old : Value} (hx : a.eval x = .pointer (some ad)) (hy : a.eval y = u) (hu : u.oneCell' = true)
    (hcs : u.cells = #[u]) (hi : (P.info? ty).map (·.size) = some 1) (hc : W.cell? ad = some old) (hf : W.frozen? ad = false) (k : R undef (W.setCell ad u)) : Oper.acts P o a W R := by
  cases hq : P.info? ty with
  | none => simp [hq] at hi
  | some i =>
    have hs : i.size = 1 := by simpa [hq] using hi
    have h0 : ad.add 0 = ad := by simp [Addr.add]
    have hst : (store ad u).run P W = .ok () (W.setCell ad u) := by
      rw [run_store P W ad u .plain hu]
      simp [stored, hc, hf]
    unfold Oper.acts execOp
    simp [ho, hx, hy, Instr.storeAt, Instr.sureAddr, storeVar, sizeOf, typeInfo, hq, hs, hcs, storeCells, h0, hst, Oper.actsUpon]
    exact k

/-! ### the walk of wp_region_E, under a name that nothing unfolds (for great frames) -/
structure WE (P : Program) (ops : Array Oper) (Q : Exit → Act → World → Prop) (w : World) (Φ : Nat → Option StA) (i : Nat) (l : List Oper) (a : Act) (fs : List (Nat × (World → Prop))) : Prop where
  out : wpE P ops Q w Φ i l a fs
section
variable {P : Program} {ops : Array Oper} {Q : Exit → Act → World → Prop} {w : World} {ΦE : Nat → Option StA} {i : Nat} {o : Oper} {rest : List Oper} {a : Act} {fs : List (Nat × (World → Prop))}
theorem WE_nil (h : ∀ w', Ext w w' → (∀ p ∈ fs, p.2 w') → Q .normal a w') : WE P ops Q w ΦE i [] a fs := ⟨wpE_nil h⟩
theorem WE_skip (hw : Region.wanted o (yielded ops a.tmps) = false) (h : WE P ops Q w ΦE (i + 1) rest (a.put o.dst undef) fs) : WE P ops Q w ΦE i (o :: rest) a fs := ⟨wpE_skip hw h.out⟩
theorem WE_det (hw : Region.wanted o (yielded ops a.tmps) = true) (hac : acE ΦE i = false) (hd : detOp o.op = true)
    (h : ∀ K : Act → Prop, (∀ a, WE P ops Q w ΦE (i + 1) rest a fs → K a) → o.quiet P a (fun _ => True) K) : WE P ops Q w ΦE i (o :: rest) a fs := ⟨wpE_det hw hac hd fun K hK => h K fun a ha => hK a ha.out⟩
theorem WE_at (hw : Region.wanted o (yielded ops a.tmps) = true) (hac : acE ΦE i = false) (v : Value)
    (h1 : ∀ w', Ext w w' → (∀ p ∈ fs, ancB ops i p.1 = true → p.2 w') → (execOp a.eval o).run P w' = .ok (.value v) w') (h2 : WE P ops Q w ΦE (i + 1) rest (a.put o.dst v) fs) : WE P ops Q w ΦE i (o :: rest) a fs := ⟨wpE_at hw hac v h1 h2.out⟩
theorem WE_act (hw : Region.wanted o (yielded ops a.tmps) = true) (A : StA) (hA : ΦE i = some A)
    (h1 : ∀ w', Ext w w' → (∀ p ∈ fs, ancB ops i p.1 = true → p.2 w') → Oper.acts P o a w' (fun v w'' => Ext w' w'' ∧ A.q v ∧ A.p v w''))
    (h2 : ∀ v, A.q v → WE P ops Q w ΦE (i + 1) rest (a.put o.dst v) (fs ++ [(i, A.p v)])) : WE P ops Q w ΦE i (o :: rest) a fs := ⟨wpE_act hw A hA h1 fun v hv => (h2 v hv).out⟩
theorem wp_region_W {id : Nat} {l : List Oper} (Φ : Nat → Option StA) (hm : P.follows .mixedOrders = true) (hF : regionX l.toArray (acE Φ) = true)
    (h : WE P l.toArray Q w Φ 0 l a []) : (Code.region id l.toArray true).wp P Q a w := wp_region_E Φ hm hF h.out
end
end Go.Proofs.Ytjhpdcfhdpnloaa
