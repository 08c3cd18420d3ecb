/- A region that draws its order and in which one operation turns one old block, walked once in the order of the text. No conditions on the program. -/
import Derived.Test.YtjhpdcfhdpnloaaRegion
namespace Go.Proofs.Ytjhpdcfhdpnloaa
open Go.RowKit

/-- what a load of a whole struct or array, and a store of one, come to, as operations -/
theorem exec_load_blk {P : Program} {ρ : Operand → Value} {o : Oper} {ty : TypeId} {x : Operand} (ho : o.op = .load ty x) {w : World} {g : Nat} (hx : ρ x = .pointer (some ⟨g, 0, none⟩)) {t : TypeId} {cs : List Value} {d : TypeDesc} (hb : Blk w g t cs)
    (hu : P.underlying ty = some d) (hd : aggB d = true) (hi : (P.info? ty).map (·.size) = some cs.length) : (execOp ρ o).run P w = .ok (.value (.agg cs.toArray)) w := by
  unfold execOp
  simp only [ho, hx, Sem.run_bind, run_loadAt_blk hb hu hd hi, Result.andThen_ok, Sem.run_pure]
theorem acts_store_blk {P : Program} {o : Oper} {a : Act} {ty : TypeId} {x y : Operand} (ho : o.op = .store ty x y) {w : World} {g : Nat} (hx : a.eval x = .pointer (some ⟨g, 0, none⟩)) {t : TypeId} {cs cur : List Value} (hy : a.eval y = .agg cs.toArray) (hb : Blk w g t cur)
    (hi : (P.info? ty).map (·.size) = some cs.length) (hl : cur.length = cs.length) (h1 : ∀ v ∈ cs, v.oneCell' = true) {R : Value → World → Prop} (hR : ∀ w', Blk w' g t cs → w.grownBy w' (some g) → R undef w') : Oper.acts P o a w R := by
  have hrun := run_storeAt_blk (P := P) (ty := ty) hb hi hl h1
  unfold Oper.acts execOp
  simp only [ho, hx, hy, Sem.run_bind, hrun, Result.andThen_ok, Sem.run_pure, Oper.actsUpon]
  exact hR _ (blk_setRow hb) ⟨rfl, rfl, rfl, by simp [World.setRow], fun k _ hk => setRow_other w g k _ (fun e => hk (by rw [e]))⟩

/-! ### the same, where ONE operation, number 'st', turns one old block, and what reads that block comes ahead of it -/
def phiS {g : Nat} (st : Nat) (S : StA) (Φ : Nat → Option (StG (some g))) (i : Nat) (v : Value) (w : World) : Prop := if i = st then S.p v w else phiG Φ i v w
def qS {g : Nat} (st : Nat) (S : StA) (Φ : Nat → Option (StG (some g))) (i : Nat) (v : Value) : Prop := if i = st then S.q v else qG Φ i v
def acS {g : Nat} (st : Nat) (Φ : Nat → Option (StG (some g))) (i : Nat) : Bool := i == st || acG Φ i
def wpS {g : Nat} (P : Program) (ops : Array Oper) (Q : Exit → Act → World → Prop) (w : World) (st : Nat) (S : StA) (Φ : Nat → Option (StG (some g))) : Nat → List Oper → Act → List (Nat × (World → Prop)) → Prop :=
  wpX P ops Q (fun L x => w.grownBy x (some g) ∧ (¬ L st → Ext w x)) (qS st S Φ) (phiS st S Φ) (acS st Φ)
theorem grown_ext {w w' : World} {row : Option Nat} (h : Ext w w') : w.grownBy w' row := ⟨h.os, h.tape, h.output, h.size, fun k hk _ => h.block k hk⟩

theorem phiS_keep {g st : Nat} {S : StA} {Φ : Nat → Option (StG (some g))} {w w' : World} (h : Ext w w') (j : Nat) (u : Value) (hj : phiS st S Φ j u w) : phiS st S Φ j u w' := by
  unfold phiS at *
  split
  · rename_i e; rw [if_pos e] at hj; exact S.st _ _ _ h hj
  · rename_i e; rw [if_neg e] at hj; exact phiG_keep (grown_ext h) j u hj

section
variable {P : Program} {ops : Array Oper} {Q : Exit → Act → World → Prop}
section
variable {g st : Nat} {S : StA} {w : World} {ΦG : Nat → Option (StG (some g))} {i : Nat} {o : Oper} {rest : List Oper} {a : Act} {fs : List (Nat × (World → Prop))}
theorem wpS_nil (h : ∀ w', World.grownBy w w' (some g) → (∀ p ∈ fs, p.2 w') → Q .normal a w') : wpS P ops Q w st S ΦG i [] a fs := fun _ w' _ hw hf => h w' hw.1 hf
theorem wpS_skip (hw : Region.wanted o (yielded ops a.tmps) = false) (h : wpS P ops Q w st S ΦG (i + 1) rest (a.put o.dst undef) fs) : wpS P ops Q w st S ΦG i (o :: rest) a fs := by
  unfold wpS wpX
  rw [if_neg (by simp [hw])]; exact h
theorem wpS_det (hw : Region.wanted o (yielded ops a.tmps) = true) (hac : acS st ΦG i = false) (hd : detOp o.op = true)
    (h : ∀ K : Act → Prop, (∀ a, wpS P ops Q w st S ΦG (i + 1) rest a fs → K a) → o.quiet P a (fun _ => True) K) : wpS P ops Q w st S ΦG i (o :: rest) a fs := by
  unfold wpS wpX
  rw [if_pos hw, if_neg (by simp [hac])]
  obtain ⟨v, h1, h2⟩ := h _ (fun _ h => h)
  refine ⟨v, fun W _ => ?_, h2⟩
  have y := YieldX.of_quietAt hd (h1 W trivial)
  unfold Oper.quietAt
  rcases y with y | ⟨y, rfl⟩ <;> rw [y] <;> exact ⟨rfl, rfl⟩
theorem wpS_at (hw : Region.wanted o (yielded ops a.tmps) = true) (hac : acS st ΦG i = false) (hst : st < ops.size) (hb : ancB ops st i = true) (v : Value)
    (h1 : ∀ w', Ext w w' → (∀ p ∈ fs, ancB ops i p.1 = true → p.2 w') → (execOp a.eval o).run P w' = .ok (.value v) w') (h2 : wpS P ops Q w st S ΦG (i + 1) rest (a.put o.dst v) fs) : wpS P ops Q w st S ΦG i (o :: rest) a fs := by
  unfold wpS wpX
  rw [if_pos hw, if_neg (by simp [hac])]
  refine ⟨v, fun W ⟨⟨L, hr, hW⟩, hf⟩ => ?_, h2⟩
  unfold Oper.quietAt
  rw [h1 W (hW.2 (hr.2.2 st hst hb)) hf]
  exact ⟨rfl, rfl⟩
theorem wpS_act (hw : Region.wanted o (yielded ops a.tmps) = true) (hst : st < ops.size) (hb : ancB ops st i = true) (hne : st ≠ i) (A : StG (some g)) (hA : ΦG i = some A)
    (h1 : ∀ w', Ext w w' → (∀ p ∈ fs, ancB ops i p.1 = true → p.2 w') → Oper.acts P o a w' (fun v w'' => Ext w' w'' ∧ A.q v ∧ A.p v w''))
    (h2 : ∀ v, A.q v → wpS P ops Q w st S ΦG (i + 1) rest (a.put o.dst v) (fs ++ [(i, A.p v)])) : wpS P ops Q w st S ΦG i (o :: rest) a fs := by
  unfold wpS wpX
  have hac : acS st ΦG i = true := by simp [acS, acG, hA]
  have hφ : ∀ v, phiS st S ΦG i v = A.p v := fun v => by funext W; simp [phiS, phiG, hA, Ne.symm hne]
  have hq : ∀ v, qS st S ΦG i v = A.q v := fun v => by simp [qS, qG, hA, Ne.symm hne]
  rw [if_pos hw, if_pos hac]
  refine ⟨fun L W hr hW hf => ?_, by obtain ⟨v, hv⟩ := A.ex; exact ⟨v, by rw [hq]; exact hv⟩, fun v hv => by rw [hφ]; exact h2 v (by rw [hq] at hv; exact hv)⟩
  have hWe := hW.2 (hr.2.2 st hst hb)
  have := h1 W hWe hf
  unfold Oper.acts at *
  generalize (execOp a.eval o).run P W = r at *
  have conv : ∀ v w'', Ext W w'' ∧ A.q v ∧ A.p v w'' → (w.grownBy w'' (some g) ∧ (¬ (L st ∨ st = i) → Ext w w'')) ∧ (qS st S ΦG i v ∧ phiS st S ΦG i v w'') ∧ ∀ j u, j ≠ i → ancB ops j i = false → phiS st S ΦG j u W → phiS st S ΦG j u w'' := fun v w'' h =>
    ⟨⟨World.grownBy.trans hW.1 (grown_ext h.1), fun _ => hWe.trans h.1⟩, ⟨by rw [hq]; exact h.2.1, by rw [hφ]; exact h.2.2⟩, fun j u _ _ hj => phiS_keep h.1 j u hj⟩
  cases r with
  | ok n w' =>
    cases n <;> simp only [Oper.actsUpon] at this ⊢
    case value u => exact conv _ _ this
    case skip => exact conv _ _ this
    case enter f args => exact this.mono fun e w'' ⟨v, he, hr⟩ => ⟨v, he, conv _ _ hr⟩
  | halt x w' => simp only [Oper.actsUpon] at this
theorem wpS_store (hw : Region.wanted o (yielded ops a.tmps) = true) (his : st = i) 
    (h1 : ∀ w', Ext w w' → (∀ p ∈ fs, ancB ops i p.1 = true → p.2 w') → Oper.acts P o a w' (fun v w'' => World.grownBy w' w'' (some g) ∧ S.q v ∧ S.p v w''))
    (h2 : ∀ v, S.q v → wpS P ops Q w st S ΦG (i + 1) rest (a.put o.dst v) (fs ++ [(i, S.p v)])) : wpS P ops Q w st S ΦG i (o :: rest) a fs := by
  unfold wpS wpX
  have hac : acS st ΦG i = true := by simp [acS, his]
  have hφ : ∀ v, phiS st S ΦG i v = S.p v := fun v => by funext W; simp [phiS, his]
  have hq : ∀ v, qS st S ΦG i v = S.q v := fun v => by simp [qS, his]
  rw [if_pos hw, if_pos hac]
  refine ⟨fun L W hr hW hf => ?_, by obtain ⟨v, hv⟩ := S.ex; exact ⟨v, by rw [hq]; exact hv⟩, fun v hv => by rw [hφ]; exact h2 v (by rw [hq] at hv; exact hv)⟩
  subst his
  have hWe := hW.2 hr.2.1
  have := h1 W hWe hf
  unfold Oper.acts at *
  generalize (execOp a.eval o).run P W = r at *
  have conv : ∀ v w'', World.grownBy W w'' (some g) ∧ S.q v ∧ S.p v w'' → (w.grownBy w'' (some g) ∧ (¬ (L st ∨ True) → Ext w w'')) ∧ (qS st S ΦG st v ∧ phiS st S ΦG st v w'') ∧ ∀ j u, j ≠ st → ancB ops j st = false → phiS st S ΦG j u W → phiS st S ΦG j u w'' := fun v w'' h =>
    ⟨⟨World.grownBy.trans hW.1 h.1, fun hn => absurd (.inr trivial) hn⟩, ⟨by rw [hq]; exact h.2.1, by rw [hφ]; exact h.2.2⟩, fun j u hne _ hj => by
      unfold phiS at *
      rw [if_neg hne] at *
      exact phiG_keep h.1 j u hj⟩
  cases r with
  | ok n w' =>
    cases n <;> simp only [Oper.actsUpon] at this ⊢
    case value u => exact conv _ _ this
    case skip => exact conv _ _ this
    case enter f args => exact this.mono fun e w'' ⟨v, he, hr⟩ => ⟨v, he, conv _ _ hr⟩
  | halt x w' => simp only [Oper.actsUpon] at this
end
theorem wp_region_S {g : Nat} {id : Nat} {l : List Oper} {a : Act} {w : World} (st : Nat) (S : StA) (Φ : Nat → Option (StG (some g))) (hm : P.follows .mixedOrders = true) (hF : regionX l.toArray (acS st Φ) = true) (hst : st < l.length)
    (h : wpS P l.toArray Q w st S Φ 0 l a []) : (Code.region id l.toArray true).wp P Q a w :=
  wp_region_X (fun L x => w.grownBy x (some g) ∧ (¬ L st → Ext w x)) (qS st S Φ) (phiS st S Φ) (acS st Φ) hm hF (fun L L' w' hL hw => ⟨hw.1, fun hn => hw.2 fun hl => hn (hL st (by simpa using hst) hl)⟩) (fun _ => ⟨⟨rfl, rfl, rfl, Nat.le_refl _, fun _ _ _ => rfl⟩, fun _ => (Ext.refl w).drew⟩) h
end
end Go.Proofs.Ytjhpdcfhdpnloaa
