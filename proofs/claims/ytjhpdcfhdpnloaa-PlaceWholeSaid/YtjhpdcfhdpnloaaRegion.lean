/- A region that draws its order, walked once in the order of the text: operations that act (calls, allocations, stores) leave facts that all the others keep. No conditions on the program. -/
import Derived.Test.YtjhpdcfhdpnloaaBase
namespace Go.Proofs.Ytjhpdcfhdpnloaa
open Go.RowKit

section
variable {P : Program} {ops : Array Oper} {Q : Exit → Act → World → Prop} {Γ : (Nat → Prop) → World → Prop} {q : Nat → Value → Prop} {Φ : Nat → Value → World → Prop} {ac : Nat → Bool}

def ancB (ops : Array Oper) (i j : Nat) : Bool := ((Region.before ops).getD i 0).testBit j

def detOp : Op → Bool
  | .move _ | .assign _ | .pick .. | .build .. | .load .. | .binOp .. | .unOp .. | .convert .. | .makeInterface .. | .makeFunc .. | .slice .. | .fieldAddr .. | .field .. | .indexAddr .. | .index .. | .lookup .. | .extract .. => true
  | .call { callee := .builtin .len, .. } | .call { callee := .builtin .cap, .. } | .call { callee := .builtin .min, .. } | .call { callee := .builtin .max, .. } => true
  | _ => false

def regionX (ops : Array Oper) (ac : Nat → Bool) : Bool :=
  (List.range ops.size).all fun i => match ops[i]? with
    | none => false
    | some o =>
      (o.after.all fun e => !Region.binds .any e || decide (e.on < i)) &&
      ((List.range ops.size).all fun j => !ancB ops i j || (decide (j < i) && o.after.any fun e => Region.binds .any e && (e.on == j || ancB ops e.on j))) &&
      ((List.range ops.size).all fun j => j == i || match ops[j]? with
        | none => false
        | some p => match o.dst with
          | none => true
          | some d => p.dst != some d && (!(p.looksAt ops).contains d || ancB ops i j || ancB ops j i)) &&
      (match o.op with
        | .select .. | .defer .. | .go .. => false
        | _ => true) && (ac i || detOp o.op)

structure FineX (ops : Array Oper) (ac : Nat → Bool) : Prop where
  lt : ∀ (i : Nat) (o : Oper), ops[i]? = some o → ∀ e ∈ o.after, Region.binds .any e = true → e.on < i
  anc : ∀ (i : Nat) (o : Oper), ops[i]? = some o → ∀ j, j < ops.size → ancB ops i j = true → j < i ∧ ∃ e ∈ o.after, Region.binds .any e = true ∧ (e.on = j ∨ ancB ops e.on j = true)
  dst : ∀ (i : Nat) (o : Oper) (j : Nat) (p : Oper) (d : Tmp), ops[i]? = some o → ops[j]? = some p → j ≠ i → o.dst = some d → p.dst ≠ some d ∧ (d ∈ p.looksAt ops → ancB ops i j = true ∨ ancB ops j i = true)
  sel : ∀ (i : Nat) (o : Oper), ops[i]? = some o → ∀ cs b, o.op ≠ Op.select cs b
  dfr : ∀ (i : Nat) (o : Oper), ops[i]? = some o → ∀ c, o.op ≠ Op.defer c
  det : ∀ (i : Nat) (o : Oper), ops[i]? = some o → ac i = false → detOp o.op = true

theorem fineX (h : regionX ops ac = true) : FineX ops ac := by
  have key : ∀ (i : Nat) (o : Oper), ops[i]? = some o → i < ops.size := fun i o hi => (Array.getElem?_eq_some_iff.1 hi).1
  have h1 : ∀ (i : Nat) (o : Oper), ops[i]? = some o → ((((o.after.all fun e => !Region.binds .any e || decide (e.on < i)) = true ∧
      ((List.range ops.size).all fun j => !ancB ops i j || (decide (j < i) && o.after.any fun e => Region.binds .any e && (e.on == j || ancB ops e.on j))) = true) ∧
      ((List.range ops.size).all fun j => j == i || match ops[j]? with
        | none => false
        | some p => match o.dst with
          | none => true
          | some d => p.dst != some d && (!(p.looksAt ops).contains d || ancB ops i j || ancB ops j i)) = true) ∧
      (match o.op with
        | .select .. | .defer .. | .go .. => false
        | _ => true) = true) ∧ (ac i || detOp o.op) = true := fun i o hi => by
    have := List.all_eq_true.1 h i (List.mem_range.2 (key i o hi))
    rw [hi] at this
    simpa only [Bool.and_eq_true] using this
  refine ⟨fun i o hi e he hb => ?_, fun i o hi j hj ha => ?_, fun i o j p d hi hj hne hd => ?_, fun i o hi cs b ho => ?_, fun i o hi c ho => ?_, fun i o hi hac => ?_⟩
  · have := Array.all_eq_true'.1 (h1 i o hi).1.1.1.1 e he
    simpa [hb] using this
  · have := List.all_eq_true.1 (h1 i o hi).1.1.1.2 j (List.mem_range.2 hj)
    simp only [ha, Bool.not_true, Bool.false_or, Bool.and_eq_true, decide_eq_true_eq] at this
    refine ⟨this.1, ?_⟩
    obtain ⟨e, he, h2⟩ := Array.any_eq_true'.1 this.2
    simp only [Bool.and_eq_true, Bool.or_eq_true, beq_iff_eq] at h2
    exact ⟨e, he, h2.1, h2.2⟩
  · have := List.all_eq_true.1 (h1 i o hi).1.1.2 j (List.mem_range.2 (key j p hj))
    rw [hj, hd] at this
    simp only [Bool.or_eq_true, Bool.and_eq_true, beq_iff_eq, hne, false_or, bne_iff_ne, Bool.not_eq_true', List.contains_eq_mem, decide_eq_false_iff_not] at this
    exact ⟨this.1, fun hm => by
      rcases this.2 with (h3 | h3) | h3
      · exact absurd hm h3
      · exact .inl h3
      · exact .inr h3⟩
  · have := (h1 i o hi).1.2
    rw [ho] at this
    simp at this
  · have := (h1 i o hi).1.2
    rw [ho] at this
    simp at this
  · have := (h1 i o hi).2
    simpa [hac] using this

/-- what is asked of an operation that acts -/
def Oper.actsUpon (P : Program) (R : Value → World → Prop) : Result Next → Prop
  | .ok (.value v) w' => R v w'
  | .ok .skip w' => R undef w'
  | .ok (.enter f args) w' => Calls P f args w' fun e w'' => ∃ v, e = .returned v ∧ R v w''
  | _ => False
def Oper.acts (P : Program) (o : Oper) (a : Act) (w : World) (R : Value → World → Prop) : Prop := Oper.actsUpon P R ((execOp a.eval o).run P w)

/-- when an operation may come up: those that it waits for have been done, those that wait for it have not -/
def ReadyX (ops : Array Oper) (i : Nat) (L : Nat → Prop) : Prop := (∀ j, j < ops.size → ancB ops i j = true → L j) ∧ ¬ L i ∧ ∀ k, k < ops.size → ancB ops k i = true → ¬ L k

/-- the walk in the order of the text. 'Γ L w': of the world when the operations of L have been done -/
def wpX (P : Program) (ops : Array Oper) (Q : Exit → Act → World → Prop) (Γ : (Nat → Prop) → World → Prop) (q : Nat → Value → Prop) (Φ : Nat → Value → World → Prop) (ac : Nat → Bool) : Nat → List Oper → Act → List (Nat × (World → Prop)) → Prop
  | _, [], a, fs => ∀ L w, (∀ k, k < ops.size → L k) → Γ L w → (∀ p ∈ fs, p.2 w) → Q .normal a w
  | i, o :: rest, a, fs =>
    if Region.wanted o (yielded ops a.tmps) then
      if ac i then
        (∀ L w, ReadyX ops i L → Γ L w → (∀ p ∈ fs, ancB ops i p.1 = true → p.2 w) →
          Oper.acts P o a w (fun v w' => Γ (fun k => L k ∨ k = i) w' ∧ (q i v ∧ Φ i v w') ∧ ∀ j u, j ≠ i → ancB ops j i = false → Φ j u w → Φ j u w')) ∧
        (∃ v, q i v) ∧ ∀ v, q i v → wpX P ops Q Γ q Φ ac (i + 1) rest (a.put o.dst v) (fs ++ [(i, Φ i v)])
      else o.quiet P a (fun w => (∃ L, ReadyX ops i L ∧ Γ L w) ∧ ∀ p ∈ fs, ancB ops i p.1 = true → p.2 w) (fun a' => wpX P ops Q Γ q Φ ac (i + 1) rest a' fs)
    else wpX P ops Q Γ q Φ ac (i + 1) rest (a.put o.dst undef) fs

/-- the frame in the order of the text -/
def actX (ops : Array Oper) (a0 : Act) (V : Nat → Value) : Nat → Act
  | 0 => a0
  | i + 1 => (actX ops a0 V i).put ((ops[i]?).bind (·.dst)) (V i)

theorem actX_succ (a0 : Act) (V : Nat → Value) (i : Nat) : actX ops a0 V (i + 1) = (actX ops a0 V i).put ((ops[i]?).bind (·.dst)) (V i) := rfl
theorem actX_congr {a0 : Act} {V V' : Nat → Value} : ∀ i, (∀ k, k < i → V k = V' k) → actX ops a0 V i = actX ops a0 V' i
  | 0, _ => rfl
  | i + 1, h => by
    unfold actX
    rw [actX_congr i (fun k hk => h k (by omega)), h i (by omega)]

theorem put_size (a : Act) (d : Option Tmp) (v : Value) : (a.put d v).tmps.size = a.tmps.size := by cases d <;> simp [Act.put]
theorem put_defers (a : Act) (d : Option Tmp) (v : Value) : (a.put d v).defers = a.defers := by cases d <;> simp [Act.put]
theorem put_at (a : Act) (d : Tmp) (v : Value) (h : d < a.tmps.size) : (a.put (some d) v).tmps[d]? = some v := by simp [Act.put, h]
theorem put_ne (a : Act) (d : Option Tmp) (t : Tmp) (v : Value) (h : d ≠ some t) : (a.put d v).tmps[t]? = a.tmps[t]? := by
  cases d with
  | none => rfl
  | some d => simp [Act.put, show d ≠ t from fun e => h (by rw [e])]

/-- what stands in the frame when the operations of L have been done -/
structure StX (ops : Array Oper) (a0 : Act) (L : Nat → Prop) (V : Nat → Value) (a : Act) : Prop where
  defers : a.defers = a0.defers
  size : a.tmps.size = a0.tmps.size
  at_ : ∀ (k : Nat) (o : Oper) (d : Tmp), ops[k]? = some o → o.dst = some d → L k → d < a0.tmps.size → a.tmps[d]? = some (V k)
  ne_ : ∀ (d : Tmp), (∀ (k : Nat) (o : Oper), ops[k]? = some o → o.dst = some d → ¬ L k) → a.tmps[d]? = a0.tmps[d]?

theorem stX_put {a0 a : Act} {L : Nat → Prop} {V : Nat → Value} (hF : FineX ops ac) (h : StX ops a0 L V a) {i : Nat} {o : Oper} (hi : ops[i]? = some o) (v : Value) :
    StX ops a0 (fun k => L k ∨ k = i) (fun k => if k = i then v else V k) (a.put o.dst v) := by
  refine ⟨(put_defers _ _ _).trans h.defers, (put_size _ _ _).trans h.size, fun k p d hk hd hL hlt => ?_, fun d hd => ?_⟩
  · by_cases hki : k = i
    · subst hki
      rw [hi] at hk; cases hk
      rw [hd, put_at _ _ _ (by rw [h.size]; exact hlt), if_pos rfl]
    · have hne := (hF.dst i o k p)
      rw [put_ne, if_neg hki]
      · exact h.at_ k p d hk hd (hL.resolve_right hki) hlt
      · intro hod
        exact (hF.dst i o k p d hi hk hki hod).1 hd
  · rw [put_ne]
    · exact h.ne_ d fun k p hk hkd hL => hd k p hk hkd (.inl hL)
    · intro hod
      exact hd i o hi hod (.inr rfl)

theorem stX_actX (hF : FineX ops ac) (a0 : Act) (V : Nat → Value) : ∀ i, i ≤ ops.size → StX ops a0 (fun k => k < i) V (actX ops a0 V i)
  | 0, _ => ⟨rfl, rfl, fun _ _ _ _ _ h _ => absurd h (Nat.not_lt_zero _), fun _ _ => rfl⟩
  | i + 1, hi => by
    have hlt : i < ops.size := by omega
    have h := stX_put hF (stX_actX hF a0 V i (by omega)) (Array.getElem?_eq_getElem hlt) (V i)
    have e : (fun k => if k = i then V i else V k) = V := funext fun k => by split <;> simp_all
    rw [e] at h
    unfold actX
    rw [Array.getElem?_eq_getElem hlt, Option.bind_some]
    refine ⟨h.defers, h.size, fun k o d hk hd hL hl => h.at_ k o d hk hd (by omega) hl, fun d hd => h.ne_ d fun k o hk hkd hL => hd k o hk hkd (by omega)⟩

/-- two frames agree at a slot if its writer (if there is one) has been done in both, with one value, or in neither -/
theorem stX_agree {a0 a a' : Act} {L L' : Nat → Prop} {V V' : Nat → Value} (h : StX ops a0 L V a) (h' : StX ops a0 L' V' a') (t : Tmp)
    (hw : ∀ (k : Nat) (o : Oper), ops[k]? = some o → o.dst = some t → (L k ∧ L' k ∧ V k = V' k) ∨ (¬ L k ∧ ¬ L' k)) (hF : FineX ops ac) : a.tmps[t]? = a'.tmps[t]? := by
  by_cases hlt : t < a0.tmps.size
  · by_cases hx : ∃ (k : Nat) (o : Oper), ops[k]? = some o ∧ o.dst = some t
    · obtain ⟨k, o, hk, hd⟩ := hx
      rcases hw k o hk hd with ⟨h1, h2, h3⟩ | ⟨h1, h2⟩
      · rw [h.at_ k o t hk hd h1 hlt, h'.at_ k o t hk hd h2 hlt, h3]
      · have uniq : ∀ (j : Nat) (p : Oper), ops[j]? = some p → p.dst = some t → j = k := fun j p hj hjd => by
          by_cases e : j = k
          · exact e
          · exact absurd hjd (hF.dst k o j p t hk hj e hd).1
        rw [h.ne_ t (fun j p hj hjd => by rw [uniq j p hj hjd]; exact h1), h'.ne_ t (fun j p hj hjd => by rw [uniq j p hj hjd]; exact h2)]
    · rw [h.ne_ t (fun k o hk hd => absurd ⟨k, o, hk, hd⟩ hx), h'.ne_ t (fun k o hk hd => absurd ⟨k, o, hk, hd⟩ hx)]
  · rw [Array.getElem?_eq_none (by rw [h.size]; exact Nat.not_lt.1 hlt), Array.getElem?_eq_none (by rw [h'.size]; exact Nat.not_lt.1 hlt)]

theorem eval_of_tmps {a a' : Act} (o : Oper) (h : ∀ t ∈ o.looksAt ops, a.tmps[t]? = a'.tmps[t]?) : (∀ x ∈ o.op.operands, a.eval x = a'.eval x) ∧ Region.wanted o (yielded ops a.tmps) = Region.wanted o (yielded ops a'.tmps) := by
  constructor
  · intro x hx
    cases x with
    | tmp t =>
      have := h t (List.mem_append_left _ (List.mem_filterMap.2 ⟨.tmp t, by simpa using hx, rfl⟩))
      simp only [Act.eval, Array.getD_eq_getD_getElem?, this]
    | _ => rfl
  · unfold Region.wanted
    cases hg : o.guard with
    | none => rfl
    | some gw =>
      obtain ⟨g, want⟩ := gw
      have hy : yielded ops a.tmps g = yielded ops a'.tmps g := by
        unfold yielded
        cases ht : (ops[g]?).bind (·.dst) with
        | none => rfl
        | some t =>
          have := h t (List.mem_append_right _ (by simp [hg, ht]))
          simp only [Option.bind_some, this]
      simp only [hy]

theorem andThen_value_ne (r : Result Value) (w' : World) (f : FuncId) (args : Array Value) : (r.andThen fun a w' => Result.ok (Next.value a) w') ≠ .ok (.enter f args) w' := by
  cases r <;> simp [Result.andThen]
theorem run_value_ne (s : Sem Value) (w w' : World) (f : FuncId) (args : Array Value) : (do pure (Next.value (← s)) : Sem Next).run P w ≠ .ok (.enter f args) w' := by
  simp only [Sem.run_bind]
  cases s.run P w <;> simp [Result.andThen]
/-- the operations that don't act hand back no call -/
theorem no_enter (o : Oper) (ρ : Operand → Value) (hc : detOp o.op = true) (w w' : World) (f : FuncId) (args : Array Value) :
    (execOp ρ o).run P w ≠ .ok (.enter f args) w' := by
  obtain ⟨dst, op, type, pos, after, guard⟩ := o
  cases op
  case call c =>
    obtain ⟨callee, cargs, ats⟩ := c
    cases callee
    case builtin b => cases b <;> simp only [detOp, Bool.false_eq_true] at hc <;> simp only [execOp, resolve, Sem.run_bind, Sem.run_pure, Result.andThen_ok, invoke, builtin] <;> exact andThen_value_ne _ w' f args
    all_goals simp [detOp] at hc
  case move x => simp [execOp]
  case assign x => simp [execOp]
  case pick c a b => simp only [execOp, Sem.run_bind]; cases (asBool (ρ c)).run P w <;> simp [Result.andThen]
  all_goals first
    | (simp [detOp] at hc; done)
    | (simp only [execOp]; exact run_value_ne _ w w' f args)

/-- what an operation that doesn't act yields in a world: the value, in the same world -/
def YieldX (P : Program) (o : Oper) (a : Act) (w : World) (v : Value) : Prop :=
  (execOp a.eval o).run P w = .ok (.value v) w ∨ ((execOp a.eval o).run P w = .ok .skip w ∧ v = undef)
theorem YieldX.unique {o : Oper} {a : Act} {w : World} {u v : Value} (h : YieldX P o a w u) (k : YieldX P o a w v) : u = v := by
  rcases h with h | ⟨h, rfl⟩ <;> rcases k with k | ⟨k, rfl⟩ <;> rw [h] at k <;> simp at k
  exact k
theorem YieldX.of_quietAt {o : Oper} {a : Act} {w : World} {v : Value} {C : World → Prop} (hd : detOp o.op = true) (h : o.quietAt P a C w v) : YieldX P o a w v := by
  unfold Oper.quietAt at h
  have hn := no_enter (P := P) o a.eval hd w
  unfold YieldX
  generalize (execOp a.eval o).run P w = r at *
  cases r with
  | ok n w' =>
    cases n <;> simp only [Oper.quietUpon] at h
    case value u => obtain ⟨rfl, rfl⟩ := h; exact .inl rfl
    case skip => obtain ⟨rfl, rfl⟩ := h; exact .inr ⟨rfl, rfl⟩
    case enter f args => exact absurd rfl (hn w' f args)
  | halt x w' => simp only [Oper.quietUpon] at h
theorem YieldX.congr {o : Oper} {a a' : Act} {w : World} {v : Value} (h : YieldX P o a w v) (hs : ∀ cs b, o.op ≠ Op.select cs b) (he : ∀ x ∈ o.op.operands, a.eval x = a'.eval x) : YieldX P o a' w v := by
  unfold YieldX at *
  rw [← execOp_congr o hs he]; exact h
theorem YieldX.wp {o : Oper} {a : Act} {w : World} {v : Value} {K : Act → World → Prop} {Q : Exit → Act → World → Prop} (h : YieldX P o a w v) (hK : K (a.put o.dst v) w) : o.wp P a w K Q := by
  unfold Oper.wp
  rcases h with h | ⟨h, rfl⟩ <;> rw [h] <;> exact hK
/-- an acting operation, in another frame that holds the same operands -/
theorem wp_of_acts {o : Oper} {a a' : Act} {w : World} {R : Value → World → Prop} {K : Act → World → Prop} (hs : ∀ cs b, o.op ≠ Op.select cs b) (he : ∀ x ∈ o.op.operands, a.eval x = a'.eval x)
    (h : Oper.acts P o a w R) (hK : ∀ v w', R v w' → K (a'.put o.dst v) w') : o.wp P a' w K Q := by
  unfold Oper.acts at h
  unfold Oper.wp
  rw [← execOp_congr o hs he]
  generalize (execOp a.eval o).run P w = r at *
  cases r with
  | ok n w' =>
    cases n <;> simp only [Oper.actsUpon] at h <;> simp only [Oper.upon]
    case value u => exact hK _ _ h
    case skip => exact hK _ _ h
    case enter f args => exact h.mono fun e w'' ⟨v, he, hr⟩ => by subst he; exact hK _ _ hr
  | halt x w' => simp only [Oper.actsUpon] at h

/-! ### the walk in the order of the text serves every order -/
def wantX (ops : Array Oper) (a0 : Act) (V : Nat → Value) (k : Nat) (o : Oper) : Bool := Region.wanted o (yielded ops (actX ops a0 V k).tmps)

structure InvX (P : Program) (ops : Array Oper) (Γ : (Nat → Prop) → World → Prop) (q : Nat → Value → Prop) (Φ : Nat → Value → World → Prop) (ac : Nat → Bool) (a0 : Act) (L : Nat → Prop) (V : Nat → Value) (a : Act) (w : World) : Prop where
  st : StX ops a0 L V a
  inv : Γ L w
  closed : ∀ k j, k < ops.size → j < ops.size → L k → ancB ops k j = true → L j
  fact : ∀ (k : Nat) (o : Oper), ops[k]? = some o → L k → wantX ops a0 V k o = true → ac k = true → q k (V k) ∧ Φ k (V k) w
  det : ∀ (k : Nat) (o : Oper), ops[k]? = some o → L k → wantX ops a0 V k o = true → ac k = false → ∃ L' w', ReadyX ops k L' ∧ Γ L' w' ∧ (∀ (j : Nat) (p : Oper), ops[j]? = some p → ancB ops k j = true → wantX ops a0 V j p = true → ac j = true → Φ j (V j) w') ∧ YieldX P o (actX ops a0 V k) w' (V k)
  skip : ∀ (k : Nat) (o : Oper), ops[k]? = some o → L k → wantX ops a0 V k o = false → V k = undef

/-- an operation looks at the values of those that it waits for alone -/
theorem actX_agree (hF : FineX ops ac) (a0 : Act) {V V' : Nat → Value} {k : Nat} {o : Oper} (hk : ops[k]? = some o) (h : ∀ j, j < ops.size → ancB ops k j = true → V j = V' j) :
    ∀ t ∈ o.looksAt ops, (actX ops a0 V k).tmps[t]? = (actX ops a0 V' k).tmps[t]? := by
  intro t ht
  have hlt : k < ops.size := (Array.getElem?_eq_some_iff.1 hk).1
  refine stX_agree (stX_actX hF a0 V k (by omega)) (stX_actX hF a0 V' k (by omega)) t (fun j p hj hd => ?_) hF
  by_cases hjk : j < k
  · have hjl : j < ops.size := by omega
    refine .inl ⟨hjk, hjk, h j hjl ?_⟩
    rcases (hF.dst j p k o t hj hk (by omega) hd).2 ht with h1 | h1
    · have := (hF.anc j p hj k hlt h1).1; omega
    · exact h1
  · exact .inr ⟨hjk, hjk⟩

theorem InvX.agree {a0 a : Act} {L : Nat → Prop} {V : Nat → Value} {w : World} (hF : FineX ops ac) (h : InvX P ops Γ q Φ ac a0 L V a w) {k : Nat} {o : Oper} (hk : ops[k]? = some o) (hL : ¬ L k)
    (hr : ∀ j, j < ops.size → ancB ops k j = true → L j) : ∀ t ∈ o.looksAt ops, (actX ops a0 V k).tmps[t]? = a.tmps[t]? := by
  intro t ht
  have hlt : k < ops.size := (Array.getElem?_eq_some_iff.1 hk).1
  refine stX_agree (stX_actX hF a0 V k (by omega)) h.st t (fun j p hj hd => ?_) hF
  have hjl : j < ops.size := (Array.getElem?_eq_some_iff.1 hj).1
  by_cases hjk : j = k
  · subst hjk; exact .inr ⟨by omega, hL⟩
  · rcases (hF.dst j p k o t hj hk (fun e => hjk e.symm) hd).2 ht with h1 | h1
    · exact .inr ⟨by have := (hF.anc j p hj k hlt h1).1; omega, fun hLj => hL (h.closed j k hjl hlt hLj h1)⟩
    · exact .inl ⟨(hF.anc k o hk j hjl h1).1, hr j hjl h1, rfl⟩

theorem wantX_congr (hF : FineX ops ac) (a0 : Act) {V V' : Nat → Value} {k : Nat} {o : Oper} (hk : ops[k]? = some o) (h : ∀ j, j < ops.size → ancB ops k j = true → V j = V' j) : wantX ops a0 V k o = wantX ops a0 V' k o :=
  (eval_of_tmps o (actX_agree hF a0 hk h)).2

/-- the facts that the walk of the text has laid when it stands at i -/
def factsX (ops : Array Oper) (Φ : Nat → Value → World → Prop) (ac : Nat → Bool) (a0 : Act) (V : Nat → Value) : Nat → List (Nat × (World → Prop))
  | 0 => []
  | i + 1 => factsX ops Φ ac a0 V i ++ (match ops[i]? with
    | some o => if wantX ops a0 V i o && ac i then [(i, Φ i (V i))] else []
    | none => [])
theorem factsX_succ (a0 : Act) (V : Nat → Value) (i : Nat) : factsX ops Φ ac a0 V (i + 1) = factsX ops Φ ac a0 V i ++ (match ops[i]? with
    | some o => if wantX ops a0 V i o && ac i then [(i, Φ i (V i))] else []
    | none => []) := rfl
theorem factsX_congr {a0 : Act} {V V' : Nat → Value} : ∀ i, (∀ k, k < i → V k = V' k) → factsX ops Φ ac a0 V i = factsX ops Φ ac a0 V' i
  | 0, _ => rfl
  | i + 1, h => by
    unfold factsX
    rw [factsX_congr i (fun k hk => h k (by omega)), h i (by omega)]
    have : ∀ o, wantX ops a0 V i o = wantX ops a0 V' i o := fun o => by unfold wantX; rw [actX_congr i (fun k hk => h k (by omega))]
    simp only [this]
theorem mem_factsX {a0 : Act} {V : Nat → Value} : ∀ i p, p ∈ factsX ops Φ ac a0 V i → ∃ o, p.1 < i ∧ ops[p.1]? = some o ∧ wantX ops a0 V p.1 o = true ∧ ac p.1 = true ∧ p.2 = Φ p.1 (V p.1)
  | 0, _, h => by simp [factsX] at h
  | i + 1, p, h => by
    unfold factsX at h
    rcases List.mem_append.1 h with h | h
    · obtain ⟨o, h1, h2⟩ := mem_factsX i p h
      exact ⟨o, by omega, h2⟩
    · cases ho : ops[i]? with
      | none => simp [ho] at h
      | some o =>
        simp only [ho] at h
        by_cases hc : (wantX ops a0 V i o && ac i) = true
        · rw [if_pos hc] at h
          simp only [List.mem_singleton] at h
          subst h
          simp only [Bool.and_eq_true] at hc
          exact ⟨o, by simp, ho, hc.1, hc.2, rfl⟩
        · rw [if_neg hc] at h; simp at h

/-- along what has been done, the walk of the text comes to every operation -/
theorem pathX (hF : FineX ops ac) {a0 a : Act} {L : Nat → Prop} {V : Nat → Value} {w : World} (h : InvX P ops Γ q Φ ac a0 L V a w) (hX : wpX P ops Q Γ q Φ ac 0 ops.toList a0 []) :
    ∀ i, i ≤ ops.size → ∃ V', (∀ k, k < i → L k → V' k = V k) ∧ wpX P ops Q Γ q Φ ac i (ops.toList.drop i) (actX ops a0 V' i) (factsX ops Φ ac a0 V' i)
  | 0, _ => ⟨V, fun _ _ _ => rfl, by simpa [actX, factsX] using hX⟩
  | i + 1, hi => by
    classical
    have hlt : i < ops.size := by omega
    obtain ⟨V', hV, hw⟩ := pathX hF h hX i (by omega)
    have ho : ops[i]? = some ops[i] := Array.getElem?_eq_getElem hlt
    have hdrop : ops.toList.drop i = ops[i] :: ops.toList.drop (i + 1) := by
      rw [List.drop_eq_getElem_cons (by simpa using hlt)]; rfl
    rw [hdrop] at hw
    have hanc : L i → ∀ j, j < ops.size → ancB ops i j = true → V' j = V j := fun hL j hj ha => hV j (hF.anc i _ ho j hj ha).1 (h.closed i j hlt hj hL ha)
    have hsame : ∀ v, (∀ k, k < i → (fun k => if k = i then v else V' k) k = V' k) := fun v k hk => by simp; omega
    have step : ∀ v, (L i → v = V i) → wpX P ops Q Γ q Φ ac (i + 1) (ops.toList.drop (i + 1)) ((actX ops a0 V' i).put ops[i].dst v) (factsX ops Φ ac a0 V' i ++ (if wantX ops a0 V' i ops[i] && ac i then [(i, Φ i v)] else [])) →
        ∃ V', (∀ k, k < i + 1 → L k → V' k = V k) ∧ wpX P ops Q Γ q Φ ac (i + 1) (ops.toList.drop (i + 1)) (actX ops a0 V' (i + 1)) (factsX ops Φ ac a0 V' (i + 1)) := fun v hv hn => by
      refine ⟨fun k => if k = i then v else V' k, fun k hk hL => ?_, ?_⟩
      · by_cases hki : k = i
        · subst hki; simp [hv hL]
        · simp only [hki, if_false]; exact hV k (by omega) hL
      · have e1 : actX ops a0 (fun k => if k = i then v else V' k) (i + 1) = (actX ops a0 V' i).put ops[i].dst v := by
          rw [actX_succ, actX_congr i (hsame v), ho]; simp
        have e2 : factsX ops Φ ac a0 (fun k => if k = i then v else V' k) (i + 1) = factsX ops Φ ac a0 V' i ++ (if wantX ops a0 V' i ops[i] && ac i then [(i, Φ i v)] else []) := by
          rw [factsX_succ, factsX_congr i (hsame v), ho]
          have : wantX ops a0 (fun k => if k = i then v else V' k) i ops[i] = wantX ops a0 V' i ops[i] := by unfold wantX; rw [actX_congr i (hsame v)]
          simp [this]
        rw [e1, e2]; exact hn
    have hwant : L i → wantX ops a0 V' i ops[i] = wantX ops a0 V i ops[i] := fun hL => wantX_congr hF a0 ho (hanc hL)
    unfold wpX at hw
    by_cases hwt : wantX ops a0 V' i ops[i] = true
    · rw [if_pos (show Region.wanted ops[i] (yielded ops (actX ops a0 V' i).tmps) = true from hwt)] at hw
      by_cases hac : ac i = true
      · rw [if_pos hac] at hw
        obtain ⟨v0, hv0⟩ := hw.2.1
        refine step (if L i then V i else v0) (fun hL => by simp [hL]) ?_
        have := hw.2.2 (if L i then V i else v0) (by
          by_cases hL : L i
          · simp only [hL, if_true]
            exact (h.fact i _ ho hL (by rw [← hwant hL]; exact hwt) hac).1
          · simp only [hL, if_false]; exact hv0)
        simpa [hwt, hac] using this
      · rw [if_neg hac] at hw
        obtain ⟨v, hq, hn⟩ := hw
        refine step v (fun hL => ?_) (by simpa [hwt, hac] using hn)
        have hac' : ac i = false := by simpa using hac
        obtain ⟨L', w', hr', hΓ', hf', y2⟩ := h.det i _ ho hL (by rw [← hwant hL]; exact hwt) hac'
        have y1 := YieldX.of_quietAt (hF.det i _ ho hac') (hq w' ⟨⟨L', hr', hΓ'⟩, fun p hp ha => by
          obtain ⟨o, hpi, hpo, hpw, hpa, hpe⟩ := mem_factsX i p hp
          have hLp : L p.1 := h.closed i p.1 hlt (by omega) hL ha
          have hVp : V' p.1 = V p.1 := hV p.1 hpi hLp
          rw [hpe, hVp]
          refine hf' p.1 o hpo ha ?_ hpa
          rw [← hpw]
          exact wantX_congr hF a0 hpo fun j hj hja => (hV j (by have := (hF.anc p.1 o hpo j hj hja).1; omega) (h.closed p.1 j (by omega) hj hLp hja)).symm⟩)
        exact y1.unique (y2.congr (hF.sel i _ ho) (eval_of_tmps _ (actX_agree hF a0 ho fun j hj ha => (hanc hL j hj ha).symm)).1)
    · have hwf : wantX ops a0 V' i ops[i] = false := by simpa using hwt
      rw [if_neg (show ¬ Region.wanted ops[i] (yielded ops (actX ops a0 V' i).tmps) = true from hwt)] at hw
      exact step undef (fun hL => (h.skip i _ ho hL (by rw [← hwant hL]; exact hwf)).symm) (by simpa [hwf] using hw)

/-- one operation more has been done -/
theorem InvX.next (hF : FineX ops ac) {a0 a : Act} {L : Nat → Prop} {V : Nat → Value} {w w' : World} (h : InvX P ops Γ q Φ ac a0 L V a w) {i : Nat} {o : Oper} (hi : ops[i]? = some o) (hL : ¬ L i)
    (hr : ∀ j, j < ops.size → ancB ops i j = true → L j) (v : Value) (hΓ : Γ (fun k => L k ∨ k = i) w') (hkeep : ∀ j u, j ≠ i → ancB ops j i = false → Φ j u w → Φ j u w')
    (hfact : wantX ops a0 V i o = true → ac i = true → q i v ∧ Φ i v w')
    (hdet : wantX ops a0 V i o = true → ac i = false → ∃ L' w', ReadyX ops i L' ∧ Γ L' w' ∧ (∀ (j : Nat) (p : Oper), ops[j]? = some p → ancB ops i j = true → wantX ops a0 V j p = true → ac j = true → Φ j (V j) w') ∧ YieldX P o (actX ops a0 V i) w' v)
    (hskip : wantX ops a0 V i o = false → v = undef) :
    InvX P ops Γ q Φ ac a0 (fun k => L k ∨ k = i) (fun k => if k = i then v else V k) (a.put o.dst v) w' := by
  have hlt : i < ops.size := (Array.getElem?_eq_some_iff.1 hi).1
  -- what has been done doesn't wait for i
  have away : ∀ k j, k < ops.size → L k → j < ops.size → ancB ops k j = true → V j = (if j = i then v else V j) := fun k j hk hLk hj ha => by
    rw [if_neg]
    rintro rfl
    exact hL (h.closed k j hk hj hLk ha)
  have away' : ∀ j, j < ops.size → ancB ops i j = true → V j = (if j = i then v else V j) := fun j hj ha => by
    rw [if_neg]
    rintro rfl
    exact hL (hr j hj ha)
  have want : ∀ (k : Nat) (p : Oper), ops[k]? = some p → L k → wantX ops a0 (fun k => if k = i then v else V k) k p = wantX ops a0 V k p := fun k p hk hLk =>
    (wantX_congr hF a0 hk fun j hj ha => away k j (Array.getElem?_eq_some_iff.1 hk).1 hLk hj ha).symm
  have want' : wantX ops a0 (fun k => if k = i then v else V k) i o = wantX ops a0 V i o := (wantX_congr hF a0 hi away').symm
  have neI : ∀ k, L k → k ≠ i := fun k hk e => hL (e ▸ hk)
  refine ⟨stX_put hF h.st hi v, hΓ, fun k j hk hj hLk ha => ?_, fun k p hk hLk hw hac => ?_, fun k p hk hLk hw hac => ?_, fun k p hk hLk hw => ?_⟩
  · rcases hLk with hLk | rfl
    · exact .inl (h.closed k j hk hj hLk ha)
    · exact .inl (hr j hj ha)
  · by_cases hki : k = i
    · subst hki
      rw [hi] at hk; cases hk
      rw [want'] at hw
      simpa using hfact hw hac
    · have hLk' := hLk.resolve_right hki
      rw [want k p hk hLk'] at hw
      have hf := h.fact k p hk hLk' hw hac
      have hkl := (Array.getElem?_eq_some_iff.1 hk).1
      have hnb : ancB ops k i = false := by
        cases hh : ancB ops k i with
        | false => rfl
        | true => exact absurd (h.closed k i hkl hlt hLk' hh) hL
      simpa [hki] using ⟨hf.1, hkeep k _ hki hnb hf.2⟩
  · by_cases hki : k = i
    · subst hki
      rw [hi] at hk; cases hk
      rw [want'] at hw
      obtain ⟨L', W, h1, h2, h3, h4⟩ := hdet hw hac
      refine ⟨L', W, h1, h2, fun j q hq ha hjw hjac => ?_, ?_⟩
      · have hjl := (Array.getElem?_eq_some_iff.1 hq).1
        have := h3 j q hq ha (by rw [← want j q hq (hr j hjl ha)]; exact hjw) hjac
        simpa [neI j (hr j hjl ha)] using this
      · have h5 := h4.congr (hF.sel k _ hi) (eval_of_tmps _ (actX_agree hF a0 hi away')).1
        simpa using h5
    · have hLk' := hLk.resolve_right hki
      have hkl := (Array.getElem?_eq_some_iff.1 hk).1
      rw [want k p hk hLk'] at hw
      obtain ⟨L', W, h1, h2, h3, h4⟩ := h.det k p hk hLk' hw hac
      refine ⟨L', W, h1, h2, fun j q hq ha hjw hjac => ?_, ?_⟩
      · have hjl := (Array.getElem?_eq_some_iff.1 hq).1
        have hLj := h.closed k j hkl hjl hLk' ha
        have := h3 j q hq ha (by rw [← want j q hq hLj]; exact hjw) hjac
        simpa [neI j hLj] using this
      · have h5 := h4.congr (hF.sel k _ hk) (eval_of_tmps _ (actX_agree hF a0 hk fun j hj ha => away k j hkl hLk' hj ha)).1
        simpa [hki] using h5
  · by_cases hki : k = i
    · subst hki
      rw [hi] at hk; cases hk
      rw [want'] at hw
      simpa using hskip hw
    · have hLk' := hLk.resolve_right hki
      rw [want k p hk hLk'] at hw
      simpa [hki] using h.skip k p hk hLk' hw

theorem InvX.congrL {a0 a : Act} {L L' : Nat → Prop} {V : Nat → Value} {w : World} (hΓ : Γ L' w) (h : InvX P ops Γ q Φ ac a0 L V a w) (hL : ∀ k, k < ops.size → (L k ↔ L' k)) : InvX P ops Γ q Φ ac a0 L' V a w := by
  have lt : ∀ (k : Nat) (o : Oper), ops[k]? = some o → k < ops.size := fun k o hk => (Array.getElem?_eq_some_iff.1 hk).1
  exact ⟨⟨h.st.defers, h.st.size, fun k o d hk hd hl => h.st.at_ k o d hk hd ((hL k (lt k o hk)).2 hl), fun d hd => h.st.ne_ d fun k o hk hkd hl => hd k o hk hkd ((hL k (lt k o hk)).1 hl)⟩, hΓ,
    fun k j hk hj hl ha => (hL j hj).1 (h.closed k j hk hj ((hL k hk).2 hl) ha), fun k o hk hl => h.fact k o hk ((hL k (lt k o hk)).2 hl), fun k o hk hl => h.det k o hk ((hL k (lt k o hk)).2 hl), fun k o hk hl => h.skip k o hk ((hL k (lt k o hk)).2 hl)⟩

theorem wpAny_of_X (hF : FineX ops ac) (hmono : ∀ L L' w, (∀ k, k < ops.size → L k → L' k) → Γ L w → Γ L' w) {a0 : Act} (hX : wpX P ops Q Γ q Φ ac 0 ops.toList a0 []) :
    ∀ (fuel : Nat) (listed : Array Bool) (V : Nat → Value) (a : Act) (w : World), listed.size = ops.size → (List.range ops.size).countP (fun k => !listed.getD k true) ≤ fuel →
      InvX P ops Γ q Φ ac a0 (fun k => listed.getD k false = true) V a w → wpAny P .any ops Q fuel listed a w := by
  have lt : ∀ (k : Nat) (o : Oper), ops[k]? = some o → k < ops.size := fun k o hk => (Array.getElem?_eq_some_iff.1 hk).1
  have getD' : ∀ (listed : Array Bool), listed.size = ops.size → ∀ k, k < ops.size → listed.getD k true = listed.getD k false := fun listed hs k hk => by
    have : k < listed.size := by omega
    simp [Array.getD, this]
  -- all are done: the end
  have fin : ∀ (listed : Array Bool) (V : Nat → Value) (a : Act) (w : World), listed.size = ops.size → (∀ k, k < ops.size → listed.getD k false = true) → InvX P ops Γ q Φ ac a0 (fun k => listed.getD k false = true) V a w → Q .normal a w := by
    intro listed V a w hs hall h
    obtain ⟨V', hV, hw⟩ := pathX hF h hX ops.size (Nat.le_refl _)
    have hnil : ops.toList.drop ops.size = [] := by simp
    rw [hnil] at hw
    unfold wpX at hw
    have e : actX ops a0 V' ops.size = a := by
      have h1 := stX_actX hF a0 V' ops.size (Nat.le_refl _)
      have h2 := h.st
      have : (actX ops a0 V' ops.size).tmps = a.tmps := by
        apply Array.ext_getElem?
        intro t
        exact stX_agree h1 h2 t (fun k o hk hd => .inl ⟨lt k o hk, hall k (lt k o hk), hV k (lt k o hk) (hall k (lt k o hk))⟩) hF
      have hd : (actX ops a0 V' ops.size).defers = a.defers := h1.defers.trans h2.defers.symm
      generalize actX ops a0 V' ops.size = b at *
      obtain ⟨x, y⟩ := b
      obtain ⟨x', y'⟩ := a
      simp only at this hd
      rw [this, hd]
    rw [e] at hw
    refine hw _ w hall h.inv fun p hp => ?_
    obtain ⟨o, hpi, hpo, hpw, hpa, hpe⟩ := mem_factsX _ p hp
    rw [hpe, hV p.1 hpi (hall p.1 hpi)]
    refine (h.fact p.1 o hpo (hall p.1 hpi) ?_ hpa).2
    rw [← hpw]
    exact wantX_congr hF a0 hpo fun j hj _ => (hV j hj (hall j hj)).symm
  -- if none may come up, all are done
  have none_ : ∀ (listed : Array Bool), listed.size = ops.size → Region.ready .any ops listed = [] → ∀ k, k < ops.size → listed.getD k false = true := by
    intro listed hs hr k
    induction k using Nat.strongRecOn with
    | ind k ih =>
      intro hk
      by_cases hl : listed.getD k false = true
      · exact hl
      · exfalso
        have : k ∈ Region.ready .any ops listed := by
          unfold Region.ready
          refine List.mem_filter.2 ⟨List.mem_range.2 hk, ?_⟩
          have ho : ops[k]? = some ops[k] := Array.getElem?_eq_getElem hk
          rw [getD' listed hs k hk, ho]
          simp only [Option.map_some, Option.getD_some, Bool.and_eq_true, Bool.not_eq_true']
          refine ⟨by simpa using hl, ?_⟩
          rw [Array.all_eq_true']
          intro e he
          by_cases hb : Region.binds .any e = true
          · have := hF.lt k _ ho e he hb
            simp [ih e.on this (by omega)]
          · simp [hb]
        rw [hr] at this
        cases this
  intro fuel
  induction fuel with
  | zero =>
    intro listed V a w hs hc h
    have hall : ∀ k, k < ops.size → listed.getD k false = true := fun k hk => by
      have := (List.countP_eq_zero.1 (Nat.le_zero.1 hc)) k (List.mem_range.2 hk)
      rw [← getD' listed hs k hk]
      simpa using this
    refine ⟨?_, fin listed V a w hs hall h⟩
    unfold Region.ready
    rw [List.filter_eq_nil_iff]
    intro k hk
    have hkl := List.mem_range.1 hk
    rw [getD' listed hs k hkl, hall k hkl]
    simp
  | succ fuel ih =>
    intro listed V a w hs hc h
    refine ⟨fun hr => fin listed V a w hs (none_ listed hs hr) h, fun i hir => ?_⟩
    unfold Region.ready at hir
    obtain ⟨hi0, hi1⟩ := List.mem_filter.1 hir
    have hlt : i < ops.size := List.mem_range.1 hi0
    have ho : ops[i]? = some ops[i] := Array.getElem?_eq_getElem hlt
    rw [ho] at hi1
    simp only [Option.map_some, Option.getD_some, Bool.and_eq_true, Bool.not_eq_true'] at hi1
    have hL : ¬ (listed.getD i false = true) := by rw [← getD' listed hs i hlt, hi1.1]; simp
    have hready : ∀ j, j < ops.size → ancB ops i j = true → listed.getD j false = true := fun j hj ha => by
      obtain ⟨_, e, he, hb, hor⟩ := hF.anc i _ ho j hj ha
      have hel : listed.getD e.on false = true := by
        have := Array.all_eq_true'.1 hi1.2 e he
        simpa [hb] using this
      rcases hor with rfl | h2
      · exact hel
      · have := hF.lt i _ ho e he hb
        exact h.closed e.on j (by omega) hj hel h2
    obtain ⟨V', hV, hw⟩ := pathX hF h hX i (by omega)
    have hdrop : ops.toList.drop i = ops[i] :: ops.toList.drop (i + 1) := by
      rw [List.drop_eq_getElem_cons (by simpa using hlt)]; rfl
    rw [hdrop] at hw
    have hag : ∀ j, j < ops.size → ancB ops i j = true → V' j = V j := fun j hj ha => hV j (hF.anc i _ ho j hj ha).1 (hready j hj ha)
    have hlook := actX_agree hF a0 ho hag
    have hloka := h.agree hF ho hL hready
    have hev : ∀ x ∈ ops[i].op.operands, (actX ops a0 V' i).eval x = a.eval x := fun x hx => ((eval_of_tmps _ hlook).1 x hx).trans ((eval_of_tmps _ hloka).1 x hx)
    have hwt : Region.wanted ops[i] (yielded ops (actX ops a0 V' i).tmps) = Region.wanted ops[i] (yielded ops a.tmps) := (eval_of_tmps _ hlook).2.trans (eval_of_tmps _ hloka).2
    have hwV : wantX ops a0 V i ops[i] = Region.wanted ops[i] (yielded ops a.tmps) := (eval_of_tmps _ hloka).2
    have facts : ∀ W, (∀ (j : Nat) (p : Oper), ops[j]? = some p → ancB ops i j = true → wantX ops a0 V j p = true → ac j = true → Φ j (V j) W) → ∀ p ∈ factsX ops Φ ac a0 V' i, ancB ops i p.1 = true → p.2 W := fun W hW p hp ha => by
      obtain ⟨o, hpi, hpo, hpw, hpa, hpe⟩ := mem_factsX i p hp
      have hLp := hready p.1 (by omega) ha
      rw [hpe, hV p.1 hpi hLp]
      refine hW p.1 o hpo ha ?_ hpa
      rw [← hpw]
      exact wantX_congr hF a0 hpo fun j hj hja => (hV j (by have := (hF.anc p.1 o hpo j hj hja).1; omega) (h.closed p.1 j (by omega) hj hLp hja)).symm
    have now : ∀ (j : Nat) (p : Oper), ops[j]? = some p → ancB ops i j = true → wantX ops a0 V j p = true → ac j = true → Φ j (V j) w := fun j p hj ha hjw hja => (h.fact j p hj (hready j (lt j p hj) ha) hjw hja).2
    have go : ∀ v w', InvX P ops Γ q Φ ac a0 (fun k => listed.getD k false = true ∨ k = i) (fun k => if k = i then v else V k) (a.put ops[i].dst v) w' → wpAny P .any ops Q fuel (listed.setIfInBounds i true) (a.put ops[i].dst v) w' := fun v w' hn => by
      have hLL : ∀ k, k < ops.size → ((listed.getD k false = true ∨ k = i) ↔ (listed.setIfInBounds i true).getD k false = true) := fun k hk => by
        by_cases hki : k = i
        · subst hki
          simp [Array.getD, show k < listed.size by omega]
        · rw [getD_set_ne false (fun e => hki e.symm)]
          simp [hki]
      refine ih (listed.setIfInBounds i true) _ _ _ (by simpa using hs) ?_ (hn.congrL (hmono _ _ _ (fun k hk => (hLL k hk).1) hn.inv) hLL)
      · have hcount : (List.range ops.size).countP (fun k => !(listed.setIfInBounds i true).getD k true) < (List.range ops.size).countP (fun k => !listed.getD k true) := by
          have : ∀ k, (!(listed.setIfInBounds i true).getD k true) = ((!listed.getD k true) && decide (k ≠ i)) := fun k => by
            by_cases hki : k = i
            · subst hki
              rw [getD_set_true' listed k (by omega)]
              simp
            · rw [getD_set_ne true (fun e => hki e.symm)]
              simp [hki]
          simp only [this]
          exact countP_lt (List.mem_range.2 hlt) (by simp [hi1.1])
        omega
    have hrdy : ReadyX ops i (fun k => listed.getD k false = true) := ⟨hready, hL, fun k hk ha hl => hL (h.closed k i hk hlt hl ha)⟩
    unfold wpOp
    simp only [ho]
    unfold wpX at hw
    by_cases hwant : Region.wanted ops[i] (yielded ops a.tmps) = true
    · rw [if_pos (hwt.trans hwant)] at hw
      rw [if_pos hwant]
      left
      by_cases hac : ac i = true
      · rw [if_pos hac] at hw
        refine wp_of_acts (hF.sel i _ ho) hev (hw.1 _ w hrdy h.inv (facts w now)) fun v w' ⟨hΓ, hΦ, hkeep⟩ => go v w' ?_
        exact h.next hF ho hL hready v hΓ hkeep (fun _ _ => hΦ) (fun _ hf => absurd (hac.symm.trans hf) (by simp)) (fun hf => absurd ((hwV.trans hwant).symm.trans hf) (by simp))
      · rw [if_neg hac] at hw
        have hac' : ac i = false := by simpa using hac
        obtain ⟨v, hq, _⟩ := hw
        have yx : YieldX P ops[i] (actX ops a0 V' i) w v := YieldX.of_quietAt (hF.det i _ ho hac') (hq w ⟨⟨_, hrdy, h.inv⟩, facts w now⟩)
        refine (yx.congr (hF.sel i _ ho) hev).wp (go v w ?_)
        exact h.next hF ho hL hready v (hmono _ _ _ (fun _ _ => .inl) h.inv) (fun _ _ _ _ h => h) (fun _ hf => absurd hf hac) (fun _ _ => ⟨_, w, hrdy, h.inv, now, yx.congr (hF.sel i _ ho) (eval_of_tmps _ hlook).1⟩) (fun hf => absurd ((hwV.trans hwant).symm.trans hf) (by simp))
    · rw [if_neg hwant]
      refine go undef w ?_
      exact h.next hF ho hL hready undef (hmono _ _ _ (fun _ _ => .inl) h.inv) (fun _ _ _ _ h => h) (fun hf => absurd (hwV.symm.trans hf) hwant) (fun hf => absurd (hwV.symm.trans hf) hwant) (fun _ => rfl)
where
  getD_set_true' (listed : Array Bool) (k : Nat) (h : k < listed.size) : (listed.setIfInBounds k true).getD k true = true := by simp [Array.getD, h]
  countP_lt {l : List Nat} {i : Nat} {p : Nat → Bool} (hm : i ∈ l) (hp : p i = true) : l.countP (fun k => p k && decide (k ≠ i)) < l.countP p := by
    induction l with
    | nil => cases hm
    | cons x l ihl =>
      have le : ∀ m : List Nat, m.countP (fun k => p k && decide (k ≠ i)) ≤ m.countP p := fun m => List.countP_mono_left (fun x _ h => by simp only [Bool.and_eq_true] at h; exact h.1)
      by_cases hx : x = i
      · subst hx
        have := le l
        have e1 : (x :: l).countP (fun k => p k && decide (k ≠ x)) = l.countP (fun k => p k && decide (k ≠ x)) := List.countP_cons_of_neg (by simp)
        have e2 : (x :: l).countP p = l.countP p + 1 := List.countP_cons_of_pos hp
        rw [e1, e2]; omega
      · have := ihl ((List.mem_cons.1 hm).resolve_left (fun e => hx e.symm))
        by_cases hpx : p x = true
        · rw [List.countP_cons_of_pos (by simp [hpx, hx]), List.countP_cons_of_pos hpx]; omega
        · rw [List.countP_cons_of_neg (by simp [hpx]), List.countP_cons_of_neg hpx]; exact this

/-- **A region that draws its order, walked once.** -/
theorem wp_region_X {id : Nat} {l : List Oper} {a : Act} {w : World} (Γ : (Nat → Prop) → World → Prop) (q : Nat → Value → Prop) (Φ : Nat → Value → World → Prop) (ac : Nat → Bool) (hm : P.follows .mixedOrders = true) (hF : regionX l.toArray ac = true)
    (hmono : ∀ L L' w, (∀ k, k < l.toArray.size → L k → L' k) → Γ L w → Γ L' w) (hΓ : ∀ L, Γ L w.drew) (h : wpX P l.toArray Q Γ q Φ ac 0 l a []) : (Code.region id l.toArray true).wp P Q a w := by
  refine wp_region_any hm ?_
  refine wpAny_of_X (fineX hF) hmono (a0 := a) h l.toArray.size (Array.replicate l.toArray.size false) (fun _ => undef) a w.drew (by simp) ?_ ?_
  · have := List.countP_le_length (p := fun k => !(Array.replicate l.toArray.size false).getD k true) (l := List.range l.toArray.size)
    rwa [List.length_range] at this
  have hn : ∀ k, (Array.replicate l.toArray.size false).getD k false = true → False := fun k => by
    by_cases hk : k < l.toArray.size <;> simp_all [Array.getD]
  exact ⟨⟨rfl, rfl, fun k o d _ _ hl => (hn k hl).elim, fun _ _ => rfl⟩, hΓ _, fun k j _ _ hl => (hn k hl).elim, fun k o _ hl => (hn k hl).elim, fun k o _ hl => (hn k hl).elim, fun k o _ hl => (hn k hl).elim⟩

/-! ### the everyday case: every operation leaves the old blocks as they are -/
structure StA where
  q : Value → Prop
  p : Value → World → Prop
  st : ∀ v w w', Ext w w' → p v w → p v w'
  ex : ∃ v, q v
def phis (l : List (Nat × StA)) (i : Nat) : Option StA := (l.find? fun p => p.1 == i).map (·.2)
def phiE (Φ : Nat → Option StA) (i : Nat) (v : Value) (w : World) : Prop := match Φ i with
  | some A => A.p v w
  | none => True
def qE (Φ : Nat → Option StA) (i : Nat) (v : Value) : Prop := match Φ i with
  | some A => A.q v
  | none => True
def acE (Φ : Nat → Option StA) (i : Nat) : Bool := (Φ i).isSome
theorem phiE_keep {Φ : Nat → Option StA} {w w' : World} (h : Ext w w') (j : Nat) (u : Value) (hj : phiE Φ j u w) : phiE Φ j u w' := by
  unfold phiE at *
  split
  · rename_i A hA; rw [hA] at hj; exact A.st _ _ _ h hj
  · trivial

/-- the walk in the order of the text, from the world w on -/
def wpE (P : Program) (ops : Array Oper) (Q : Exit → Act → World → Prop) (w : World) (Φ : Nat → Option StA) : Nat → List Oper → Act → List (Nat × (World → Prop)) → Prop := wpX P ops Q (fun _ => Ext w) (qE Φ) (phiE Φ) (acE Φ)

section
variable {w : World} {ΦE : Nat → Option StA} {i : Nat} {o : Oper} {rest : List Oper} {a : Act} {fs : List (Nat × (World → Prop))}
theorem wpE_nil (h : ∀ w', Ext w w' → (∀ p ∈ fs, p.2 w') → Q .normal a w') : wpE P ops Q w ΦE i [] a fs := fun _ w' _ hw hf => h w' hw hf
theorem wpE_skip (hw : Region.wanted o (yielded ops a.tmps) = false) (h : wpE P ops Q w ΦE (i + 1) rest (a.put o.dst undef) fs) : wpE P ops Q w ΦE i (o :: rest) a fs := by
  unfold wpE wpX
  rw [if_neg (by simp [hw])]; exact h
/-- an operation that asks nothing of the world -/
theorem wpE_det (hw : Region.wanted o (yielded ops a.tmps) = true) (hac : acE ΦE i = false) (hd : detOp o.op = true)
    (h : ∀ K : Act → Prop, (∀ a, wpE P ops Q w ΦE (i + 1) rest a fs → K a) → o.quiet P a (fun _ => True) K) : wpE P ops Q w ΦE i (o :: rest) a fs := by
  unfold wpE wpX
  rw [if_pos hw, if_neg (by simp [hac])]
  obtain ⟨v, h1, h2⟩ := h _ (fun _ h => h)
  refine ⟨v, fun W _ => ?_, h2⟩
  have y := YieldX.of_quietAt hd (h1 W trivial)
  unfold Oper.quietAt
  rcases y with y | ⟨y, rfl⟩ <;> rw [y] <;> exact ⟨rfl, rfl⟩
/-- an operation that reads -/
theorem wpE_at (hw : Region.wanted o (yielded ops a.tmps) = true) (hac : acE ΦE i = false) (v : Value)
    (h1 : ∀ w', Ext w w' → (∀ p ∈ fs, ancB ops i p.1 = true → p.2 w') → (execOp a.eval o).run P w' = .ok (.value v) w') (h2 : wpE P ops Q w ΦE (i + 1) rest (a.put o.dst v) fs) : wpE P ops Q w ΦE i (o :: rest) a fs := by
  unfold wpE wpX
  rw [if_pos hw, if_neg (by simp [hac])]
  refine ⟨v, fun W ⟨⟨_, _, hW⟩, hf⟩ => ?_, h2⟩
  unfold Oper.quietAt
  rw [h1 W hW hf]
  exact ⟨rfl, rfl⟩
/-- an operation that acts: what it hands back, and in which worlds -/
theorem wpE_act (hw : Region.wanted o (yielded ops a.tmps) = true) (A : StA) (hA : ΦE i = some A)
    (h1 : ∀ w', Ext w w' → (∀ p ∈ fs, ancB ops i p.1 = true → p.2 w') → Oper.acts P o a w' (fun v w'' => Ext w' w'' ∧ A.q v ∧ A.p v w''))
    (h2 : ∀ v, A.q v → wpE P ops Q w ΦE (i + 1) rest (a.put o.dst v) (fs ++ [(i, A.p v)])) : wpE P ops Q w ΦE i (o :: rest) a fs := by
  unfold wpE wpX
  have hac : acE ΦE i = true := by simp [acE, hA]
  have hφ : ∀ v, phiE ΦE i v = A.p v := fun v => by funext W; simp [phiE, hA]
  have hq : ∀ v, qE ΦE i v = A.q v := fun v => by simp [qE, hA]
  rw [if_pos hw, if_pos hac]
  refine ⟨fun _ W _ hW hf => ?_, by obtain ⟨v, hv⟩ := A.ex; exact ⟨v, by rw [hq]; exact hv⟩, fun v hv => by rw [hφ]; exact h2 v (by rw [hq] at hv; exact hv)⟩
  have := h1 W hW hf
  unfold Oper.acts at *
  generalize (execOp a.eval o).run P W = r at *
  have conv : ∀ v w'', Ext W w'' ∧ A.q v ∧ A.p v w'' → Ext w w'' ∧ (qE ΦE i v ∧ phiE ΦE i v w'') ∧ ∀ j u, j ≠ i → ancB ops j i = false → phiE ΦE j u W → phiE ΦE j u w'' := fun v w'' h => ⟨hW.trans h.1, ⟨by rw [hq]; exact h.2.1, by rw [hφ]; exact h.2.2⟩, fun j u _ _ hj => phiE_keep h.1 j u hj⟩
  cases r with
  | ok n w' =>
    cases n <;> simp only [Oper.actsUpon] at this ⊢
    case value u => exact conv _ _ this
    case skip => exact conv _ _ this
    case enter f args => exact this.mono fun e w'' ⟨v, he, hr⟩ => ⟨v, he, conv _ _ hr⟩
  | halt x w' => simp only [Oper.actsUpon] at this
end

/-- **A region that draws its order and leaves the old blocks as they are, walked once.** 'Φ': of each operation that acts, what its value is like, in whatever world that grows out of the one it was made in. -/
theorem wp_region_E {id : Nat} {l : List Oper} {a : Act} {w : World} (Φ : Nat → Option StA) (hm : P.follows .mixedOrders = true) (hF : regionX l.toArray (acE Φ) = true)
    (h : wpE P l.toArray Q w Φ 0 l a []) : (Code.region id l.toArray true).wp P Q a w :=
  wp_region_X (fun _ => Ext w) (qE Φ) (phiE Φ) (acE Φ) hm hF (fun _ _ _ _ h => h) (fun _ => (Ext.refl w).drew) h

/-! ### the same, where one old block may turn besides -/
structure StG (row : Option Nat) where
  q : Value → Prop
  p : Value → World → Prop
  st : ∀ v w w', World.grownBy w w' row → p v w → p v w'
  ex : ∃ v, q v
def phisG {row : Option Nat} (l : List (Nat × StG row)) (i : Nat) : Option (StG row) := (l.find? fun p => p.1 == i).map (·.2)
def phiG {row : Option Nat} (Φ : Nat → Option (StG row)) (i : Nat) (v : Value) (w : World) : Prop := match Φ i with
  | some A => A.p v w
  | none => True
def qG {row : Option Nat} (Φ : Nat → Option (StG row)) (i : Nat) (v : Value) : Prop := match Φ i with
  | some A => A.q v
  | none => True
def acG {row : Option Nat} (Φ : Nat → Option (StG row)) (i : Nat) : Bool := (Φ i).isSome
theorem phiG_keep {row : Option Nat} {Φ : Nat → Option (StG row)} {w w' : World} (h : World.grownBy w w' row) (j : Nat) (u : Value) (hj : phiG Φ j u w) : phiG Φ j u w' := by
  unfold phiG at *
  split
  · rename_i A hA; rw [hA] at hj; exact A.st _ _ _ h hj
  · trivial

/-- the walk in the order of the text, from the world w on -/
def wpG {row : Option Nat} (P : Program) (ops : Array Oper) (Q : Exit → Act → World → Prop) (w : World) (Φ : Nat → Option (StG row)) : Nat → List Oper → Act → List (Nat × (World → Prop)) → Prop := wpX P ops Q (fun _ x => w.grownBy x row) (qG Φ) (phiG Φ) (acG Φ)

section
variable {row : Option Nat} {w : World} {ΦG : Nat → Option (StG row)} {i : Nat} {o : Oper} {rest : List Oper} {a : Act} {fs : List (Nat × (World → Prop))}
theorem wpG_nil (h : ∀ w', World.grownBy w w' row → (∀ p ∈ fs, p.2 w') → Q .normal a w') : wpG P ops Q w ΦG i [] a fs := fun _ w' _ hw hf => h w' hw hf
theorem wpG_skip (hw : Region.wanted o (yielded ops a.tmps) = false) (h : wpG P ops Q w ΦG (i + 1) rest (a.put o.dst undef) fs) : wpG P ops Q w ΦG i (o :: rest) a fs := by
  unfold wpG wpX
  rw [if_neg (by simp [hw])]; exact h
/-- an operation that asks nothing of the world -/
theorem wpG_det (hw : Region.wanted o (yielded ops a.tmps) = true) (hac : acG ΦG i = false) (hd : detOp o.op = true)
    (h : ∀ K : Act → Prop, (∀ a, wpG P ops Q w ΦG (i + 1) rest a fs → K a) → o.quiet P a (fun _ => True) K) : wpG P ops Q w ΦG i (o :: rest) a fs := by
  unfold wpG wpX
  rw [if_pos hw, if_neg (by simp [hac])]
  obtain ⟨v, h1, h2⟩ := h _ (fun _ h => h)
  refine ⟨v, fun W _ => ?_, h2⟩
  have y := YieldX.of_quietAt hd (h1 W trivial)
  unfold Oper.quietAt
  rcases y with y | ⟨y, rfl⟩ <;> rw [y] <;> exact ⟨rfl, rfl⟩
/-- an operation that reads -/
theorem wpG_at (hw : Region.wanted o (yielded ops a.tmps) = true) (hac : acG ΦG i = false) (v : Value)
    (h1 : ∀ w', World.grownBy w w' row → (∀ p ∈ fs, ancB ops i p.1 = true → p.2 w') → (execOp a.eval o).run P w' = .ok (.value v) w') (h2 : wpG P ops Q w ΦG (i + 1) rest (a.put o.dst v) fs) : wpG P ops Q w ΦG i (o :: rest) a fs := by
  unfold wpG wpX
  rw [if_pos hw, if_neg (by simp [hac])]
  refine ⟨v, fun W ⟨⟨_, _, hW⟩, hf⟩ => ?_, h2⟩
  unfold Oper.quietAt
  rw [h1 W hW hf]
  exact ⟨rfl, rfl⟩
/-- an operation that acts: what it hands back, and in which worlds -/
theorem wpG_act (hw : Region.wanted o (yielded ops a.tmps) = true) (A : StG row) (hA : ΦG i = some A)
    (h1 : ∀ w', World.grownBy w w' row → (∀ p ∈ fs, ancB ops i p.1 = true → p.2 w') → Oper.acts P o a w' (fun v w'' => World.grownBy w' w'' row ∧ A.q v ∧ A.p v w''))
    (h2 : ∀ v, A.q v → wpG P ops Q w ΦG (i + 1) rest (a.put o.dst v) (fs ++ [(i, A.p v)])) : wpG P ops Q w ΦG i (o :: rest) a fs := by
  unfold wpG wpX
  have hac : acG ΦG i = true := by simp [acG, hA]
  have hφ : ∀ v, phiG ΦG i v = A.p v := fun v => by funext W; simp [phiG, hA]
  have hq : ∀ v, qG ΦG i v = A.q v := fun v => by simp [qG, hA]
  rw [if_pos hw, if_pos hac]
  refine ⟨fun _ W _ hW hf => ?_, by obtain ⟨v, hv⟩ := A.ex; exact ⟨v, by rw [hq]; exact hv⟩, fun v hv => by rw [hφ]; exact h2 v (by rw [hq] at hv; exact hv)⟩
  have := h1 W hW hf
  unfold Oper.acts at *
  generalize (execOp a.eval o).run P W = r at *
  have conv : ∀ v w'', World.grownBy W w'' row ∧ A.q v ∧ A.p v w'' → World.grownBy w w'' row ∧ (qG ΦG i v ∧ phiG ΦG i v w'') ∧ ∀ j u, j ≠ i → ancB ops j i = false → phiG ΦG j u W → phiG ΦG j u w'' := fun v w'' h => ⟨World.grownBy.trans hW h.1, ⟨by rw [hq]; exact h.2.1, by rw [hφ]; exact h.2.2⟩, fun j u _ _ hj => phiG_keep h.1 j u hj⟩
  cases r with
  | ok n w' =>
    cases n <;> simp only [Oper.actsUpon] at this ⊢
    case value u => exact conv _ _ this
    case skip => exact conv _ _ this
    case enter f args => exact this.mono fun e w'' ⟨v, he, hr⟩ => ⟨v, he, conv _ _ hr⟩
  | halt x w' => simp only [Oper.actsUpon] at this
end

/-- **A region that draws its order and leaves the old blocks as they are, walked once.** 'Φ': of each operation that acts, what its value is like, in whatever world that grows out of the one it was made in. -/
theorem wp_region_G {row : Option Nat} {id : Nat} {l : List Oper} {a : Act} {w : World} (Φ : Nat → Option (StG row)) (hm : P.follows .mixedOrders = true) (hF : regionX l.toArray (acG Φ) = true)
    (h : wpG P l.toArray Q w Φ 0 l a []) : (Code.region id l.toArray true).wp P Q a w :=
  wp_region_X (fun _ x => w.grownBy x row) (qG Φ) (phiG Φ) (acG Φ) hm hF (fun _ _ _ _ h => h) (fun _ => ⟨rfl, rfl, rfl, Nat.le_refl _, fun _ _ _ => rfl⟩) h

/-! ### reads, then one tail that writes: the reads by 'go_big_quiet_step' -/
theorem wpStill_of_quiet {w : World} {Q : Act → Prop} : ∀ (l : List Oper) (a : Act), (l.all fun o => detOp o.op) = true → wpQuiet P ops (fun w' => ∃ n, w' = w.drewN n) Q l a → wpStill P ops w Q l a
  | [], _, _, h => h
  | o :: rest, a, hd, h => by
    simp only [List.all_cons, Bool.and_eq_true] at hd
    unfold wpQuiet at h
    unfold wpStill
    split
    · rename_i hw
      rw [if_pos hw] at h
      obtain ⟨v, h1, h2⟩ := h
      have y := YieldX.of_quietAt hd.1 (h1 w ⟨0, rfl⟩)
      unfold Oper.still
      rcases y with y | ⟨y, rfl⟩ <;> rw [y]
      · exact ⟨rfl, wpStill_of_quiet rest _ hd.2 h2⟩
      · exact ⟨rfl, wpStill_of_quiet rest _ hd.2 h2⟩
    · rename_i hw
      rw [if_neg hw] at h
      exact wpStill_of_quiet rest _ hd.2 h
theorem wp_region_quiet_tail {id : Nat} {l : List Oper} {a : Act} {w : World} (n : Nat) (hm : P.follows .mixedOrders = true) (hB : Region.lexTailB .any l.toArray n = true) (hd : ((l.take n).all fun o => detOp o.op) = true)
    (h : wpQuiet P l.toArray (fun w' => ∃ k, w' = w.drew.drewN k) (fun a' => wpList P l.toArray Q (l.drop n) a' w.drew) (l.take n) a) : (Code.region id l.toArray true).wp P Q a w :=
  wp_region_still_tail n hm hB (wpStill_of_quiet _ _ hd h)

end
end Go.Proofs.Ytjhpdcfhdpnloaa
