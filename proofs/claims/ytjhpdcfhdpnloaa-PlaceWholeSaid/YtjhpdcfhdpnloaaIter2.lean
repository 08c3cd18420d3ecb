/- place.all, slices.AppendSeq, slices.Collect, slices.Sorted over it, and place.Merge. Lists that are read as data. -/
import Derived.Test.YtjhpdcfhdpnloaaMerge
import Derived.Test.YtjhpdcfhdpnloaaLaws
import Derived.Test.YtjhpdcfhdpnloaaShelf
import Derived.Sort.OwnSorted
namespace Go.Proofs.Ytjhpdcfhdpnloaa
open Go.RowKit Go.Shelf Go.Sort
attribute [local go_sem] Oper.semAt_some

/-! ### append onto an owned row, inside a fence; a box that holds an owned row -/
theorem wpListIn_append_T {F : Fence} {n : Nat} {P : Program} {ops : Array Oper} {rest : List Oper} {o : Oper} {a : Act} {W : World} {Q : Exit → Act → World → Prop} (hgd : o.guard = none) (s x : Operand) (t : TypeId) (ho : o.op = appendOp s x t)
    {lo l h m c : Nat} {e : TypeId} {z : Value} {bytes : Nat} {T : Value → Prop} {v : Value} {xs news : List Value} {A : Option Addr} (hs : a.eval s = v) (hx : a.eval x = .slice A m c)
    (hown : Own W lo e 1 T v xs) (ht : P.underlying t = some (.slice e)) (hinfo : (P.info? e).map (fun i => (i.zero, i.size, i.bytes)) = some (some z, 1, bytes)) (hz : z.cells = #[z]) (hT : T z)
    (hr : Rd W l h A news) (hl : news.length = m) (h1 : ∀ u ∈ news, u.oneCell' = true) (hbytes : (xs.length + m) * bytes ≤ 140737488355328) (hmax : xs.length + m ≤ maxLen) (hlo : lo ≤ W.heap.size)
    (k : ∀ v' w', Own w' lo e 1 T v' (xs ++ news) → W.grownBy w' v.ownBlock → wpListIn F n P ops Q rest (a.put o.dst v') w') : wpListIn F n P ops Q (o :: rest) a W := by
  refine wpListIn_plain hgd fun K hK' => ?_
  obtain ⟨v', w', hrun, h2, h3, h4, _⟩ := append_own (P := P) (ty := o.type) (c := c) hown ht hinfo hz hT hr hl h1 hbytes hmax hlo
  unfold Oper.wpIn
  refine ⟨?_, ?_⟩
  · simp [Oper.about, ho, appendOp, resolve, Target.leads, Sem.run_pure]
  · rw [Oper.semAt_plain F _ _ (by rw [ho]; intro c hc'; cases hc')]
    simp [execOp, ho, appendOp, resolve, invoke, builtin, hs, hx, hrun, Result.andThen]
    exact hK' _ _ (k v' w' h2 h3)
theorem Own.cons_form {w : World} {lo : Nat} {e : TypeId} {T : Value → Prop} {v : Value} {xs : List Value} (h : Own w lo e 1 T v xs) (hne : xs ≠ []) : ∃ g cap, v = .slice (some ⟨g, 0, none⟩) xs.length cap := by
  rcases h with ⟨rfl, rfl⟩ | ⟨g, n, cap, sp, rfl, _, _, h3, _⟩
  · exact absurd rfl hne
  · exact ⟨g, cap, by rw [h3, Nat.mul_one]⟩
theorem boxed_not_own {W : World} {B : Nat} {t e : TypeId} {u : Value} (h : Boxed W B t u) (hte : t ≠ e) {lo size : Nat} {T : Value → Prop} {v : Value} {xs : List Value} (hr : Own W lo e size T v xs) : some B ≠ v.ownBlock := by
  rcases hr with ⟨rfl, _⟩ | ⟨g, n, cap, sp, rfl, _, hgb, _⟩
  · simp [Value.ownBlock]
  · intro e'
    obtain rfl : B = g := by simpa [Value.ownBlock] using e'
    have := (show W.heap[B]? = _ from h).symm.trans hgb
    simp at this
    exact hte this.2
theorem own_grown {w w' : World} {lo : Nat} {e : TypeId} {size : Nat} {T : Value → Prop} {v : Value} {xs : List Value} {row : Option Nat} (h : Own w lo e size T v xs) (hg : w.grownBy w' row) (hne : ∀ g, v.ownBlock = some g → some g ≠ row) : Own w' lo e size T v xs :=
  h.keep fun g hgv => hg.block g (h.lt g hgv).2 (hne g hgv)
theorem own_not_obj {W : World} {lo : Nat} {e : TypeId} {size : Nat} {T : Value → Prop} {v : Value} {xs : List Value} (h : Own W lo e size T v xs) {g : Nat} (hg : v.ownBlock = some g) {o : Obj} (ho : W.heap[g]? = some o) : o.isCells = true := by
  rcases h with ⟨rfl, _⟩ | ⟨g', n, cap, sp, rfl, _, hgb, _⟩
  · simp [Value.ownBlock] at hg
  · obtain rfl : g' = g := by simpa [Value.ownBlock] using hg
    rw [show W.heap[g']? = _ from hgb] at ho; cases ho; rfl
theorem holdsT_own {β : Type} (n₀ B : Nat) (t e : TypeId) (size : Nat) (T : Value → Prop) (f : β → List Value) : Go.Own (fun (s : β) W => ∃ v, Boxed W B t v ∧ Own W n₀ e size T v (f s)) := by
  rintro s X Y row ⟨v, hv, hr⟩ hg hrow
  refine ⟨v, hv.kept hg (fun e' => ?_), own_grown hr hg fun g hgv e' => ?_⟩
  · obtain ⟨o, ho, hc⟩ := hrow B e'.symm
    rw [show X.heap[B]? = _ from hv] at ho; cases ho; cases hc
  · obtain ⟨o, ho, hc⟩ := hrow g e'.symm
    rw [own_not_obj hr hgv ho] at hc; cases hc
theorem own_putObj {W : World} {lo : Nat} {e : TypeId} {size : Nat} {T : Value → Prop} {v : Value} {xs : List Value} (h : Own W lo e size T v xs) {l : Nat} {o : Obj} (o' : Obj) (hl : W.heap[l]? = some o) (ho : o.isCells = false) : Own (W.putObj l o') lo e size T v xs :=
  own_grown h (grownBy_putObj' W l o') fun g hg e' => by
    cases e'
    rw [own_not_obj h hg hl] at ho; cases ho
theorem boxed_appendedT {W w1 : World} {n₀ B : Nat} {t e : TypeId} {size : Nat} {T : Value → Prop} {v v' : Value} {xs ys : List Value} {tmp : Obj}
    (hv : Boxed W B t v) (hte : t ≠ e) (hrow : Own W n₀ e size T v xs) (hn₀ : n₀ ≤ W.heap.size) (hB : n₀ ≤ B)
    (hown' : Own w1 n₀ e size T v' ys) (hgrow : (W.alloc tmp).grownBy w1 v.ownBlock) :
    Boxed w1 B t v ∧ Boxed (w1.setCell ⟨B, 0, none⟩ v') B t v' ∧ Own (w1.setCell ⟨B, 0, none⟩ v') n₀ e size T v' ys ∧ KeepsOthers W (w1.setCell ⟨B, 0, none⟩ v') ∧ Below n₀ W (w1.setCell ⟨B, 0, none⟩ v') := by
  have hv1 : Boxed w1 B t v := (hv.alloc tmp).kept hgrow (boxed_not_own hv hte hrow)
  refine ⟨hv1, hv1.set v', own_grown hown' (grownBy_setCell' w1 B v') (fun g hg e' => boxed_not_own hv1 hte hown' (by rw [hg, e'])), ?_, ?_⟩
  · refine ((KeepsOthers.alloc W tmp).trans (KeepsOthers.of_grownBy hgrow fun j o ej hj => ?_)).trans (KeepsOthers.setCell _ _ _)
    exact own_not_obj (hrow.alloc tmp) ej hj
  · refine (((Below.refl n₀ W).alloc hn₀ tmp).grown hgrow (by simp; omega) fun j ej => (hrow.lt j ej).1).setCell (p := ⟨B, 0, none⟩) hB v'

/-! ### place.all -/
set_option maxHeartbeats 1000000 in
theorem all_in (F : Fence) (n : Nat) (h20 : F.fn 20) (hro : F.round = none) (A : Option Addr) (len cap : Nat) (w : World) :
    CallsIn F n Try.prog 20 #[.slice A len cap] w fun e w' => e = .returned (.func (.func 26) #[] #[.pointer (some ⟨w.heap.size, 0, none⟩)]) ∧ w' = w.alloc (.cells #[.slice A len cap] 22) := by
  refine callsIn_of_wp Try.func20 rfl h20 ?_ hro
  simp only [Try.ntmps20, List.size_toArray, List.length_cons, List.length_nil, Nat.reduceAdd, Nat.reduceSub, Array.replicate_succ, Array.replicate_zero, List.push_toArray, List.append_toArray, List.nil_append, List.cons_append]
  gi_wp2
  go_ret
  exact ⟨rfl, rfl⟩
theorem all_stops (F : Fence) (n : Nat) (h26 : F.fn 26) (hro : F.round = none) (hn : 1 ≤ n) (Bs n₀ : Nat) (A : Option Addr) (len cap : Nat) (ls : List (List Text)) (hlen : len ≤ 1000000) (w : World) (hBs : Bs < w.heap.size) (hn₀ : n₀ ≤ w.heap.size)
    (hc : w.cell? ⟨Bs, 0, none⟩ = some (.slice A len cap)) (hL : Lists w n₀ A len ls) :
    SeqStopsK F n Try.prog 26 #[.pointer (some ⟨Bs, 0, none⟩)] (fun x : Text => #[encT x]) (Below n₀) (fun ys => ys = ls.flatten) (fun _ => True) ls.flatten.length w := fun l J Jx W hW _ _ hY h0 =>
  all1_in F n h26 hro hn l Bs n₀ A len cap ls hlen J Jx hY W ((hW.cell (p := ⟨Bs, 0, none⟩) hBs).trans hc) (hL.below hW hn₀) h0

set_option maxRecDepth 100000 in
set_option maxHeartbeats 2000000 in
theorem appendSeq_in (F : Fence) (n : Nat) (h30 : F.fn 30) (hro : F.round = none) (hn : 3 ≤ n) (g : Nat) (lb : Array Value) (hFg : F.fn g) (eg : ∀ args w, (callFunc g args).run Try.prog w = .ok (.enter g args) w)
    (xs : List Text) (hlen : xs.length ≤ 1000000) (w : World) (n₀ : Nat) (hn₀ : n₀ ≤ w.heap.size)
    (hseq : SeqStopsK F (n - 1) Try.prog g lb (fun x : Text => #[encT x]) (Below n₀) (fun ys => ys = xs) (fun _ => True) xs.length w) :
    CallsIn F n Try.prog 30 #[.slice none 0 0, .func (.func g) #[] lb] w fun e W' => ∃ v, e = .returned v ∧ Own W' w.heap.size 9 1 IsStr v (strs xs) ∧ Below w.heap.size w W' := by
  have h1 : 1 ≤ n := by omega
  refine callsIn_of_wp_marks Try.func30 rfl h30 ?_ hro
  simp only [Try.ntmps30, List.size_toArray, List.length_cons, List.length_nil, Nat.reduceAdd, Nat.reduceSub, Array.replicate_succ, Array.replicate_zero, List.push_toArray, List.append_toArray, List.nil_append, List.cons_append]
  gi_wp2
  have bO := Boxed.new w 24 (.slice none 0 0)
  have hB0 : Below w.heap.size w (w.alloc (.cells #[.slice none 0 0] 24)) := (Below.refl _ w).alloc (Nat.le_refl _) _
  refine wpIn_rangeFunc_ownG hro h1 (gf := g) (lb := lb) rfl hFg eg hseq belowK_t (belowK_b (by simp; omega)) hB0 (fun _ => rfl)
    (fun pre W => (∃ v, Boxed W w.heap.size 24 v ∧ Own W w.heap.size 9 1 IsStr v (strs pre)) ∧ Below w.heap.size w W)
    (fun _ _ _ => False)
    (OwnFrom.and (Own.from (holdsT_own w.heap.size w.heap.size 24 9 1 IsStr (fun pre => strs pre)) _) (ownFrom_below (Nat.le_refl _) (by simp)))
    (fun _ _ _ _ _ hs _ _ => hs)
    ⟨⟨_, bO, Own.nil _ _ _ _ _⟩, hB0⟩
    (fun x => { tmps := #[.slice none 0 0, .func (.func g) #[] lb, .pointer (some ⟨w.heap.size, 0, none⟩), undef, .slice none 0 0, .string ⟨x.toArray⟩, .func (.func g) #[] lb, .string ⟨x.toArray⟩, undef, undef, undef, undef, undef], defers := [] }) ?assign ?body ?done ?stop
  case assign =>
    intro l x W K hK
    gi_wp2
    exact hK
  case body =>
    rintro l pre x W ⟨⟨v, hv, hrow⟩, hB⟩ hlt
    have hc := hv.cell
    have hlp : (strs pre).length = pre.length := strs_length pre
    have HL := Lib.hid hlp
    clear hlp
    gi_wp2_with (gi_at_builtin; go_loud (refine wpListIn_append_T rfl _ _ 24 rfl rfl rfl (hrow.alloc _) Try.underlying24 Try.infoStr rfl ⟨[], rfl, by simp⟩ (rd_one W 9 (.string ⟨x.toArray⟩)) rfl (by simp [Value.oneCell']) (by have := HL.out; omega) (by have := HL.out; unfold maxLen; omega) (by have := hB.size; simp; omega) ?_); intro v' w1 hown' hgrow; obtain ⟨g', cap', rfl⟩ := hown'.cons_form (by simp); obtain ⟨hv1, hv2, hr2, hk2, hb2⟩ := boxed_appendedT hv (by decide) hrow hB.size (Nat.le_refl _) hown' hgrow; have hc1 := hv1.cell; have hf1 := hv1.frozen)
    have eL : (strs pre ++ [Value.string ⟨x.toArray⟩]).length = (strs pre).length + 1 := by simp
    rw [eL] at hk2 hb2 hv2 hr2
    exact ⟨hk2.from _, hb2.mono hn₀, ⟨_, hv2, by simpa [strs] using hr2⟩, hB.trans hb2⟩
  case done =>
    rintro D ys W hD rfl ⟨⟨v, hv, hrow⟩, hB⟩ hK
    have hc := hv.cell
    gi_wp2
    refine ⟨by simp, .inl ⟨_, _, rfl, run_takeDeferred hK, ?_⟩⟩
    exact ⟨_, results_tmp rfl _ _ _, v, rfl, own_putObj hrow _ hK rfl, hB.trans (belowK_b (w := w) (Nat.le_refl _) W D _ _ (by simp at hD; omega) hK rfl rfl)⟩
  case stop =>
    rintro D c pre W _ _ h _
    exact h.elim
end Go.Proofs.Ytjhpdcfhdpnloaa
