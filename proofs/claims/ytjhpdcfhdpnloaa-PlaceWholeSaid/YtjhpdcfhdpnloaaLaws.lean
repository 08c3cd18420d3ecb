/- Laws of the walk: append onto a row that the call owns, wherever the walk comes to it. No conditions on the program. -/
import Derived.Test.YtjhpdcfhdpnloaaBase
namespace Go.Proofs.Ytjhpdcfhdpnloaa
open Go.RowKit

@[reducible] def appendOp (s x : Operand) (t : TypeId) : Op := .call { callee := .builtin .append, args := #[s, x], argTypes := #[t, t] }
theorem wpList_append {P : Program} {ops : Array Oper} {rest : List Oper} {o : Oper} {a : Act} {W : World} {Q : Exit → Act → World → Prop} (hgd : o.guard = none) (s x : Operand) (t : TypeId) (ho : o.op = appendOp s x t)
    {lo l h m c : Nat} {e : TypeId} {z : Value} {bytes : Nat} {T : Value → Prop} {v : Value} {xs news : List Value} {A : Option Addr} (hs : a.eval s = v) (hx : a.eval x = .slice A m c)
    (hown : Own W lo e 1 T v xs) (ht : P.underlying t = some (.slice e)) (hinfo : (P.info? e).map (fun i => (i.zero, i.size, i.bytes)) = some (some z, 1, bytes)) (hz : z.cells = #[z]) (hT : T z)
    (hr : Rd W l h A news) (hl : news.length = m) (h1 : ∀ u ∈ news, u.oneCell' = true) (hbytes : (xs.length + m) * bytes ≤ 140737488355328) (hmax : xs.length + m ≤ maxLen) (hlo : lo ≤ W.heap.size)
    (k : ∀ v' w', Own w' lo e 1 T v' (xs ++ news) → W.grownBy w' v.ownBlock → (v'.ownBlock = v.ownBlock ∨ v'.ownBlock = some W.heap.size) → wpList P ops Q rest (a.put o.dst v') w') : wpList P ops Q (o :: rest) a W := by
  refine wpList_plain hgd fun K hK => ?_
  obtain ⟨v', w', hrun, h2, h3, h4, _⟩ := append_own (P := P) (ty := o.type) (c := c) hown ht hinfo hz hT hr hl h1 hbytes hmax hlo
  unfold Oper.wp execOp
  simp only [ho, appendOp, resolve, invoke, builtin, Sem.run_bind, Sem.run_pure, Result.andThen_ok, List.map_toArray, List.map_cons, List.map_nil, hs, hx, hrun]
  exact hK _ _ (k v' w' h2 h3 h4)
theorem grown_setRow (w : World) (g : Nat) (cs : Array Value) : w.grownBy (w.setRow g cs) (some g) := ⟨rfl, rfl, rfl, by simp [World.setRow], fun k _ hk => setRow_other w g k cs (fun e => hk (by rw [e]))⟩
theorem wpList_store_row {P : Program} {ops : Array Oper} {rest : List Oper} {o : Oper} {a : Act} {w : World} {Q : Exit → Act → World → Prop} (hgd : o.guard = none) (ty : TypeId) (x y : Operand) (ho : o.op = .store ty x y) (hdst : o.dst = none)
    (g : Nat) (hx : a.eval x = .pointer (some ⟨g, 0, none⟩)) {t : TypeId} {cs cur : List Value} (hy : a.eval y = .agg cs.toArray) (hb : Blk w g t cur)
    (hi : (P.info? ty).map (·.size) = some cs.length) (hl : cur.length = cs.length) (h1 : ∀ v ∈ cs, v.oneCell' = true)
    (h : ∀ w', Blk w' g t cs → w.grownBy w' (some g) → wpList P ops Q rest a w') : wpList P ops Q (o :: rest) a w := by
  refine wpList_plain hgd fun K hK => ?_
  have hrun := run_storeAt_blk (P := P) (ty := ty) hb hi hl h1
  unfold Oper.wp execOp
  simp only [ho, hx, hy, Sem.run_bind, hrun, Result.andThen_ok, Sem.run_pure]
  have e : a.put o.dst undef = a := by rw [hdst]; rfl
  show K (a.put o.dst undef) _
  rw [e]
  exact hK _ _ (h _ (blk_setRow hb) (grown_setRow _ _ _))
theorem rd_one (w : World) (t : TypeId) (u : Value) : Rd (w.alloc (.cells #[u] t)) w.heap.size (w.heap.size + 1) (some ⟨w.heap.size, 0, none⟩) [u] := (Blk.new w t #[u]).rd
theorem Own.ext_grown {a w w' : World} {lo : Nat} {e : TypeId} {size : Nat} {T : Value → Prop} {v : Value} {xs : List Value} (h : Ext a w) (ho : Own w lo e size T v xs) (hlo : a.heap.size ≤ lo) (hg : w.grownBy w' v.ownBlock) : Ext a w' :=
  h.grown hg fun k hk => Nat.le_trans hlo (ho.lt k hk).1
theorem Blk.grown {w w' : World} {g : Nat} {t : TypeId} {cs : List Value} {row : Option Nat} (h : Blk w g t cs) (hg : w.grownBy w' row) (hne : row ≠ some g) : Blk w' g t cs := (hg.block g h.lt (fun e => hne e.symm)).trans h
theorem Own.ne_blk {w : World} {lo : Nat} {e : TypeId} {size : Nat} {T : Value → Prop} {v : Value} {xs : List Value} (h : Own w lo e size T v xs) {g : Nat} (hg : g < lo) : v.ownBlock ≠ some g := fun he => by have := (h.lt g he).1; omega
theorem Rd.grown {w w' : World} {lo hi : Nat} {A : Option Addr} {xs : List Value} {row : Option Nat} (h : Rd w lo hi A xs) (hg : w.grownBy w' row) (hr : ∀ k, row = some k → hi ≤ k) : Rd w' lo hi A xs := by
  have h' := h.size_
  refine Rd.mono (h'.keep fun p _ hp => World.cell?_of_block (hg.block p.block (by omega) (fun e => ?_))) (Nat.le_refl _) (Nat.min_le_left _ _)
  have := hr _ e.symm
  omega
end Go.Proofs.Ytjhpdcfhdpnloaa
