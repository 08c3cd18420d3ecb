/- place.Parts and stowageref13.Parts: which of some paths each set has. Texts that are read as data. -/
import Derived.Test.YtjhpdcfhdpnloaaPlaceM
namespace Go.Proofs.Ytjhpdcfhdpnloaa
open Go.RowKit
attribute [local go_sem] Oper.acts Oper.actsUpon

/-! ### rows that the call owns, in a row of its own -/
structure RowsOf (w : World) (lo g : Nat) (vs : List Value) (ps : List (List Text)) : Prop where
  blk : Blk w g 24 vs
  len : vs.length = ps.length
  own : ∀ (i : Nat) (v : Value) (p : List Text), vs[i]? = some v → ps[i]? = some p → Own w lo 9 1 IsStr v (strs p)
  apart : ∀ (i j : Nat) (v u : Value) (b : Nat), i ≠ j → vs[i]? = some v → vs[j]? = some u → v.ownBlock = some b → u.ownBlock ≠ some b
theorem own_nil_one (w : World) (lo : Nat) (e : TypeId) (size : Nat) (T : Value → Prop) : Own w lo e size T (.slice none 0 0) [] := Own.nil _ _ _ _ _
theorem RowsOf.keep {w w' : World} {lo g : Nat} {vs : List Value} {ps : List (List Text)} (h : RowsOf w lo g vs ps) (hg : w'.heap[g]? = w.heap[g]?) (hk : ∀ (i : Nat) (v : Value), vs[i]? = some v → ∀ b, v.ownBlock = some b → w'.heap[b]? = w.heap[b]?) : RowsOf w' lo g vs ps :=
  ⟨hg.trans h.blk, h.len, fun i v p hv hp => (h.own i v p hv hp).keep (hk i v hv), h.apart⟩
theorem RowsOf.ext {w w' : World} {lo g : Nat} {vs : List Value} {ps : List (List Text)} (h : RowsOf w lo g vs ps) (hx : Ext w w') : RowsOf w' lo g vs ps :=
  h.keep (hx.block g h.blk.lt) fun i v hv b hb => by
    have hi := (List.getElem?_eq_some_iff.1 hv).1
    have := (h.own i v (ps[i]'(by rw [← h.len]; exact hi)) hv (by simp)).lt b hb
    exact hx.block b this.2
theorem RowsOf.ne_g {w : World} {lo g : Nat} {vs : List Value} {ps : List (List Text)} (h : RowsOf w lo g vs ps) {i : Nat} {v : Value} (hv : vs[i]? = some v) : v.ownBlock ≠ some g := by
  have hi := (List.getElem?_eq_some_iff.1 hv).1
  exact blk_ne_own h.blk (by decide) (h.own i v (ps[i]'(by rw [← h.len]; exact hi)) hv (by simp))
theorem rows_new (w : World) (m lo : Nat) : RowsOf (w.alloc (.cells (List.replicate m (.slice none 0 0)).toArray 24)) lo w.heap.size (List.replicate m (.slice none 0 0)) (List.replicate m []) := by
  refine ⟨?_, by simp, fun i v p hv hp => ?_, fun i j v u b _ hv _ hb => ?_⟩
  · have := Blk.new w 24 (List.replicate m (Value.slice none 0 0)).toArray
    simpa using this
  · obtain rfl := (List.mem_replicate.1 (List.mem_of_getElem? hv)).2
    obtain rfl := (List.mem_replicate.1 (List.mem_of_getElem? hp)).2
    exact Own.nil _ _ _ _ _
  · obtain rfl := (List.mem_replicate.1 (List.mem_of_getElem? hv)).2
    cases hb
theorem rows_step {w w1 : World} {lo g i : Nat} {vs : List Value} {ps : List (List Text)} {v v' : Value} {p p' : List Text} {tmp : Obj} (h : RowsOf w lo g vs ps) (hv : vs[i]? = some v) (hp : ps[i]? = some p)
    (hown : Own w1 lo 9 1 IsStr v' (strs p')) (hg : (w.alloc tmp).grownBy w1 v.ownBlock) (hnew : v'.ownBlock = v.ownBlock ∨ v'.ownBlock = some (w.heap.size + 1)) :
    RowsOf (w1.setCell ⟨g, i, none⟩ v') lo g (vs.set i v') (ps.set i p') := by
  have hb1 : Blk w1 g 24 vs := (h.blk.alloc tmp).grown hg (h.ne_g hv)
  have hi := (List.getElem?_eq_some_iff.1 hv).1
  have hlt : ∀ (j : Nat) (u : Value), vs[j]? = some u → ∀ b, u.ownBlock = some b → b < w.heap.size := fun j u hu b hb => by
    have hj := (List.getElem?_eq_some_iff.1 hu).1
    exact ((h.own j u (ps[j]'(by rw [← h.len]; exact hj)) hu (by simp)).lt b hb).2
  have hget : ∀ (j : Nat) (u : Value), (vs.set i v')[j]? = some u → (j = i ∧ u = v') ∨ (j ≠ i ∧ vs[j]? = some u) := fun j u hu => by
    by_cases hj : i = j
    · subst hj
      rw [List.getElem?_set_self hi] at hu
      cases hu; exact .inl ⟨rfl, rfl⟩
    · rw [List.getElem?_set_ne hj] at hu
      exact .inr ⟨fun e => hj e.symm, hu⟩
  have hset : ∀ b, b ≠ g → (w1.setCell ⟨g, i, none⟩ v').heap[b]? = w1.heap[b]? := fun b hb => Below.heap_setCell w1 ⟨g, i, none⟩ v' b hb
  have hne' : v'.ownBlock ≠ some g := blk_ne_own hb1 (by decide) hown
  refine ⟨hb1.set_ i v', by simp [h.len], fun j u q hu hq => ?_, fun j k u t b hjk hu ht hb => ?_⟩
  · rcases hget j u hu with ⟨rfl, rfl⟩ | ⟨hj, hu⟩
    · have hip : j < ps.length := by rw [← h.len]; exact hi
      rw [List.getElem?_set_self hip] at hq
      cases hq
      exact hown.keep fun b hb => hset b (fun e => hne' (by rw [hb, e]))
    · rw [List.getElem?_set_ne (fun e => hj e.symm)] at hq
      refine (h.own j u q hu hq).keep fun b hb => ?_
      rw [hset b (fun e => h.ne_g hu (by rw [hb, e])), hg.block b (by rw [size_alloc]; have := hlt j u hu b hb; omega) (fun e => h.apart j i u v b hj hu hv hb e.symm)]
      exact Below.heap_alloc w tmp b (hlt j u hu b hb)
  · rcases hget j u hu with ⟨rfl, rfl⟩ | ⟨hj, hu2⟩
    · rcases hget k t ht with ⟨rfl, rfl⟩ | ⟨hk, ht⟩
      · exact absurd rfl hjk
      · intro hb'
        have := hlt k t ht b hb'
        rcases hnew with e | e
        · rw [e] at hb
          exact h.apart j k v t b hjk hv ht hb hb'
        · rw [e] at hb
          cases hb; omega
    · rcases hget k t ht with ⟨rfl, rfl⟩ | ⟨hk, ht⟩
      · intro hb'
        have := hlt j u hu2 b hb
        rcases hnew with e | e
        · rw [e] at hb'
          exact h.apart j k u v b hjk hu2 hv hb hb'
        · rw [e] at hb'
          cases hb'; omega
      · exact h.apart j k u t b hjk hu2 ht hb

theorem rows_put {w x : World} {lo g i : Nat} {vs : List Value} {ps : List (List Text)} {v v' : Value} {p p' : List Text} (h : RowsOf w lo g vs ps) (hv : vs[i]? = some v) (hp : ps[i]? = some p)
    (hc : Chg (fun b => b = g ∨ v.ownBlock = some b) w x) (hown : Own x lo 9 1 IsStr v' (strs p')) (hnew : v'.ownBlock = v.ownBlock ∨ ∀ b, v'.ownBlock = some b → w.heap.size ≤ b) (hb : Blk x g 24 (vs.set i v')) :
    RowsOf x lo g (vs.set i v') (ps.set i p') := by
  have hi := (List.getElem?_eq_some_iff.1 hv).1
  have hlt : ∀ (j : Nat) (u : Value), vs[j]? = some u → ∀ b, u.ownBlock = some b → b < w.heap.size := fun j u hu b hb => by
    have hj := (List.getElem?_eq_some_iff.1 hu).1
    exact ((h.own j u (ps[j]'(by rw [← h.len]; exact hj)) hu (by simp)).lt b hb).2
  have hget : ∀ (j : Nat) (u : Value), (vs.set i v')[j]? = some u → (j = i ∧ u = v') ∨ (j ≠ i ∧ vs[j]? = some u) := fun j u hu => by
    by_cases hj : i = j
    · subst hj
      rw [List.getElem?_set_self hi] at hu
      cases hu; exact .inl ⟨rfl, rfl⟩
    · rw [List.getElem?_set_ne hj] at hu
      exact .inr ⟨fun e => hj e.symm, hu⟩
  have key : ∀ (j : Nat) (u : Value), j ≠ i → vs[j]? = some u → ∀ b, u.ownBlock = some b → v'.ownBlock ≠ some b := fun j u hj hu b hb' hv' => by
    rcases hnew with e | e
    · rw [e] at hv'
      exact h.apart j i u v b hj hu hv hb' hv'
    · have := e b hv'
      have := hlt j u hu b hb'
      omega
  refine ⟨hb, by simp [h.len], fun j u q hu hq => ?_, fun j k u t b hjk hu ht hb' hb2 => ?_⟩
  · rcases hget j u hu with ⟨rfl, rfl⟩ | ⟨hj, hu⟩
    · have hip : j < ps.length := by rw [← h.len]; exact hi
      rw [List.getElem?_set_self hip] at hq
      cases hq
      exact hown
    · rw [List.getElem?_set_ne (fun e => hj e.symm)] at hq
      refine (h.own j u q hu hq).chg hc fun b hb' => ?_
      rintro (e | e)
      · exact h.ne_g hu (by rw [hb', e])
      · exact h.apart j i u v b hj hu hv hb' e
  · rcases hget j u hu with ⟨rfl, rfl⟩ | ⟨hj, hu2⟩
    · rcases hget k t ht with ⟨rfl, rfl⟩ | ⟨hk, ht⟩
      · exact absurd rfl hjk
      · exact key k t hk ht b hb2 hb'
    · rcases hget k t ht with ⟨rfl, rfl⟩ | ⟨hk, ht⟩
      · exact key j u hj hu2 b hb' hb2
      · exact h.apart j k u t b hjk hu2 ht hb' hb2

/-! ### the parts -/
def setNat (s : Text) (m : Nat) : Nat := (setN s (m : Int)).toNat
theorem setNat_law (s : Text) (m : Nat) (h1 : 1 ≤ m) (h4 : m ≤ 4) (hm : mayB s = true) : setN s (m : Int) = (setNat s m : Int) ∧ setE s (m : Int) = 0 ∧ setNat s m < m := by
  have hb : setB s (m : Int) = true := by simp [setB, hm]; omega
  have e : setN s (m : Int) = hashB (sha s) 8 % (m : Int) := by rw [setN, if_pos hb]
  have h0 : 0 ≤ setN s (m : Int) := by rw [e]; exact Int.emod_nonneg _ (by omega)
  have hlt : setN s (m : Int) < m := by rw [e]; exact Int.emod_lt_of_pos _ (by omega)
  refine ⟨by unfold setNat; omega, by rw [setE, if_pos hb], by unfold setNat; omega⟩
theorem setNot_law (s : Text) (n : Int) (hm : mayB s = false) : setE s n = 2 := by
  rw [setE, if_neg (by simp [setB, hm])]
def partOf (l : List Text) (m i : Nat) : List Text := l.filter fun s => setNat s m == i
theorem partOf_le (l : List Text) (m i : Nat) : (partOf l m i).length ≤ l.length := List.length_filter_le _ _
theorem partOf_mem (l : List Text) (m i : Nat) (s : Text) : s ∈ partOf l m i ↔ s ∈ l ∧ setNat s m = i := by simp [partOf]
def partsF (l : List Text) (m : Nat) : List (List Text) := (List.range m).map fun i => partOf l m i
theorem partsF_nil (m : Nat) : partsF [] m = List.replicate m [] := by
  apply List.ext_getElem
  · simp [partsF]
  · intro i h1 h2; simp [partsF, partOf]
theorem partsF_length (l : List Text) (m : Nat) : (partsF l m).length = m := by simp [partsF]
theorem partsF_get (l : List Text) (m i : Nat) (h : i < m) : (partsF l m)[i]? = some (partOf l m i) := by simp [partsF, h]
theorem partsF_snoc (l : List Text) (s : Text) (m : Nat) (hi : setNat s m < m) : partsF (l ++ [s]) m = (partsF l m).set (setNat s m) (partOf l m (setNat s m) ++ [s]) := by
  apply List.ext_getElem
  · simp [partsF]
  · intro j h1 h2
    have hj : j < m := by simpa [partsF] using h1
    by_cases e : setNat s m = j
    · subst e; simp [partsF, partOf]
    · have e' : (setNat s m == j) = false := by simpa using e
      rw [List.getElem_set_ne e]
      simp [partsF, partOf, e']

set_option maxHeartbeats 2000000 in
theorem parts_go (A : Option Addr) (n c lo hi m : Nat) (l : List Text) (w : World) (hn : n ≤ 10000) (hl : l.length = n) (h1 : 1 ≤ m) (h4 : m ≤ 4) (hr : Rd w lo hi A (strs l)) (hs : ∀ s ∈ l, s.length ≤ 9223372036854775807) :
    Calls Try.prog 14 #[.slice A n c, .int .i64 (m : Int)] w fun e w' => (l.all mayB = true ∧ ∃ vs, e = .returned (.tuple #[.slice (some ⟨w.heap.size, 0, none⟩) m m, .int .i64 0]) ∧ RowsOf w' w.heap.size w.heap.size vs (partsF l m) ∧ Ext w w') ∨ (l.all mayB = false ∧ e = .returned (.tuple #[.slice none 0 0, .int .i64 2]) ∧ Ext w w') := by
  have hmk := run_make_rowN (P := Try.prog) 22 24 (.slice none 0 0) 24 Try.underlying22 Try.infoSliceStr rfl m (by omega) (by omega) (m : Int) rfl w
  have hd1 : decide ((m : Int) < 1) = false := by simp; omega
  have hd4 : decide ((4 : Int) < m) = false := by simp; omega
  have hdn : decide ((10000 : Int) < n) = false := by simp; omega
  have HL := Lib.hid hl; clear hl
  have HS := Lib.hid hs; clear hs
  have hr0 := rows_new w m w.heap.size
  rw [← partsF_nil] at hr0
  have HR0 := Lib.hid hr0; clear hr0
  go_enter Try.func14, Try.ntmps14
  go_wp2_with fail
  have hx0 : Ext w (w.alloc (.cells (List.replicate m (.slice none 0 0)).toArray 24)) := (Ext.refl w).alloc _
  go_loopw [26] (fun i wr => ∃ (k : Nat) (vs : List Value), k ≤ n ∧ i = .int .i64 (k : Int) ∧ Hid (RowsOf wr w.heap.size w.heap.size vs (partsF (l.take k) m)) ∧ Ext w wr ∧ Hid ((l.take k).all mayB = true)) (fun i _ => n - (intOf i).toNat)
  case atStart => exact ⟨0, _, by omega, rfl, by simpa using HR0, hx0, Lib.hid (by simp)⟩
  case round =>
    clear hmk
    obtain ⟨k, vs, hk, rfl, hrows, hx, HA⟩ := hrel
    by_cases hlt : k < n
    · have hkl : k < l.length := by have := HL.out; omega
      obtain ⟨ad, rfl, _, _, hcl⟩ := (hr.ext hx).at_ (strs_get l k hkl)
      have HR := Lib.hid hr; clear hr
      have hsz : l[k].length ≤ 9223372036854775807 := HS.out _ (List.getElem_mem hkl)
      have HT := Lib.hid (show l.take (k + 1) = l.take k ++ [l[k]] from List.take_succ_eq_append_getElem hkl)
      have HF := Lib.hid (show mayB l[k] = false → l.all mayB = false from fun h => by
        rw [List.all_eq_false]; exact ⟨_, List.getElem_mem hkl, by simp [h]⟩)
      generalize l[k] = s at *
      cases hmay : mayB s with
      | false =>
        have HM := Lib.hid hmay; clear hmay
        go_wp2_with (go_at_call 16; refine (set_any s m _ hsz).mono ?_; rw [setNot_law s m HM.out]; rintro _ w2 ⟨rfl, hx2⟩)
        go_ret2
        exact .inr ⟨HF.out HM.out, rfl, hx.trans hx2⟩
      | true =>
        have HMT := Lib.hid (show (l.take (k + 1)).all mayB = true by rw [HT.out, List.all_append, HA.out]; simp [hmay])
        obtain ⟨q1, q2, q3⟩ := setNat_law s m h1 h4 hmay
        clear hmay
        have HQ1 := Lib.hid q1; clear q1
        have HQ2 := Lib.hid q2; clear q2
        have HP := Lib.hid (partsF_snoc (l.take k) s m q3)
        have HG := Lib.hid (partsF_get (l.take k) m _ q3)
        generalize hi0 : setNat s m = i0 at *
        clear hi0
        have hiv : i0 < vs.length := by rw [hrows.out.len, partsF_length]; exact q3
        have hvi : vs[i0]? = some vs[i0] := List.getElem?_eq_getElem hiv
        have hown0 := hrows.out.own i0 _ _ hvi HG.out
        have HV := Lib.hid hvi; clear hvi
        generalize vs[i0] = v0 at *
        obtain ⟨A0, n0, c0, rfl, hl0, hnc0, hcm0, _⟩ := hown0.form
        have HL0 := Lib.hid (show n0 ≤ 10000 by
          rw [strs_length] at hl0
          have := partOf_le (l.take k) m i0
          rw [List.length_take] at this
          omega)
        have HLN := Lib.hid (show (strs (partOf (l.take k) m i0)).length = n0 from hl0.trans (Nat.mul_one n0))
        clear hl0
        go_wp2_with (first
          | (go_at_call 16; refine (set_any s m _ hsz).mono ?_; rw [HQ1.out, HQ2.out]; rintro _ w2 ⟨rfl, hx2⟩; have hc0 := ((hrows.out.ext hx2).blk).cell_of HV.out)
          | ((with_reducible refine gate (appendOp (.tmp 44) (.tmp 46) 24) rfl ?_); go_loud (refine wpList_append rfl _ _ _ rfl rfl rfl ((hown0.ext hx2).alloc _) Try.underlying24 Try.infoStr rfl ⟨[], rfl, by simp⟩ (rd_one _ _ _) rfl (fun u hu => by simp at hu; subst hu; rfl) (by have := HLN.out; have := HL0.out; omega) (by have := HLN.out; have := HL0.out; unfold maxLen; omega) (by have := (hx.trans hx2).sz; simp; omega) ?_)))
        intro v3 w3 hown3 hg3 hnew3
        obtain ⟨g3, c3, rfl⟩ := hown3.cons_form (by simp)
        have eL : (strs (partOf (l.take k) m i0) ++ [Value.string ⟨s.toArray⟩]).length = n0 + 1 := by rw [List.length_append, HLN.out]; rfl
        rw [eL] at hown3 hnew3
        have e3 : strs (partOf (l.take k) m i0) ++ [Value.string ⟨s.toArray⟩] = strs ((partOf (l.take k) m i0) ++ [s]) := by simp [strs]
        rw [e3] at hown3
        have HR3 := Lib.hid (rows_step (hrows.out.ext hx2) HV.out HG.out hown3 hg3 hnew3)
        rw [← HP.out, ← HT.out] at HR3
        have hb3 : Blk w3 w.heap.size 24 vs := ((hrows.out.ext hx2).blk.alloc _).grown hg3 ((hrows.out.ext hx2).ne_g HV.out)
        have hc3 := hb3.cell_of HV.out
        have hf3 := hb3.frozen i0
        have hx3 : Ext w w3 := ((hx.trans hx2).alloc _).grown hg3 (fun g hg => (hown0.lt g hg).1)
        clear hown3 hg3 hnew3 hb3 e3 hown0 hrows hc0
        rw [eL]
        clear eL
        go_wp2_with fail
        go_roundw
        case rel => exact ⟨k + 1, _, by omega, by go_num, HR3, hx3.set (Nat.le_refl _) _, HMT⟩
        case measure => simp [intOf]; omega
    · obtain rfl : k = n := by omega
      have HT := Lib.hid (show l.take k = l from List.take_of_length_le (by rw [HL.out]; omega))
      rw [HT.out] at hrows HA
      go_wp2_with fail
      go_ret2
      exact .inl ⟨HA.out, vs, rfl, hrows.out, hx⟩
set_option maxHeartbeats 2000000 in
theorem refParts_go (A : Option Addr) (n c lo hi m : Nat) (l : List Text) (w : World) (hn : n ≤ 10000) (hl : l.length = n) (h1 : 1 ≤ m) (h4 : m ≤ 4) (hr : Rd w lo hi A (strs l)) (hs : ∀ s ∈ l, s.length ≤ 9223372036854775807) :
    Calls Try.prog 15 #[.slice A n c, .int .i64 (m : Int)] w fun e w' => (l.all mayB = true ∧ ∃ vs, e = .returned (.tuple #[.slice (some ⟨w.heap.size, 0, none⟩) m m, .int .i64 0]) ∧ RowsOf w' w.heap.size w.heap.size vs (partsF l m) ∧ Ext w w') ∨ (l.all mayB = false ∧ e = .returned (.tuple #[.slice none 0 0, .int .i64 2]) ∧ Ext w w') := by
  have hmk := run_make_rowN (P := Try.prog) 22 24 (.slice none 0 0) 24 Try.underlying22 Try.infoSliceStr rfl m (by omega) (by omega) (m : Int) rfl w
  have hd1 : decide ((m : Int) < 1) = false := by simp; omega
  have hd4 : decide ((4 : Int) < m) = false := by simp; omega
  have hdn : decide ((10000 : Int) < n) = false := by simp; omega
  have HL := Lib.hid hl; clear hl
  have HS := Lib.hid hs; clear hs
  have hr0 := rows_new w m w.heap.size
  rw [← partsF_nil] at hr0
  have HR0 := Lib.hid hr0; clear hr0
  go_enter Try.func15, Try.ntmps15
  go_wp2_with fail
  have hx0 : Ext w (w.alloc (.cells (List.replicate m (.slice none 0 0)).toArray 24)) := (Ext.refl w).alloc _
  go_loopw [7] (fun i wr => ∃ (k : Nat) (vs : List Value), k ≤ n ∧ i = .int .i64 (k : Int) ∧ Hid (RowsOf wr w.heap.size w.heap.size vs (partsF (l.take k) m)) ∧ Ext w wr ∧ Hid ((l.take k).all mayB = true)) (fun i _ => n - (intOf i).toNat)
  case atStart => exact ⟨0, _, by omega, rfl, by simpa using HR0, hx0, Lib.hid (by simp)⟩
  case round =>
    clear hmk
    obtain ⟨k, vs, hk, rfl, hrows, hx, HA⟩ := hrel
    by_cases hlt : k < n
    · have hkl : k < l.length := by have := HL.out; omega
      obtain ⟨ad, rfl, _, _, hcl⟩ := (hr.ext hx).at_ (strs_get l k hkl)
      have hbl : ad.block < w.heap.size := by
        obtain ⟨ad', e, _, _, h'⟩ := hr.at_ (strs_get l k hkl)
        cases e
        have := World.block_lt_of_cell? _ _ h'
        rwa [block_of_add] at this
      have HR := Lib.hid hr; clear hr
      have hsz : l[k].length ≤ 9223372036854775807 := HS.out _ (List.getElem_mem hkl)
      have HT := Lib.hid (show l.take (k + 1) = l.take k ++ [l[k]] from List.take_succ_eq_append_getElem hkl)
      have HF := Lib.hid (show mayB l[k] = false → l.all mayB = false from fun h => by
        rw [List.all_eq_false]; exact ⟨_, List.getElem_mem hkl, by simp [h]⟩)
      generalize l[k] = s at *
      cases hmay : mayB s with
      | false =>
        have HM := Lib.hid hmay; clear hmay
        go_wp2_with (go_at_call 23; refine (refSet_any s m _ hsz).mono ?_; rw [setNot_law s m HM.out]; rintro _ w2 ⟨rfl, hx2⟩)
        go_ret2
        exact .inr ⟨HF.out HM.out, rfl, hx.trans hx2⟩
      | true =>
        have HMT := Lib.hid (show (l.take (k + 1)).all mayB = true by rw [HT.out, List.all_append, HA.out]; simp [hmay])
        obtain ⟨q1, q2, q3⟩ := setNat_law s m h1 h4 hmay
        clear hmay
        have HQ1 := Lib.hid q1; clear q1
        have HQ2 := Lib.hid q2; clear q2
        have HP := Lib.hid (partsF_snoc (l.take k) s m q3)
        have HG := Lib.hid (partsF_get (l.take k) m _ q3)
        generalize hi0 : setNat s m = i0 at *
        clear hi0
        have hiv : i0 < vs.length := by rw [hrows.out.len, partsF_length]; exact q3
        have hvi : vs[i0]? = some vs[i0] := List.getElem?_eq_getElem hiv
        have hown0 := hrows.out.own i0 _ _ hvi HG.out
        have HV := Lib.hid hvi; clear hvi
        generalize vs[i0] = v0 at *
        obtain ⟨A0, n0, c0, rfl, hl0, hnc0, hcm0, _⟩ := hown0.form
        have HL0 := Lib.hid (show n0 ≤ 10000 by
          rw [strs_length] at hl0
          have := partOf_le (l.take k) m i0
          rw [List.length_take] at this
          omega)
        have HLN := Lib.hid (show (strs (partOf (l.take k) m i0)).length = n0 from hl0.trans (Nat.mul_one n0))
        clear hl0
        go_wp2_with (go_at_call 23; refine (refSet_any s m _ hsz).mono ?_; rw [HQ1.out, HQ2.out]; rintro _ w2 ⟨rfl, hx2⟩)
        have hR2 := Lib.hid (hrows.out.ext hx2)
        have hx12 := hx.trans hx2
        have hcl2 := Lib.hid (hx2.cell_of hcl)
        have hz2 : w.heap.size ≤ w2.heap.size := hx12.sz
        have hgl : w.heap.size < w2.heap.size := hR2.out.blk.lt
        refine wp_region_C (PlanC.mk (fun x => Chg (fun b => b = w.heap.size ∨ (Value.slice A0 n0 c0).ownBlock = some b) w2 x)
            [(11, fun x => Own x w.heap.size 9 1 IsStr (.slice A0 n0 c0) (strs (partOf (l.take k) m i0))), (13, fun x => Blk x w.heap.size 24 vs)]
            [(10, ⟨fun v => ∃ g, v = .slice (some ⟨g, 0, none⟩) 1 1 ∧ w2.heap.size ≤ g, fun v x => ∃ g, v = .slice (some ⟨g, 0, none⟩) 1 1 ∧ w2.heap.size ≤ g ∧ Blk x g 9 [.string ⟨s.toArray⟩], ⟨_, w2.heap.size, rfl, Nat.le_refl _⟩⟩),
              (11, ⟨fun v => ∃ g c, v = .slice (some ⟨g, 0, none⟩) (n0 + 1) c, fun v x => Own x w.heap.size 9 1 IsStr v (strs (partOf (l.take k) m i0 ++ [s])) ∧ (v.ownBlock = (Value.slice A0 n0 c0).ownBlock ∨ ∀ b, v.ownBlock = some b → w2.heap.size ≤ b), ⟨_, 0, 0, rfl⟩⟩),
              (13, ⟨fun v => v = undef, fun _ x => ∃ v3, Blk x w.heap.size 24 (vs.set i0 v3) ∧ Own x w.heap.size 9 1 IsStr v3 (strs (partOf (l.take k) m i0 ++ [s])) ∧ (v3.ownBlock = (Value.slice A0 n0 c0).ownBlock ∨ ∀ b, v3.ownBlock = some b → w2.heap.size ≤ b), ⟨_, rfl⟩⟩)]) (by kernel_rfl) (by kernel_rfl) Chg.drew ?_ ?_
        · intro p hp
          simp only [List.mem_cons, List.not_mem_nil, or_false] at hp
          rcases hp with rfl | rfl
          · exact (hown0.ext hx2).drew
          · exact hR2.out.blk.drew
        (repeat (refine wpC_det (by rfl) (by rfl) (by rfl) (fun K hK => ?_); go_big_quiet_op; refine hK _ ?_; clear hK K))
        have hgs : ∀ (p : Nat × (World → Prop)), p ∈ [(11, fun x => Own x w.heap.size 9 1 IsStr (.slice A0 n0 c0) (strs (partOf (l.take k) m i0))), (13, fun x => Blk x w.heap.size 24 vs)] → p.1 < 14 := fun p hp => by
          simp only [List.mem_cons, List.not_mem_nil, or_false] at hp
          rcases hp with rfl | rfl
          · exact (by decide : 11 < 14)
          · exact (by decide : 13 < 14)
        have HGS := Lib.hid hgs; clear hgs
        refine wpC_at (by rfl) (by rfl) (.slice A0 n0 c0) HGS.out (fun x _ hG _ => exec_load1 rfl rfl Try.underlying24 rfl ((hG _ (List.mem_cons_of_mem _ List.mem_cons_self) (by kernel_rfl)).cell_of HV.out)) ?_
        simp only [Act.put, List.setIfInBounds_toArray, List.set_cons_zero, List.set_cons_succ]
        (repeat (refine wpC_det (by rfl) (by rfl) (by rfl) (fun K hK => ?_); go_big_quiet_op; refine hK _ ?_; clear hK K))
        refine wpC_at (by rfl) (by rfl) (.string ⟨s.toArray⟩) HGS.out (fun x hB _ _ => exec_load1 rfl rfl Try.underlying9 rfl (hB.cell hcl2.out (by
          rw [block_of_add]
          rintro (h | h)
          · omega
          · have := (hown0.lt _ h).1; omega))) ?_
        simp only [Act.put, List.setIfInBounds_toArray, List.set_cons_zero, List.set_cons_succ]
        refine wpC_act (by rfl) _ rfl (by decide) HGS.out (fun x hB hG hf => ?_) ?_
        · refine acts_mono (R' := fun v y => v = .slice (some ⟨x.heap.size, 0, none⟩) 1 1 ∧ y = x.alloc (.cells #[.string ⟨s.toArray⟩] 9)) (by go_simp) ?_
          rintro _ _ ⟨rfl, rfl⟩
          have hxe := (Ext.refl x).alloc (.cells #[.string ⟨s.toArray⟩] 9)
          refine ⟨hB.trans (Chg.of_ext hxe), fun p hp h1 h2 => ?_, ⟨⟨_, rfl, hB.size⟩, _, rfl, hB.size, Blk.new x _ _⟩, PlanC.phi_keep fun p hp h1 h2 u => ?_⟩
          · simp only [List.mem_cons, List.not_mem_nil, or_false] at hp
            rcases hp with rfl | rfl
            · exact fun h => Own.ext h hxe
            · exact fun h => Blk.ext h hxe
          · simp only [List.mem_cons, List.not_mem_nil, or_false] at hp
            rcases hp with rfl | rfl | rfl
            · exact absurd rfl h1
            · exact no_anc h2 (by kernel_rfl)
            · exact no_anc h2 (by kernel_rfl)
        rintro _ ⟨g1, rfl, hg1⟩
        simp only [Act.put, List.setIfInBounds_toArray, List.set_cons_zero, List.set_cons_succ]
        refine wpC_act (by rfl) _ rfl (by decide) HGS.out (fun x hB hG hf => ?_) ?_
        · have hown : Own x w.heap.size 9 1 IsStr (.slice A0 n0 c0) (strs (partOf (l.take k) m i0)) := hG _ List.mem_cons_self (.inl rfl)
          obtain ⟨g2, e2, _, hb2⟩ := hf _ (List.mem_of_getElem? (i := 0) rfl) (by kernel_rfl)
          cases e2
          refine acts_append (.tmp 44) (.tmp 49) 24 rfl rfl rfl hown Try.underlying24 Try.infoStr rfl ⟨[], rfl, by simp⟩ hb2.rd rfl (fun u hu => by simp at hu; subst hu; rfl) (by have := HLN.out; have := HL0.out; omega) (by have := HLN.out; have := HL0.out; unfold maxLen; omega) (by have := hB.size; omega) ?_
          intro v' y hown' hg' hnew'
          obtain ⟨g3, c3, hve⟩ := hown'.cons_form (by simp)
          have eL : (strs (partOf (l.take k) m i0) ++ [Value.string ⟨s.toArray⟩]).length = n0 + 1 := by rw [List.length_append, HLN.out]; rfl
          rw [eL] at hve
          subst hve
          have e3 : strs (partOf (l.take k) m i0) ++ [Value.string ⟨s.toArray⟩] = strs (partOf (l.take k) m i0 ++ [s]) := by simp [strs]
          rw [e3] at hown'
          have hy : Chg (fun b => b = w.heap.size ∨ (Value.slice A0 n0 c0).ownBlock = some b) x y := Chg.of_grown hg' fun b hb => .inr hb
          have hv0 : (Value.slice A0 n0 c0).ownBlock ≠ some w.heap.size := blk_ne_own (hR2.out.blk) (by decide) (hown0.ext hx2)
          refine ⟨hB.trans hy, fun p hp h1 h2 => ?_, ⟨⟨g3, c3, rfl⟩, hown', ?_⟩, PlanC.phi_keep fun p hp h1 h2 u => ?_⟩
          · simp only [List.mem_cons, List.not_mem_nil, or_false] at hp
            rcases hp with rfl | rfl
            · exact absurd rfl h1
            · exact fun h => Blk.grown h hg' hv0
          · rcases hnew' with h | h
            · exact .inl h
            · exact .inr fun b hb => by rw [h] at hb; cases hb; exact hB.size
          · simp only [List.mem_cons, List.not_mem_nil, or_false] at hp
            rcases hp with rfl | rfl | rfl
            · rintro ⟨g4, rfl, hg4, hb4⟩
              exact ⟨g4, rfl, hg4, hb4.grown hg' fun e => by
                have := ((hown0.ext hx2).lt _ e).2
                omega⟩
            · exact absurd rfl h1
            · exact no_anc h2 (by kernel_rfl)
        rintro _ ⟨g3, c3, rfl⟩
        simp only [Act.put, List.setIfInBounds_toArray, List.set_cons_zero, List.set_cons_succ]
        (repeat (refine wpC_det (by rfl) (by rfl) (by rfl) (fun K hK => ?_); go_big_quiet_op; refine hK _ ?_; clear hK K))
        refine wpC_act (by rfl) _ rfl (by decide) HGS.out (fun x hB hG hf => ?_) ?_
        · have hb : Blk x w.heap.size 24 vs := hG _ (List.mem_cons_of_mem _ List.mem_cons_self) (.inl rfl)
          obtain ⟨hown', hnew'⟩ := hf _ (List.mem_of_getElem? (i := 1) rfl) (by kernel_rfl)
          refine acts_store1 rfl rfl rfl rfl rfl (by kernel_rfl) (hb.cell_of HV.out) (hb.frozen i0) ?_
          have hne : (Value.slice (some ⟨g3, 0, none⟩) (n0 + 1) c3).ownBlock ≠ some w.heap.size := blk_ne_own hb (by decide) hown'
          refine ⟨hB.trans (Chg.set_ (.inl (.inl rfl)) _), fun p hp h1 h2 => ?_, ⟨rfl, _, hb.set_ i0 _, hown'.set_ hne _, hnew'⟩, PlanC.phi_keep fun p hp h1 h2 u => ?_⟩
          · simp only [List.mem_cons, List.not_mem_nil, or_false] at hp
            rcases hp with rfl | rfl
            · exact no_anc h2 (by kernel_rfl)
            · exact absurd rfl h1
          · simp only [List.mem_cons, List.not_mem_nil, or_false] at hp
            rcases hp with rfl | rfl | rfl
            · rintro ⟨g4, rfl, hg4, hb4⟩
              exact ⟨g4, rfl, hg4, hb4.far (by show g4 ≠ w.heap.size; omega) _⟩
            · rintro ⟨h3, h4⟩
              exact ⟨h3.set_ (blk_ne_own hb (by decide) h3) _, h4⟩
            · exact absurd rfl h1
        rintro _ rfl
        simp only [Act.put, List.setIfInBounds_toArray, List.set_cons_zero, List.set_cons_succ]
        refine wpC_nil (fun x hB hf => ?_)
        obtain ⟨v3, hb3, hown3, hnew3⟩ := hf _ (List.mem_of_getElem? (i := 2) rfl)
        have HR3 := Lib.hid (rows_put hR2.out HV.out HG.out hB hown3 hnew3 hb3)
        rw [← HP.out, ← HT.out] at HR3
        have hx3 : Ext w x := (Chg.ext (S := fun b => b = w.heap.size ∨ (Value.slice A0 n0 c0).ownBlock = some b) (w := w) (w' := x) ((Chg.of_ext hx12).trans hB) fun b hb h => by
          rcases h with h | h
          · omega
          · have := (hown0.lt b h).1; omega)
        clear hB hf hb3 hown3 hnew3 hown0
        go_wp2_with fail
        go_roundw
        case rel => exact ⟨k + 1, _, by omega, by go_num, HR3, hx3, HMT⟩
        case measure => simp [intOf]; omega
    · obtain rfl : k = n := by omega
      have HT := Lib.hid (show l.take k = l from List.take_of_length_le (by rw [HL.out]; omega))
      rw [HT.out] at hrows HA
      go_wp2_with fail
      go_ret2
      exact .inl ⟨HA.out, vs, rfl, hrows.out, hx⟩
end Go.Proofs.Ytjhpdcfhdpnloaa
