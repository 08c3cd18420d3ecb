/- SHA-256 of the package digest: the digest of bytes. Conditions: bytes that are read, fewer than 10^12. -/
import Derived.Test.YtjhpdcfhdpnloaaDigestC
import Derived.Test.YtjhpdcfhdpnloaaRegionS
import Derived.Test.YtjhpdcfhdpnloaaLaws
namespace Go.Proofs.Ytjhpdcfhdpnloaa
open Go.RowKit
attribute [local go_sem] Oper.acts Oper.actsUpon

theorem bytesV_drop (bs : List UInt8) (k : Nat) : bytesV (bs.drop k) = (bytesV bs).drop k := by simp [bytesV]
theorem bytesV_length (bs : List UInt8) : (bytesV bs).length = bs.length := by simp [bytesV]
theorem map_add (A : Option Addr) (k : Nat) (hk : 0 < k) : A.map (·.add k) = A.map (fun x => ⟨x.block, x.off + k, none⟩) := by
  cases A <;> simp [add_pos _ _ hk]
theorem rd_drop64 {w : World} {lo hi : Nat} {A : Option Addr} {bs : List UInt8} {c : Nat} (h : Rd w lo hi A (bytesV bs)) (hc : bs.length ≤ c) (k : Nat) (hk : 0 < k) : Rd w lo hi (if c = k then A else A.map (fun x => ⟨x.block, x.off + k, none⟩)) (bytesV (bs.drop k)) := by
  have := h.drop k c (by rw [bytesV_length]; exact hc)
  rwa [map_add A k hk, ← bytesV_drop] at this
theorem Try.infoByte : (Try.prog.info? 5).map (fun i => (i.zero, i.size, i.bytes)) = some (some (.int .u8 0), 1, 1) := by kernel_rfl
def IsByte (u : Value) : Prop := ∃ b : UInt8, u = .int .u8 (b.toNat : Int)
theorem isByte_zero : IsByte (.int .u8 0) := ⟨0, rfl⟩
theorem bytesV_one (bs : List UInt8) : ∀ u ∈ bytesV bs, u.oneCell' = true := by
  intro u hu; simp only [bytesV, List.mem_map] at hu; obtain ⟨a, _, rfl⟩ := hu; rfl
theorem bytesV_append (a b : List UInt8) : bytesV (a ++ b) = bytesV a ++ bytesV b := by simp [bytesV]
/-- how many zeros stand behind the byte 128 -/
def zerosOf (n : Nat) : Nat := (119 - n % 64) % 64
theorem zeros_le (n : Nat) : zerosOf n ≤ 63 := by unfold zerosOf; omega
theorem zeros_lt (n z : Nat) (h : z < zerosOf n) : (n + 1 + z) % 64 ≠ 56 := by unfold zerosOf at h; omega
theorem zeros_eq (n : Nat) : (n + 1 + zerosOf n) % 64 = 56 := by unfold zerosOf; omega
theorem zero_more (rest : List UInt8) (z : Nat) : bytesV (rest ++ 128 :: List.replicate z 0) ++ [Value.int .u8 0] = bytesV (rest ++ 128 :: List.replicate (z + 1) 0) := by
  rw [List.replicate_succ', ← List.cons_append, ← List.append_assoc, bytesV_append (rest ++ 128 :: List.replicate z 0)]; rfl
def lenByte (n k : Nat) : UInt8 := UInt8.ofNat (8 * n / 2 ^ (56 - 8 * k))
theorem lenByte_nat (n k : Nat) : ((lenByte n k).toNat : Int) = ((8 * n / 2 ^ (56 - 8 * k) % 256 : Nat) : Int) := by simp [lenByte]
def lenBytes (n k : Nat) : List UInt8 := (List.range k).map (lenByte n)
/-- what stands behind the last whole block -/
def lastOf (rest : List UInt8) (n : Nat) : List UInt8 := rest ++ 128 :: (List.replicate (zerosOf rest.length) 0 ++ lenBytes n 8)
theorem lenBytes_length (n k : Nat) : (lenBytes n k).length = k := by simp [lenBytes]
theorem len_more (rest : List UInt8) (z n k : Nat) (x : Int) (h : x = ((8 * n / 2 ^ (56 - 8 * k) % 256 : Nat) : Int)) :
    bytesV (rest ++ 128 :: (List.replicate z 0 ++ lenBytes n k)) ++ [Value.int .u8 x] = bytesV (rest ++ 128 :: (List.replicate z 0 ++ lenBytes n (k + 1))) := by
  rw [h, ← lenByte_nat]
  have : rest ++ 128 :: (List.replicate z 0 ++ lenBytes n (k + 1)) = (rest ++ 128 :: (List.replicate z 0 ++ lenBytes n k)) ++ [lenByte n k] := by simp [lenBytes, List.range_succ]
  rw [this, bytesV_append (rest ++ 128 :: (List.replicate z 0 ++ lenBytes n k))]; rfl
theorem Rd.aside {w w' : World} {lo hi g : Nat} {A : Option Addr} {xs : List Value} (h : Rd w lo hi A xs) (hg : w.grownBy w' (some g)) (hr : g < lo) : Rd w' lo hi A xs := by
  have h' := h.size_
  refine Rd.mono (h'.keep fun p hp1 hp => World.cell?_of_block (hg.block p.block (by omega) (fun e => ?_))) (Nat.le_refl _) (Nat.min_le_left _ _)
  cases e; omega
theorem lastOf_length (rest : List UInt8) (n : Nat) : (lastOf rest n).length % 64 = 0 := by
  simp only [lastOf, List.length_append, List.length_cons, List.length_replicate, lenBytes_length, zerosOf]; omega
/-- the words behind some blocks -/
def blocks (bs : List UInt8) (h : List Int) : Nat → List Int
  | 0 => h
  | j + 1 => mixed shaK (bs.drop (64 * j)) (blocks bs h j)
theorem blocks_length (bs : List UInt8) (h : List Int) (hl : h.length = 8) : ∀ j, (blocks bs h j).length = 8
  | 0 => hl
  | j + 1 => mixed_length _ _ _ (blocks_length bs h hl j)
theorem blocks_words (bs : List UInt8) (h : List Int) (hw : Words h) : ∀ j, Words (blocks bs h j)
  | 0 => hw
  | j + 1 => mixed_words _ _ _ (blocks_words bs h hw j)

theorem index_u32 (l : List Int) (i n : Nat) (e et : TypeId) (hu : Try.prog.underlying et = some (.array n e)) (he : (Try.prog.info? e).map (·.size) = some 1) (hne : Try.prog.underlying e = some (.int .u32)) (hi : i < n) (hl : l.length = n) (w : World) :
    (Instr.index et (.agg (u32s l).toArray) (.int .i64 (i : Int))).run Try.prog w = .ok (.int .u32 (wd l i)) w := by
  have hget : (u32s l)[i]? = some (.int .u32 (wd l i)) := by simp [u32s, wd, show i < l.length by omega]
  cases hq : Try.prog.info? e with
  | none => simp [hq] at he
  | some d =>
    have hs : d.size = 1 := by simpa [hq] using he
    have hii : (i : Int) < (n : Int) := by omega
    simp [Instr.index, run_underlying hu, run_underlying hne, asIntOf, sizeOf, typeInfo, hq, hs, part, isAgg, hii, hget]
    omega
def wordByte (x : Int) (k : Nat) : UInt8 := UInt8.ofNat (x.toNat / 2 ^ (8 * k))
/-- the digest's bytes, when t words have been laid -/
def dgOf (s : List Int) : Nat → List UInt8
  | 0 => List.replicate 32 0
  | t + 1 => ((((dgOf s t).set (4 * t) (wordByte (wd s t) 3)).set (4 * t + 1) (wordByte (wd s t) 2)).set (4 * t + 2) (wordByte (wd s t) 1)).set (4 * t + 3) (wordByte (wd s t) 0)
theorem dgOf_length (s : List Int) : ∀ t, (dgOf s t).length = 32
  | 0 => by simp [dgOf]
  | t + 1 => by simp [dgOf, dgOf_length s t]
/-- **The digest of bytes, as the code reckons it.** -/
def sha (bs : List UInt8) : List UInt8 :=
  dgOf (blocks (lastOf (bs.drop (64 * (bs.length / 64))) bs.length) (blocks bs shaH (bs.length / 64)) ((lastOf (bs.drop (64 * (bs.length / 64))) bs.length).length / 64)) 8
theorem byte_cell {w : World} {g : Nat} {t : TypeId} {l : List UInt8} (h : Blk w g t (bytesV l)) (i : Nat) (hi : i < l.length) : ∃ u, w.cell? ⟨g, i, none⟩ = some u := ⟨_, h.cell_of (bytesV_get l i hi)⟩
theorem Blk.byte_set {w : World} {g : Nat} {t : TypeId} {l : List UInt8} (h : Blk w g t (bytesV l)) (i : Nat) (b : UInt8) (x : Int) (hx : x = (b.toNat : Int)) : Blk (w.setCell ⟨g, i, none⟩ (.int .u8 x)) g t (bytesV (l.set i b)) := by
  rw [bytesV, List.map_set, ← hx]; exact h.set_ i _
theorem wordByte_nat (x : Int) (h : 0 ≤ x) (k : Nat) : ((wordByte x k).toNat : Int) = x / (2 ^ (8 * k) : Nat) % 256 := by
  unfold wordByte
  obtain ⟨m, rfl⟩ := Int.eq_ofNat_of_zero_le h
  simp
set_option maxHeartbeats 2500000 in
set_option maxRecDepth 100000 in
theorem sum_any (A : Option Addr) (n c lo hi : Nat) (bs : List UInt8) (w : World) (hn : bs.length = n) (hc : n ≤ c) (hlt : n < 1000000000000) (hr : Rd w lo hi A (bytesV bs)) :
    Calls Try.prog 28 #[.slice A n c] w fun e w' => e = .returned (.agg (bytesV (sha bs)).toArray) ∧ Ext w w' := by
  go_enter Try.func28, Try.ntmps28
  have HN := Lib.hid hn; clear hn
  have hlt12 := Lib.hid hlt
  go_wp2_with (first | (go_at_call 33; refine (constants_any _).mono ?_; rintro _ w1 ⟨rfl, hx1⟩) |
    ((with_reducible refine gate (.store 57 (.tmp 4) (.tmp 12)) rfl ?_); refine wpList_store_blk rfl 57 (.tmp 4) (.tmp 12) rfl rfl _ rfl (cs := u32s shaK) (by exact rfl) (Blk.new _ 57 (Array.replicate 64 (.int .u32 0))) (by exact rfl) (by exact rfl) (by exact one_u32s _) ?_))
  intro w2 hb2 hx2
  have hs1 : w.heap.size + 1 < w1.heap.size := by have := hx1.sz; simp at this; omega
  have hxw : Ext w w2 := (((((Ext.refl w).alloc _).alloc _).trans hx1).alloc _).below hx2 (by omega)
  have bd : Blk w2 w.heap.size 47 (List.replicate 32 (.int .u8 0)) := ((((Blk.new w _ _).alloc _).ext hx1).alloc _).below hx2 (by omega)
  have bh : Blk w2 (w.heap.size + 1) 56 (u32s shaH) := (((Blk.new1 w _ _ _).ext hx1).alloc _).below hx2 (by omega)
  generalize w1.heap.size = gk at hb2 hs1 ⊢
  clear hx2 hx1
  go_wp2_with fail
  go_loopw [0] (fun v wr => ∃ (j m c' : Nat) (A' : Option Addr), v = .slice A' m c' ∧ Hid ((bs.drop (64 * j)).length = m) ∧ 64 * j ≤ n ∧ m ≤ n ∧ m ≤ c' ∧ Rd w lo hi A' (bytesV (bs.drop (64 * j))) ∧ Ext w wr ∧
    Blk wr w.heap.size 47 (List.replicate 32 (.int .u8 0)) ∧ Blk wr (w.heap.size + 1) 56 (u32s (blocks bs shaH j)) ∧ Blk wr gk 57 (u32s shaK)) (fun v _ => match v with | .slice _ m _ => m | _ => 0)
  case atStart => exact ⟨0, n, c, A, rfl, Lib.hid (by simpa using HN.out), by omega, Nat.le_refl _, hc, by simpa using hr, hxw, bd, bh, hb2⟩
  case round =>
    clear bd bh hb2 hr hxw
    obtain ⟨j, m, c', A', rfl, hm, hjn, hmn, hmc, hr, hx, bd, bh, bk⟩ := hrel
    have hjm : n = 64 * j + m := by
      have e1 : (bs.drop (64 * j)).length = m := hm.out
      have e2 : bs.length = n := HN.out
      rw [List.length_drop] at e1; omega
    have HJM := Lib.hid hjm
    have hj1 : Hid (64 ≤ m → 64 * (j + 1) ≤ n) := Lib.hid (fun _ => by omega)
    clear hjm
    have HL := Lib.hid (blocks_length bs shaH rfl j)
    have HW := Lib.hid (blocks_words bs shaH shaH_words j)
    have hB : blocks bs shaH (j + 1) = mixed shaK (bs.drop (64 * j)) (blocks bs shaH j) := rfl
    have HB := Lib.hid hB; clear hB
    generalize hsj : blocks bs shaH j = s at *
    have HS' := Lib.hid hsj
    clear hsj
    by_cases hlt : 64 ≤ m
    · have hrd := rd_drop64 hr (c := c') (by rw [hm.out]; exact hmc) 64 (by omega)
      rw [List.drop_drop, show 64 * j + 64 = 64 * (j + 1) by omega] at hrd
      have hmd : (bs.drop (64 * (j + 1))).length = m - 64 := by rw [show 64 * (j + 1) = 64 * j + 64 by omega, ← List.drop_drop, List.length_drop, hm.out]
      have HMD := Lib.hid hmd
      clear hmd
      by_cases h64 : c' = 64
      all_goals
        first | (rw [if_pos h64] at hrd; subst h64) | rw [if_neg h64] at hrd
        go_wp2_with fail
        refine wp_region_S (g := w.heap.size + 1) 6 ⟨fun _ => True, fun _ w' => Blk w' (w.heap.size + 1) 56 (u32s (mixed shaK (bs.drop (64 * j)) s)), fun _ _ _ hx hb => hb.ext hx, ⟨undef, trivial⟩⟩
          (phisG [(3, ⟨fun v => v = .agg (u32s (mixed shaK (bs.drop (64 * j)) s)).toArray, fun _ _ => True, fun _ _ _ _ h => h, ⟨_, rfl⟩⟩)]) (by kernel_rfl) (by kernel_rfl) (by decide) ?_
        have hs8 : s.length = 8 := HL.out
        have hi8 : (Try.prog.info? 56).map (·.size) = some (u32s s).length := by rw [u32s, List.length_map, hs8]; kernel_rfl
        refine wpS_at (by rfl) (by rfl) (by decide) (by kernel_rfl) (.agg (u32s s).toArray) (fun w1 hx1 _ => exec_load_blk rfl rfl (bh.ext hx1) Try.underlying56 rfl hi8) ?_
        have H8 := Lib.hid hs8
        clear hi8 hs8
        simp only [Act.put, List.setIfInBounds_toArray, List.set_cons_zero, List.set_cons_succ]
        (repeat (refine wpS_det (by rfl) (by rfl) (by rfl) (fun K hK => ?_); go_big_quiet_op; refine hK _ ?_; clear hK K))
        refine wpS_at (by rfl) (by rfl) (by decide) (by kernel_rfl) (.agg (u32s shaK).toArray) (fun w1 hx1 _ => exec_load_blk rfl rfl (bk.ext hx1) Try.underlying57 rfl (by kernel_rfl)) ?_
        simp only [Act.put, List.setIfInBounds_toArray, List.set_cons_zero, List.set_cons_succ]
        refine wpS_act (by rfl) (by decide) (by kernel_rfl) (by decide) _ rfl (fun w1 hx1 _ => ?_) ?_
        · go_simp
          refine (block_any s shaK A' m _ lo hi _ w1 hm.out hlt (hr.ext (hx.trans hx1)) HL.out HW.out rfl).mono ?_
          rintro _ w2 ⟨rfl, hx2⟩
          exact ⟨rfl, hx2⟩
        rintro _ rfl
        simp only [Act.put, List.setIfInBounds_toArray, List.set_cons_zero, List.set_cons_succ]
        (repeat (refine wpS_det (by rfl) (by rfl) (by rfl) (fun K hK => ?_); go_big_quiet_op; refine hK _ ?_; clear hK K))
        refine wpS_store (by rfl) rfl (fun w1 hx1 _ => ?_) ?_
        · refine acts_store_blk rfl rfl rfl (bh.ext hx1) ?_ ?_ (one_u32s _) (fun w2 hb2 hx2 => ⟨hx2, trivial, hb2⟩)
          · rw [u32s, List.length_map, mixed_length _ _ _ HL.out]; kernel_rfl
          · rw [u32s, u32s, List.length_map, List.length_map, mixed_length _ _ _ HL.out]; exact HL.out
        rintro v -
        simp only [Act.put, List.setIfInBounds_toArray, List.set_cons_zero, List.set_cons_succ]
        (repeat (refine wpS_det (by rfl) (by rfl) (by rfl) (fun K hK => ?_); go_big_quiet_op; refine hK _ ?_; clear hK K))
        refine wpS_nil (fun w3 hx3 hf => ?_)
        obtain hb3 := hf _ (List.mem_of_getElem? (i := 1) rfl)
        go_wp2_with fail
        go_roundw
        case rel => first
          | exact ⟨j + 1, _, _, _, rfl, HMD, hj1.out hlt, by omega, by omega, hrd, hx.grown hx3 (fun k hk => by cases hk; omega), (World.grownBy.block hx3 _ bd.lt (by simp)).trans bd, by rw [HB.out]; exact hb3, (World.grownBy.block hx3 _ bk.lt (by simp; omega)).trans bk⟩
          | exact ⟨j + 1, 0, _, _, rfl, Lib.hid (HMD.out.trans (by omega)), hj1.out hlt, by omega, by omega, hrd, hx.grown hx3 (fun k hk => by cases hk; omega), (World.grownBy.block hx3 _ bd.lt (by simp)).trans bd, by rw [HB.out]; exact hb3, (World.grownBy.block hx3 _ bk.lt (by simp; omega)).trans bk⟩
        case measure => first | (show m - 64 < m; omega) | (show 0 < m; omega)
    · generalize hrest : bs.drop (64 * j) = rest at *
      have HREST := Lib.hid hrest
      clear hrest
      obtain ⟨wo, rfl⟩ : ∃ wo : World, wo = wr := ⟨_, rfl⟩
      go_wp2_with ((with_reducible refine gate (appendOp (.const (.slice none 0 0)) (.tmp 24) 49) rfl ?_); refine wpList_append rfl _ _ _ rfl rfl rfl (Own.nil _ wo.heap.size 5 1 IsByte) Try.underlying49 Try.infoByte rfl isByte_zero (hr.ext hx) (by exact (bytesV_length _).trans hm.out) (bytesV_one _) (by simp; omega) (by simp [maxLen]; omega) (Nat.le_refl _) ?_)
      intro v1 w1 hown1 hg1 _
      have hw1 : Ext wo w1 := (Ext.refl wo).grown hg1 (fun k hk => by cases hk)
      clear hg1
      go_wp2_with ((with_reducible refine gate (appendOp (.tmp 25) (.tmp 26) 49) rfl ?_); go_loud (refine wpList_append rfl _ _ _ rfl rfl rfl (hown1.alloc _) Try.underlying49 Try.infoByte rfl isByte_zero (rd_one _ _ _) rfl (fun u hu => by simp at hu; subst hu; rfl) (by simp [bytesV_length]; have : rest.length = m := hm.out; omega) (by simp [bytesV_length, maxLen]; have : rest.length = m := hm.out; omega) (by simp; have := hw1.sz; omega) ?_))
      intro v2 w2 hown2 hg2 _
      have hw2 : Ext wo w2 := (hw1.alloc _).grown hg2 (fun k hk => (hown1.lt k hk).1)
      have hL2 : bytesV rest ++ [Value.int .u8 128] = bytesV (rest ++ 128 :: List.replicate 0 0) := by rw [bytesV_append]; rfl
      rw [hL2] at hown2
      clear hg2 hown1 hw1 hL2
      have HM := hm
      clear hm
      go_wp2_with fail
      go_loopw [6] (fun v wx => ∃ z : Nat, z ≤ zerosOf rest.length ∧ Ext wo wx ∧ Own wx wo.heap.size 5 1 IsByte v (bytesV (rest ++ 128 :: List.replicate z 0)))
        (fun v _ => match v with | .slice _ q _ => rest.length + 1 + zerosOf rest.length - q | _ => 0)
      case atStart => exact ⟨0, by omega, hw2, hown2⟩
      case round =>
        clear hw2 hown2
        obtain ⟨z, hz, hwx, hown⟩ := hrel
        obtain ⟨A2, n2, c2, rfl, hl2, hnc2, hcm2, hr2⟩ := hown.form
        have hn2 : n2 = rest.length + 1 + z := by
          rw [bytesV_length] at hl2; simp at hl2; omega
        have hm' : rest.length = m := HM.out
        by_cases hlt : z < zerosOf rest.length
        · have t1 : (n2 % 64 != 56) = true := by rw [bne_iff_ne, hn2]; exact zeros_lt _ _ hlt
          have t2 : ((n2 : Int) % 64 != 56) = true := by rw [bne_iff_ne] at t1 ⊢; omega
          have HN2 := Lib.hid hn2
          have HM' := Lib.hid hm'
          clear hn2 hm'
          go_wp2_with ((with_reducible refine gate (appendOp (.tmp 32) (.tmp 33) 49) rfl ?_); go_loud (refine wpList_append rfl _ _ _ rfl rfl rfl (hown.alloc _) Try.underlying49 Try.infoByte rfl isByte_zero (rd_one _ _ _) rfl (fun u hu => by simp at hu; subst hu; rfl) (by simp [bytesV_length]; have : rest.length = m := HM.out; have := zeros_le rest.length; omega) (by simp [bytesV_length, maxLen]; have : rest.length = m := HM.out; have := zeros_le rest.length; omega) (by simp; have := hwx.sz; omega) ?_))
          intro v3 w3 hown3 hg3 _
          have hw3 : Ext wo w3 := (hwx.alloc _).grown hg3 (fun k hk => (hown.lt k hk).1)
          rw [zero_more] at hown3
          clear hg3
          obtain ⟨A4, n4, c4, rfl, hl4, _, _, _⟩ := hown3.form
          have hn4 : n4 = rest.length + 1 + (z + 1) := by rw [bytesV_length] at hl4; simp at hl4; omega
          have HN4 := Lib.hid hn4
          clear hn4 hl4
          go_wp2_with fail
          go_roundw
          case rel => exact ⟨z + 1, by omega, hw3, hown3⟩
          case measure =>
            show rest.length + 1 + zerosOf rest.length - n4 < rest.length + 1 + zerosOf rest.length - n2
            have e1 : n4 = rest.length + 1 + (z + 1) := HN4.out
            have e2 : n2 = rest.length + 1 + z := HN2.out
            omega
        · have hz' : z = zerosOf rest.length := by omega
          have t1 : (n2 % 64 != 56) = false := by rw [bne_eq_false_iff_eq, hn2, hz']; exact zeros_eq _
          have t2 : ((n2 : Int) % 64 != 56) = false := by rw [bne_eq_false_iff_eq] at t1 ⊢; omega
          rw [hz'] at hown
          clear hr2 hlt hz hz' hl2
          have HN2 := Lib.hid hn2
          have HM' := Lib.hid hm'
          clear hn2 hm'
          go_wp2_with fail
          go_loopw [6, 7] (fun v i wy => ∃ k : Nat, k ≤ 8 ∧ i = .int .i64 (56 - 8 * (k : Int)) ∧ Ext wo wy ∧ Own wy wo.heap.size 5 1 IsByte v (bytesV (rest ++ 128 :: (List.replicate (zerosOf rest.length) 0 ++ lenBytes n k)))) (fun _ i _ => (intOf i + 8).toNat)
          case atStart => exact ⟨0, by omega, rfl, hwx, by simpa [lenBytes] using hown⟩
          case round =>
            clear hwx hown
            obtain ⟨k, hk, rfl, hwy, hown⟩ := hrel
            obtain ⟨A3, n3, c3, rfl, hl3, hnc3, hcm3, hr3⟩ := hown.form
            by_cases hk8 : k < 8
            · have h8 : k = 0 ∨ k = 1 ∨ k = 2 ∨ k = 3 ∨ k = 4 ∨ k = 5 ∨ k = 6 ∨ k = 7 := by omega
              clear hk hk8
              rcases h8 with rfl | rfl | rfl | rfl | rfl | rfl | rfl | rfl
              all_goals
                go_wp2_with ((with_reducible refine gate (appendOp (.tmp 39) (.tmp 46) 49) rfl ?_); go_loud (refine wpList_append rfl _ _ _ rfl rfl rfl (hown.alloc _) Try.underlying49 Try.infoByte rfl isByte_zero (rd_one _ _ _) rfl (fun u hu => by simp at hu; subst hu; rfl) (by simp [bytesV_length, lenBytes_length]; have : rest.length = m := HM.out; have := zeros_le rest.length; omega) (by simp [bytesV_length, lenBytes_length, maxLen]; have : rest.length = m := HM.out; have := zeros_le rest.length; omega) (by simp; have := hwy.sz; omega) ?_))
                intro v3 w3 hown3 hg3 _
                have hw3 : Ext wo w3 := (hwy.alloc _).grown hg3 (fun k hk => (hown.lt k hk).1)
                rw [len_more _ _ _ _ _ (by have hn1 : n < 1000000000000 := hlt12.out; omega)] at hown3
                clear hg3
                obtain ⟨A4, n4, c4, rfl, hl4, _, _, _⟩ := hown3.form
                clear hl4
                go_wp2_with fail
                go_roundw
                case rel => exact ⟨_, by omega, rfl, hw3, hown3⟩
                case measure => simp [intOf]
            · obtain rfl : k = 8 := by omega
              obtain ⟨w4, rfl⟩ : ∃ w4 : World, w4 = wr := ⟨_, rfl⟩
              generalize hLL : rest ++ 128 :: (List.replicate (zerosOf rest.length) 0 ++ lenBytes n 8) = L at *
              have hL64 : L.length % 64 = 0 := by rw [← hLL]; exact lastOf_length rest n
              have hLn : L.length = n3 := by rw [bytesV_length] at hl3; omega
              have HLL := Lib.hid hLL
              clear hLL hl3
              rw [show (56 - 8 * ((8 : Nat) : Int)) = -8 from rfl]
              obtain ⟨hln3, hnc3', hr4⟩ := hown.rd1
              have HS := Lib.hid (blocks_length bs shaH rfl j)
              have HSW := Lib.hid (blocks_words bs shaH shaH_words j)
              go_wp2_with fail
              go_loopw [6] (fun v wx => ∃ (i q c5 : Nat) (A5 : Option Addr), v = .slice A5 q c5 ∧ Hid ((L.drop (64 * i)).length = q) ∧ 64 * i ≤ n3 ∧ q ≤ n3 ∧ q % 64 = 0 ∧ q ≤ c5 ∧ Rd w4 wo.heap.size w4.heap.size A5 (bytesV (L.drop (64 * i))) ∧ w4.grownBy wx (some (w.heap.size + 1)) ∧
                Blk wx (w.heap.size + 1) 56 (u32s (blocks L s i))) (fun v _ => match v with | .slice _ q _ => q | _ => 0)
              case atStart => exact ⟨0, n3, c3, A3, rfl, Lib.hid (by simpa using hLn), by omega, Nat.le_refl _, by omega, hnc3, by simpa using hr4, World.grownBy.refl _ _, bh.ext hwy⟩
              case round =>
                obtain ⟨i, q, c5, A5, rfl, hq, hin, hqn, hq64, hqc, hr5, hg5, hb5⟩ := hrel
                have hiq : n3 = 64 * i + q := by
                  have e1 : (L.drop (64 * i)).length = q := hq.out
                  rw [List.length_drop] at e1; omega
                have HIQ := Lib.hid hiq
                have hi1 : Hid (64 ≤ q → 64 * (i + 1) ≤ n3) := Lib.hid (fun _ => by omega)
                clear hiq
                have HB' := Lib.hid (show blocks L s (i + 1) = mixed shaK (L.drop (64 * i)) (blocks L s i) from rfl)
                have HL' := Lib.hid (blocks_length L s HL.out i)
                have HW' := Lib.hid (blocks_words L s HW.out i)
                generalize hst : blocks L s i = st at *
                have HST := Lib.hid hst
                clear hst
                by_cases hq0 : 0 < q
                · have hrd := rd_drop64 hr5 (c := c5) (by rw [hq.out]; exact hqc) 64 (by omega)
                  rw [List.drop_drop, show 64 * i + 64 = 64 * (i + 1) by omega] at hrd
                  have hmd : (L.drop (64 * (i + 1))).length = q - 64 := by rw [show 64 * (i + 1) = 64 * i + 64 by omega, ← List.drop_drop, List.length_drop, hq.out]
                  have HMD := Lib.hid hmd
                  clear hmd
                  have h64q : 64 ≤ q := by omega
                  by_cases h64 : c5 = 64
                  all_goals
                    first | (rw [if_pos h64] at hrd; subst h64) | rw [if_neg h64] at hrd
                    go_wp2_with (first
                      | ((with_reducible refine gate (.load 56 (.tmp 3)) rfl ?_); refine wpList_load_blk rfl _ _ rfl _ rfl hb5 Try.underlying56 rfl (by rw [u32s, List.length_map, HL'.out]; kernel_rfl) ?_)
                      | ((with_reducible refine gate (.load 57 (.tmp 4)) rfl ?_); refine wpList_load_blk rfl _ _ rfl _ rfl ((bk.ext hwy).grown hg5 (by simp; omega)) Try.underlying57 rfl (by kernel_rfl) ?_)
                      | (go_at_call 34; refine (block_any st shaK A5 q _ wo.heap.size w4.heap.size _ _ hq.out h64q (hr5.aside hg5 (by have := bh.lt; omega)) HL'.out HW'.out rfl).mono ?_; rintro _ w5 ⟨rfl, hx5⟩)
                      | ((with_reducible refine gate (.store 56 (.tmp 3) (.tmp 56)) rfl ?_); refine wpList_store_row rfl _ _ _ rfl rfl _ rfl (cs := u32s (mixed shaK (L.drop (64 * i)) st)) rfl (hb5.ext hx5) (by rw [u32s, List.length_map, mixed_length _ _ _ HL'.out]; kernel_rfl) (by rw [u32s, u32s, List.length_map, List.length_map, mixed_length _ _ _ HL'.out]; exact HL'.out) (one_u32s _) ?_))
                    intro w6 hb6 hx6
                    have hg6 : w4.grownBy w6 (some (w.heap.size + 1)) := (hg5.trans (grown_ext hx5)).trans hx6
                    go_wp2_with fail
                    go_roundw
                    case rel => first
                      | exact ⟨i + 1, _, _, _, rfl, HMD, hi1.out h64q, by omega, by omega, by omega, hrd, hg6, by rw [HB'.out]; exact hb6⟩
                      | exact ⟨i + 1, 0, _, _, rfl, Lib.hid (HMD.out.trans (by omega)), hi1.out h64q, by omega, by omega, by omega, hrd, hg6, by rw [HB'.out]; exact hb6⟩
                    case measure => first | (show q - 64 < q; omega) | (show 0 < q; omega)
                · obtain rfl : q = 0 := by omega
                  have bd6 := (bd.ext hwy).grown hg5 (by simp)
                  have hd0 : w.heap.size + 1 < wr.heap.size := hb5.lt
                  have HLN := Lib.hid hLn
                  clear hLn hL64
                  obtain ⟨w7, rfl⟩ : ∃ w7 : World, w7 = wr := ⟨_, rfl⟩
                  go_wp2_with ((with_reducible refine gate (.load 56 (.tmp 3)) rfl ?_); refine wpList_load_blk rfl _ _ rfl _ rfl (hb5.alloc _) Try.underlying56 rfl (by rw [u32s, List.length_map, HL'.out]; kernel_rfl) ?_)
                  go_loopw [58] (fun v wx => ∃ t : Nat, t ≤ 8 ∧ v = .int .i64 (t : Int) ∧ Ext w7 wx ∧ Blk wx w7.heap.size 47 (bytesV (dgOf st t))) (fun v _ => 8 - (intOf v).toNat)
                  case atStart => exact ⟨0, by omega, rfl, (Ext.refl w7).alloc _, Blk.new w7 _ _⟩
                  case round =>
                    obtain ⟨t, ht, rfl, hx8, hb8⟩ := hrel
                    by_cases hlt8 : t < 8
                    · have hidx := index_u32 st t 8 54 56 Try.underlying56 (by kernel_rfl) Try.underlying54 hlt8 HL'.out
                      have hrg := HW'.out t
                      have hl32 := Lib.hid (dgOf_length st t)
                      obtain ⟨u0, d0⟩ := byte_cell hb8 (4 * t) (by rw [hl32.out]; omega)
                      obtain ⟨u1, d1⟩ := byte_cell hb8 (4 * t + 1) (by rw [hl32.out]; omega)
                      obtain ⟨u2, d2⟩ := byte_cell hb8 (4 * t + 2) (by rw [hl32.out]; omega)
                      obtain ⟨u3, d3⟩ := byte_cell hb8 (4 * t + 3) (by rw [hl32.out]; omega)
                      have z0 := hb8.frozen (4 * t)
                      have z1 := hb8.frozen (4 * t + 1)
                      have z2 := hb8.frozen (4 * t + 2)
                      have z3 := hb8.frozen (4 * t + 3)
                      go_wp2_with fail
                      go_roundw
                      case rel =>
                        refine ⟨t + 1, by omega, by go_num, (((hx8.set (by simp) _).set (by simp) _).set (by simp) _).set (by simp) _, ?_⟩
                        rw [dgOf]
                        exact (((hb8.byte_set (4 * t) _ _ (by rw [wordByte_nat _ hrg.1]; omega)).byte_set (4 * t + 1) _ _ (by rw [wordByte_nat _ hrg.1]; rfl)).byte_set (4 * t + 2) _ _ (by rw [wordByte_nat _ hrg.1]; rfl)).byte_set (4 * t + 3) _ _ (by rw [wordByte_nat _ hrg.1]; omega)
                      case measure => simp [intOf]; omega
                    · obtain rfl : t = 8 := by omega
                      rw [show ((8 : Nat) : Int) = 8 from rfl]
                      go_wp2_with (first
                        | ((with_reducible refine gate (.load 47 (.tmp 8)) rfl ?_); refine wpList_load_blk rfl _ _ rfl _ rfl hb8 Try.underlying47 rfl (by rw [bytesV_length, dgOf_length]; kernel_rfl) ?_)
                        | ((with_reducible refine gate (.store 47 (.tmp 2) (.tmp 89)) rfl ?_); refine wpList_store_row rfl _ _ _ rfl rfl _ rfl (cs := bytesV (dgOf st 8)) rfl (bd6.ext hx8) (by rw [bytesV_length, dgOf_length]; kernel_rfl) (by rw [bytesV_length, dgOf_length]; rfl) (bytesV_one _) ?_))
                      intro w9 hb9 hx9
                      go_wp2_with fail
                      have hfin : sha bs = dgOf st 8 := by
                        have e1 : n3 = 64 * i + 0 := HIQ.out
                        have e2 : n = 64 * j + m := HJM.out
                        have e3 : bs.length = n := HN.out
                        have e8 : L.length = n3 := HLN.out
                        have e4 : bs.length / 64 = j := by omega
                        have e5 : L.length / 64 = i := by omega
                        unfold sha
                        rw [e4]
                        have e6 : lastOf (bs.drop (64 * j)) bs.length = L := by rw [HREST.out, e3]; exact HLL.out
                        have e7 : blocks bs shaH j = s := HS'.out
                        rw [e6, e7, e5, HST.out]
                      refine bodyPost_ret (results_cell_blk (cs := bytesV (dgOf st 8)) rfl rfl hb9 Try.underlying47 rfl (by rw [bytesV_length, dgOf_length]; kernel_rfl)) rfl ⟨by rw [hfin], ?_⟩
                      exact ((((hx.trans hwy).grown hg5 (fun k hk => by cases hk; omega)).trans hx8).grown hx9 (fun k hk => by cases hk; exact Nat.le_refl _))
end Go.Proofs.Ytjhpdcfhdpnloaa
