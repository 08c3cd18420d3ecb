/- SHA-256 of the package digest: a block is mixed in. Conditions: at least 64 bytes that are read, words of 32 bits. -/
import Derived.Test.YtjhpdcfhdpnloaaDigest1
namespace Go.Proofs.Ytjhpdcfhdpnloaa
open Go.RowKit

/-! ### the plain functions -/
def w32 (x : Int) : Prop := 0 ≤ x ∧ x ≤ 4294967295
def add32 (x y : Int) : Int := IntKind.u32.wrap (x + y)
def wd (ws : List Int) (i : Nat) : Int := ws.getD i 0
def byteAt (bs : List UInt8) (i : Nat) : Int := (bs.getD i 0).toNat
def byte32 (bs : List UInt8) (i : Nat) : Int := byteAt bs i % 4294967296
def first16 (bs : List UInt8) (t : Nat) : Int :=
  bits .or .u32 (bits .or .u32 (bits .or .u32 (byte32 bs (4 * t) * 16777216 % 4294967296) (byte32 bs (4 * t + 1) * 65536 % 4294967296)) (byte32 bs (4 * t + 2) * 256 % 4294967296)) (byte32 bs (4 * t + 3))
def s0 (x : Int) : Int := bits .xor .u32 (bits .xor .u32 (rot x 7) (rot x 18)) (x / 8)
def s1 (x : Int) : Int := bits .xor .u32 (bits .xor .u32 (rot x 17) (rot x 19)) (x / 1024)
def nextW (l : List Int) (t : Nat) : Int := (s1 (wd l (t - 2)) + wd l (t - 7) + s0 (wd l (t - 15)) + wd l (t - 16)) % 4294967296
def sched (bs : List UInt8) : Nat → List Int
  | 0 => List.replicate 64 0
  | t + 1 => (sched bs t).set t (if t < 16 then first16 bs t else nextW (sched bs t) t)
theorem sched_length (bs : List UInt8) : ∀ t, (sched bs t).length = 64
  | 0 => by simp [sched]
  | t + 1 => by simp [sched, sched_length bs t]
def u32s (ws : List Int) : List Value := ws.map (.int .u32)
def bytesV (bs : List UInt8) : List Value := bs.map fun b => .int .u8 (b.toNat : Int)
theorem u32s_at {w : World} {g : Nat} {t : TypeId} {l : List Int} (h : Blk w g t (u32s l)) (i : Nat) (hi : i < l.length) : w.cell? ⟨g, i, none⟩ = some (.int .u32 (wd l i)) :=
  h.cell_of (by simp [u32s, wd, hi])
theorem Blk.u32_set {w : World} {g : Nat} {t : TypeId} {l : List Int} (h : Blk w g t (u32s l)) (i : Nat) (x : Int) : Blk (w.setCell ⟨g, i, none⟩ (.int .u32 x)) g t (u32s (l.set i x)) := by
  rw [u32s, List.map_set]; exact h.set_ i _
theorem mod32_range (x : Int) : 0 ≤ x % 4294967296 ∧ x % 4294967296 ≤ 4294967295 := by omega
theorem add32_range (x y : Int) : 0 ≤ add32 x y ∧ add32 x y ≤ 4294967295 := u32_range _
theorem wd_set (l : List Int) (i j : Nat) (x : Int) : wd (l.set i x) j = x ∨ wd (l.set i x) j = wd l j := by
  unfold wd
  by_cases h : i = j
  · subst h
    by_cases hl : i < l.length
    · left; simp [hl]
    · right; rw [List.set_eq_of_length_le (by omega)]
  · right; simp [List.getD_eq_getElem?_getD, List.getElem?_set_ne h]
theorem sched_range (bs : List UInt8) : ∀ (t j : Nat), 0 ≤ wd (sched bs t) j ∧ wd (sched bs t) j ≤ 4294967295
  | 0, j => by
    have : wd (sched bs 0) j = 0 := by
      unfold wd sched
      rw [List.getD_eq_getElem?_getD, List.getElem?_replicate]
      split <;> rfl
    omega
  | t + 1, j => by
    rcases wd_set (sched bs t) t j (if t < 16 then first16 bs t else nextW (sched bs t) t) with h | h
    · rw [sched, h]
      split
      · exact or_range _ _
      · exact mod32_range _
    · rw [sched, h]; exact sched_range bs t j
theorem sched_first (bs : List UInt8) (t : Nat) (h : t < 16) : sched bs (t + 1) = (sched bs t).set t (first16 bs t) := by rw [sched, if_pos h]
theorem sched_next (bs : List UInt8) (t : Nat) (h : 16 ≤ t) : sched bs (t + 1) = (sched bs t).set t (nextW (sched bs t) t) := by rw [sched, if_neg (by omega)]
theorem bytesV_get (bs : List UInt8) (k : Nat) (h : k < bs.length) : (bytesV bs)[k]? = some (.int .u8 (byteAt bs k)) := by simp [bytesV, byteAt, h]
theorem byteAt_range (bs : List UInt8) (k : Nat) : 0 ≤ byteAt bs k ∧ byteAt bs k ≤ 255 := by
  unfold byteAt
  have := (bs.getD k 0).toNat_lt
  omega

def chE (s : List Int) : Int := bits .xor .u32 (bits .xor .u32 (rot (wd s 4) 6) (rot (wd s 4) 11)) (rot (wd s 4) 25)
def notU (x : Int) : Int := bits .xor .u32 IntKind.u32.max x
def t1of (s : List Int) (k w : Int) : Int :=
  wd s 7 + chE s + bits .xor .u32 (bits .and .u32 (wd s 4) (wd s 5)) (bits .and .u32 (notU (wd s 4)) (wd s 6)) + k + w
def t2of (s : List Int) : Int :=
  bits .xor .u32 (bits .xor .u32 (rot (wd s 0) 2) (rot (wd s 0) 13)) (rot (wd s 0) 22) + bits .xor .u32 (bits .xor .u32 (bits .and .u32 (wd s 0) (wd s 1)) (bits .and .u32 (wd s 0) (wd s 2))) (bits .and .u32 (wd s 1) (wd s 2))
def roundL (s : List Int) (k w : Int) : List Int := [(t1of s k w + t2of s) % 4294967296, wd s 0, wd s 1, wd s 2, (wd s 3 + t1of s k w) % 4294967296, wd s 4, wd s 5, wd s 6]
def rounds (ks ws hs : List Int) : Nat → List Int
  | 0 => hs
  | t + 1 => roundL (rounds ks ws hs t) (wd ks t) (wd ws t)
/-- what is added in the end -/
def addTo (hs xs : List Int) : Nat → List Int
  | 0 => hs
  | i + 1 => (addTo hs xs i).set i ((wd (addTo hs xs i) i + wd xs i) % 4294967296)
theorem addTo_length (hs xs : List Int) : ∀ i, (addTo hs xs i).length = hs.length
  | 0 => rfl
  | i + 1 => by simp [addTo, addTo_length hs xs i]
/-- the eight words behind a block -/
def mixed (ks : List Int) (bs : List UInt8) (hs : List Int) : List Int := addTo hs (rounds ks (sched bs 64) hs 64) 8
theorem mixed_length (ks : List Int) (bs : List UInt8) (hs : List Int) (h : hs.length = 8) : (mixed ks bs hs).length = 8 := by rw [mixed, addTo_length, h]
theorem rounds_length (ks ws hs : List Int) (h : hs.length = 8) : ∀ t, (rounds ks ws hs t).length = 8
  | 0 => h
  | _ + 1 => rfl
def Words (l : List Int) : Prop := ∀ j, 0 ≤ wd l j ∧ wd l j ≤ 4294967295
theorem addTo_words (hs xs : List Int) (h : Words hs) : ∀ i, Words (addTo hs xs i)
  | 0 => h
  | i + 1 => fun j => by
    rcases wd_set (addTo hs xs i) i j ((wd (addTo hs xs i) i + wd xs i) % 4294967296) with e | e
    · rw [addTo, e]; exact mod32_range _
    · rw [addTo, e]; exact addTo_words hs xs h i j
theorem mixed_words (ks : List Int) (bs : List UInt8) (hs : List Int) (h : Words hs) : Words (mixed ks bs hs) := addTo_words hs _ h 8
theorem rounds_words (ks ws hs : List Int) (h : Words hs) : ∀ t, Words (rounds ks ws hs t)
  | 0 => h
  | t + 1 => fun j => by
    have ih := rounds_words ks ws hs h t
    show 0 ≤ wd (roundL (rounds ks ws hs t) _ _) j ∧ wd (roundL (rounds ks ws hs t) _ _) j ≤ 4294967295
    match j with
    | 0 => exact mod32_range _
    | 1 => exact ih 0
    | 2 => exact ih 1
    | 3 => exact ih 2
    | 4 => exact mod32_range _
    | 5 => exact ih 4
    | 6 => exact ih 5
    | 7 => exact ih 6
    | j + 8 => exact ⟨Int.le_refl _, by show (0 : Int) ≤ _; omega⟩
section
variable {w : World} {g : Nat} {t : TypeId} {s : List Int}
theorem blk_set8 (h : Blk w g t (u32s s)) (hl : s.length = 8) (v0 v1 v2 v3 v4 v5 v6 v7 : Int) :
    Blk ((((((((w.setCell ⟨g, 0, none⟩ (.int .u32 v0)).setCell ⟨g, 1, none⟩ (.int .u32 v1)).setCell ⟨g, 2, none⟩ (.int .u32 v2)).setCell ⟨g, 3, none⟩ (.int .u32 v3)).setCell ⟨g, 4, none⟩ (.int .u32 v4)).setCell ⟨g, 5, none⟩ (.int .u32 v5)).setCell ⟨g, 6, none⟩ (.int .u32 v6)).setCell ⟨g, 7, none⟩ (.int .u32 v7)) g t (u32s [v0, v1, v2, v3, v4, v5, v6, v7]) := by
  have := (((((((h.u32_set 0 v0).u32_set 1 v1).u32_set 2 v2).u32_set 3 v3).u32_set 4 v4).u32_set 5 v5).u32_set 6 v6).u32_set 7 v7
  match s, hl with
  | [a, b, c, d, e, f, g, i], _ => exact this
theorem below_set8 (w : World) (g : Nat) (v0 v1 v2 v3 v4 v5 v6 v7 : Value) :
    Below g w ((((((((w.setCell ⟨g, 0, none⟩ v0).setCell ⟨g, 1, none⟩ v1).setCell ⟨g, 2, none⟩ v2).setCell ⟨g, 3, none⟩ v3).setCell ⟨g, 4, none⟩ v4).setCell ⟨g, 5, none⟩ v5).setCell ⟨g, 6, none⟩ v6).setCell ⟨g, 7, none⟩ v7) :=
  (((((((((Below.refl g w).setCell (Nat.le_refl _) _).setCell (Nat.le_refl _) _).setCell (Nat.le_refl _) _).setCell (Nat.le_refl _) _).setCell (Nat.le_refl _) _).setCell (Nat.le_refl _) _).setCell (Nat.le_refl _) _).setCell (Nat.le_refl _) _)
end
theorem res8 {fn : Func} {tmps : Array Value} {W : World} {g : Nat} {t : TypeId} {T : Tmp} {v0 v1 v2 v3 v4 v5 v6 v7 : Int} (hr : fn.results = #[.cell T 56]) (ht : tmps.getD T undef = .pointer (some ⟨g, 0, none⟩))
    (hb : Blk W g t (u32s [v0, v1, v2, v3, v4, v5, v6, v7])) : (results fn tmps).run Try.prog W = .ok (.agg (u32s [v0, v1, v2, v3, v4, v5, v6, v7]).toArray) W := by
  have k0 := hb.cell_of (i := 0) rfl
  have k1 := hb.cell_of (i := 1) rfl
  have k2 := hb.cell_of (i := 2) rfl
  have k3 := hb.cell_of (i := 3) rfl
  have k4 := hb.cell_of (i := 4) rfl
  have k5 := hb.cell_of (i := 5) rfl
  have k6 := hb.cell_of (i := 6) rfl
  have k7 := hb.cell_of (i := 7) rfl
  clear hb
  rw [Array.getD_eq_getD_getElem?] at ht
  simp [results, hr, ht, go_sem, k0, k1, k2, k3, k4, k5, k6, k7, u32s]
theorem eight (s : List Int) (h : s.length = 8) : [wd s 0, wd s 1, wd s 2, wd s 3, wd s 4, wd s 5, wd s 6, wd s 7] = s := by
  match s, h with
  | [a, b, c, d, e, f, g, i], _ => rfl

set_option maxHeartbeats 400000 in
set_option maxRecDepth 100000 in
theorem block_any (hs ks : List Int) (A : Option Addr) (n c lo hi : Nat) (bs : List UInt8) (w : World) (hn : bs.length = n) (h64 : 64 ≤ n) (hr : Rd w lo hi A (bytesV bs)) (h8 : hs.length = 8) (hw : Words hs) (hk : ks.length = 64) :
    Calls Try.prog 34 #[.agg (u32s hs).toArray, .slice A n c, .agg (u32s ks).toArray] w fun e w' => e = .returned (.agg (u32s (mixed ks bs hs)).toArray) ∧ Ext w w' := by
  go_enter Try.func34, Try.ntmps34
  have HN := Lib.hid hn; clear hn
  have H8 := Lib.hid h8; clear h8
  have HK := Lib.hid hk; clear hk
  obtain ⟨ad, rfl, hc⟩ : ∃ ad, A = some ad ∧ ∀ w', Ext w w' → ∀ k, k < n → w'.cell? (ad.add k) = some (.int .u8 (byteAt bs k)) := by
    have hpos : 0 < bs.length := by have : bs.length = n := HN.out; omega
    obtain ⟨ad, e, _, _, hc⟩ := hr (by intro e; have := congrArg List.length e; simp [bytesV] at this; simp [this] at hpos)
    refine ⟨ad, e, fun w' hx k hk => ?_⟩
    obtain ⟨ad', e', _, _, hc'⟩ := (hr.ext hx).at_ (bytesV_get bs k (by have : bs.length = n := HN.out; omega))
    rw [e] at e'; cases e'; exact hc'
  clear hr
  go_wp2_with fail
  go_loopw [19] (fun i wr => ∃ t : Nat, t ≤ 16 ∧ i = .int .i64 t ∧ Ext w wr ∧ Blk wr w.heap.size 56 (u32s hs) ∧
    Blk wr (w.heap.size + 1) 57 (u32s ks) ∧ Blk wr (w.heap.size + 1 + 1) 56 (List.replicate 8 (.int .u32 0)) ∧ Blk wr (w.heap.size + 1 + 1 + 1) 57 (u32s (sched bs t))) (fun i _ => 16 - (intOf i).toNat)
  case atStart =>
    exact ⟨0, by omega, rfl, ((((Ext.refl w).alloc _).alloc _).alloc _).alloc _, (((Blk.new w _ (u32s hs).toArray).alloc _).alloc _).alloc _, ((Blk.new1 w _ _ (u32s ks).toArray).alloc _).alloc _, (Blk.new2 w _ _ _ _).alloc _, Blk.new3 w _ _ _ _ _⟩
  case round =>
    obtain ⟨t, ht, rfl, hx, b0, b1, b2, b3⟩ := hrel
    by_cases hlt : t < 16
    · have c0 := hc wr hx (4 * t) (by omega)
      have c1 := hc wr hx (4 * t + 1) (by omega)
      have c2 := hc wr hx (4 * t + 2) (by omega)
      have c3 := hc wr hx (4 * t + 3) (by omega)
      clear hc
      rw [add_pos _ _ (by omega)] at c1 c2 c3
      have hcell := u32s_at b3 t (by rw [sched_length]; omega)
      have hf := b3.frozen t
      go_wp2_with fail
      refine wp_region_quiet_tail 35 (by kernel_rfl) (by kernel_rfl) (by kernel_rfl) ?_; simp only [List.take_succ_cons, List.take_zero, List.drop_succ_cons, List.drop_zero]; (repeat (go_big_quiet_step (fail))); refine wpQuiet_nil ?_
      go_wp2_with fail
      go_roundw
      case rel => exact ⟨t + 1, by omega, by go_num, (hx.drew).set (by simp; omega) _, b0.drew.far (by simp; omega) _, b1.drew.far (by simp) _, b2.drew.far (by simp) _, by rw [sched_first bs t hlt]; exact (b3.u32_set t _).drew⟩
      case measure => simp [intOf]; omega
    · obtain rfl : t = 16 := by omega
      rw [show ((16 : Nat) : Int) = 16 from rfl]
      go_wp2_with fail
      go_loopw [9] (fun i wr => ∃ t : Nat, 16 ≤ t ∧ t ≤ 64 ∧ i = .int .i64 t ∧ Ext w wr ∧ Blk wr w.heap.size 56 (u32s hs) ∧
        Blk wr (w.heap.size + 1) 57 (u32s ks) ∧ Blk wr (w.heap.size + 1 + 1) 56 (List.replicate 8 (.int .u32 0)) ∧ Blk wr (w.heap.size + 1 + 1 + 1) 57 (u32s (sched bs t))) (fun i _ => 64 - (intOf i).toNat)
      case atStart => exact ⟨16, by omega, by omega, rfl, hx, b0, b1, b2, b3⟩
      case round =>
        clear hx b0 b1 b2 b3 ht hlt
        obtain ⟨t, ht1, ht2, rfl, hx, b0, b1, b2, b3⟩ := hrel
        by_cases hlt : t < 64
        · go_wp2_with fail
          have e15 := u32s_at b3 (t - 15) (by rw [sched_length]; omega)
          have e2 := u32s_at b3 (t - 2) (by rw [sched_length]; omega)
          have r15 := sched_range bs t (t - 15)
          have r2 := sched_range bs t (t - 2)
          go_quiet (first | (go_at_call 48; first | exact quiet_same (turned_any _ _ _ (by decide) (by omega) (by omega)) | exact quiet_add_same (turned_any _ _ _ (by decide) (by omega) (by omega))))
          go_wp2_with fail
          go_quiet (first | (go_at_call 48; first | exact quiet_same (turned_any _ _ _ (by decide) (by omega) (by omega)) | exact quiet_add_same (turned_any _ _ _ (by decide) (by omega) (by omega))))
          go_wp2_with fail
          have e7 := u32s_at b3 (t - 7) (by rw [sched_length]; omega)
          have e16 := u32s_at b3 (t - 16) (by rw [sched_length]; omega)
          have et := u32s_at b3 t (by rw [sched_length]; omega)
          have hf := b3.frozen t
          refine wp_region_quiet_tail 15 (by kernel_rfl) (by kernel_rfl) (by kernel_rfl) ?_; simp only [List.take_succ_cons, List.take_zero, List.drop_succ_cons, List.drop_zero]; (repeat (go_big_quiet_step (fail))); refine wpQuiet_nil ?_
          go_wp2_with fail
          go_roundw
          case rel => exact ⟨t + 1, by omega, by omega, by go_num, ((hx.drewN _).drew).set (by simp; omega) _, b0.far (by simp; omega) _, b1.far (by simp) _, b2.far (by simp) _, by rw [sched_next bs t ht1]; exact (b3.drewN _).u32_set t _⟩
          case measure => simp [intOf]; omega
        · obtain rfl : t = 64 := by omega
          rw [show ((64 : Nat) : Int) = 64 from rfl]
          have f0 := u32s_at b0 0 (by have : hs.length = 8 := H8.out; omega)
          have f1 := u32s_at b0 1 (by have : hs.length = 8 := H8.out; omega)
          have f2 := u32s_at b0 2 (by have : hs.length = 8 := H8.out; omega)
          have f3 := u32s_at b0 3 (by have : hs.length = 8 := H8.out; omega)
          have f4 := u32s_at b0 4 (by have : hs.length = 8 := H8.out; omega)
          have f5 := u32s_at b0 5 (by have : hs.length = 8 := H8.out; omega)
          have f6 := u32s_at b0 6 (by have : hs.length = 8 := H8.out; omega)
          have f7 := u32s_at b0 7 (by have : hs.length = 8 := H8.out; omega)
          go_wp2_with fail
          clear f0 f1 f2 f3 f4 f5 f6 f7
          have hg := b3.lt
          obtain ⟨gx, hgx⟩ : ∃ gx, gx = wr.heap.size := ⟨_, rfl⟩
          rw [← hgx] at hg ⊢
          have HG := Lib.hid hgx; clear hgx
          go_loopw [112] (fun i wx => ∃ t : Nat, t ≤ 64 ∧ i = .int .i64 t ∧ Ext w wx ∧ Blk wx w.heap.size 56 (u32s hs) ∧ Blk wx (w.heap.size + 1) 57 (u32s ks) ∧
            Blk wx (w.heap.size + 1 + 1) 56 (List.replicate 8 (.int .u32 0)) ∧ Blk wx (w.heap.size + 1 + 1 + 1) 57 (u32s (sched bs 64)) ∧
            Blk wx gx 56 (u32s (rounds ks (sched bs 64) hs t))) (fun i _ => 64 - (intOf i).toNat)
          case atStart =>
            refine ⟨0, by omega, rfl, hx.alloc _, b0.alloc _, b1.alloc _, b2.alloc _, b3.alloc _, ?_⟩
            rw [HG.out]
            exact Eq.mp (congrArg (fun l => Blk _ wr.heap.size 56 (u32s l)) (eight hs H8.out)) (Blk.new wr _ _)
          case round =>
            clear hx b0 b1 b2 b3
            obtain ⟨t, ht, rfl, hx, b0, b1, b2, b3, b4⟩ := hrel
            have HL := Lib.hid (rounds_length ks (sched bs 64) hs H8.out t)
            have HR := Lib.hid (rounds_words ks (sched bs 64) hs hw t)
            generalize hs' : rounds ks (sched bs 64) hs t = s at *
            have HS := Lib.hid hs'; clear hs'
            by_cases hlt : t < 64
            · have f0 := u32s_at b4 0 (by have : s.length = 8 := HL.out; omega)
              have f1 := u32s_at b4 1 (by have : s.length = 8 := HL.out; omega)
              have f2 := u32s_at b4 2 (by have : s.length = 8 := HL.out; omega)
              have f3 := u32s_at b4 3 (by have : s.length = 8 := HL.out; omega)
              have f4 := u32s_at b4 4 (by have : s.length = 8 := HL.out; omega)
              have f5 := u32s_at b4 5 (by have : s.length = 8 := HL.out; omega)
              have f6 := u32s_at b4 6 (by have : s.length = 8 := HL.out; omega)
              have f7 := u32s_at b4 7 (by have : s.length = 8 := HL.out; omega)
              have fk := u32s_at b1 t (by have : ks.length = 64 := HK.out; omega)
              have fw := u32s_at b3 t (by rw [sched_length]; omega)
              have g4 := HR.out 4
              have g0 := HR.out 0
              have z0 := b4.frozen 0
              have z1 := b4.frozen 1
              have z2 := b4.frozen 2
              have z3 := b4.frozen 3
              have z4 := b4.frozen 4
              have z5 := b4.frozen 5
              have z6 := b4.frozen 6
              have z7 := b4.frozen 7
              go_wp2_with fail
              go_quiet (fail)
              go_wp2_with fail
              go_quiet (first | (go_at_call 48; first | exact quiet_same (turned_any _ _ _ (by decide) (by omega) (by omega)) | exact quiet_add_same (turned_any _ _ _ (by decide) (by omega) (by omega))))
              go_wp2_with fail
              go_quiet (first | (go_at_call 48; first | exact quiet_same (turned_any _ _ _ (by decide) (by omega) (by omega)) | exact quiet_add_same (turned_any _ _ _ (by decide) (by omega) (by omega))))
              go_wp2_with fail
              go_roundw
              case rel =>
                refine ⟨t + 1, by omega, by go_num, (hx.drewN _).below (below_set8 _ _ _ _ _ _ _ _ _ _) (by omega), (b0.drewN _).below (below_set8 _ _ _ _ _ _ _ _ _ _) (by omega), (b1.drewN _).below (below_set8 _ _ _ _ _ _ _ _ _ _) (by omega), (b2.drewN _).below (below_set8 _ _ _ _ _ _ _ _ _ _) (by omega), (b3.drewN _).below (below_set8 _ _ _ _ _ _ _ _ _ _) (by omega), ?_⟩
                rw [rounds, HS.out]
                exact blk_set8 (b4.drewN _) HL.out _ _ _ _ _ _ _ _
              case measure => simp [intOf]; omega
            · obtain rfl : t = 64 := by omega
              rw [show ((64 : Nat) : Int) = 64 from rfl]
              go_wp2_with fail
              go_loopw [192] (fun i wx => ∃ t : Nat, t ≤ 8 ∧ i = .int .i64 t ∧ Ext w wx ∧ Blk wx w.heap.size 56 (u32s (addTo hs s t)) ∧
                Blk wx (w.heap.size + 1 + 1) 56 (List.replicate 8 (.int .u32 0)) ∧ Blk wx gx 56 (u32s s)) (fun i _ => 8 - (intOf i).toNat)
              case atStart => exact ⟨0, by omega, rfl, hx, b0, b2, b4⟩
              case round =>
                clear hx b0 b1 b2 b3 b4
                obtain ⟨t, ht, rfl, hx, b0, b2, b4⟩ := hrel
                have HA := Lib.hid (addTo_length hs s t)
                generalize ha' : addTo hs s t = ys at *
                have HA' := Lib.hid ha'; clear ha'
                by_cases hlt : t < 8
                · have f1 := u32s_at b0 t (by have : ys.length = hs.length := HA.out; have : hs.length = 8 := H8.out; omega)
                  have f2 := u32s_at b4 t (by have : s.length = 8 := HL.out; omega)
                  have z1 := b0.frozen t
                  go_wp2_with fail
                  refine wp_region_quiet_tail 8 (by kernel_rfl) (by kernel_rfl) (by kernel_rfl) ?_; simp only [List.take_succ_cons, List.take_zero, List.drop_succ_cons, List.drop_zero]; (repeat (go_big_quiet_step (fail))); refine wpQuiet_nil ?_
                  go_wp2_with fail
                  go_roundw
                  case rel =>
                    refine ⟨t + 1, by omega, by go_num, (hx.set (Nat.le_refl _) _).drew, ?_, (b2.far (by simp; omega) _).drew, (b4.far (by simp; omega) _).drew⟩
                    rw [addTo, HA'.out]
                    exact (b0.u32_set t _).drew
                  case measure => simp [intOf]; omega
                · obtain rfl : t = 8 := by omega
                  rw [show ((8 : Nat) : Int) = 8 from rfl]
                  have hy8 : ys.length = 8 := by have : ys.length = hs.length := HA.out; have : hs.length = 8 := H8.out; omega
                  have f0 := u32s_at b0 0 (by omega)
                  have f1 := u32s_at b0 1 (by omega)
                  have f2 := u32s_at b0 2 (by omega)
                  have f3 := u32s_at b0 3 (by omega)
                  have f4 := u32s_at b0 4 (by omega)
                  have f5 := u32s_at b0 5 (by omega)
                  have f6 := u32s_at b0 6 (by omega)
                  have f7 := u32s_at b0 7 (by omega)
                  have q0 := b2.cell_of (i := 0) rfl
                  have q1 := b2.cell_of (i := 1) rfl
                  have q2 := b2.cell_of (i := 2) rfl
                  have q3 := b2.cell_of (i := 3) rfl
                  have q4 := b2.cell_of (i := 4) rfl
                  have q5 := b2.cell_of (i := 5) rfl
                  have q6 := b2.cell_of (i := 6) rfl
                  have q7 := b2.cell_of (i := 7) rfl
                  have z0 := b2.frozen 0
                  have z1 := b2.frozen 1
                  have z2 := b2.frozen 2
                  have z3 := b2.frozen 3
                  have z4 := b2.frozen 4
                  have z5 := b2.frozen 5
                  have z6 := b2.frozen 6
                  have z7 := b2.frozen 7
                  have hfin : mixed ks bs hs = ys := by rw [mixed, HS.out, HA'.out]
                  have HY := Lib.hid hy8
                  have HF := Lib.hid hfin
                  clear hy8 hfin
                  go_wp2_with fail
                  have hb := blk_set8 (w := wr) (g := w.heap.size + 1 + 1) (s := List.replicate 8 0) b2 rfl (wd ys 0) (wd ys 1) (wd ys 2) (wd ys 3) (wd ys 4) (wd ys 5) (wd ys 6) (wd ys 7)
                  refine bodyPost_ret (res8 rfl rfl hb) rfl ⟨?_, hx.below (below_set8 _ _ _ _ _ _ _ _ _ _) (by omega)⟩
                  rw [eight ys HY.out, HF.out]
end Go.Proofs.Ytjhpdcfhdpnloaa
