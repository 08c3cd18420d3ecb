/- place.Parts and stowageref13.Parts at whatever number of sets. Texts that are read as data. -/
import Derived.Test.YtjhpdcfhdpnloaaPlace4
namespace Go.Proofs.Ytjhpdcfhdpnloaa
open Go.RowKit

def partsE (l : List Text) (z : Int) : Int := if z < 1 ∨ 4 < z then 2 else if 10000 < l.length then 3 else if l.all mayB then 0 else 2
def partsL (l : List Text) (z : Int) : List (List Text) := if partsE l z = 0 then partsF l z.toNat else []
def PartsV (w : World) (lo : Nat) (v : Value) (vs : List Value) (ps : List (List Text)) : Prop :=
  (v = .slice none 0 0 ∧ ps = [] ∧ vs = []) ∨ ∃ g, v = .slice (some ⟨g, 0, none⟩) ps.length ps.length ∧ lo ≤ g ∧ RowsOf w lo g vs ps
def PartsPost (er : Int) (ps : List (List Text)) (w : World) (e : Ending) (w' : World) : Prop := ∃ v vs, e = .returned (.tuple #[v, .int .i64 er]) ∧ PartsV w' w.heap.size v vs ps ∧ Ext w w'

set_option maxHeartbeats 1000000 in
theorem parts_any (A : Option Addr) (n c lo hi : Nat) (z : Int) (l : List Text) (w : World) (hn : n ≤ 9223372036854775807) (hl : l.length = n) (hr : Rd w lo hi A (strs l)) (hs : ∀ s ∈ l, s.length ≤ 9223372036854775807) :
    Calls Try.prog 14 #[.slice A n c, .int .i64 z] w (PartsPost (partsE l z) (partsL l z) w) := by
  by_cases h1 : z < 1
  · have he : partsE l z = 2 := if_pos (.inl h1)
    have hL : partsL l z = [] := by rw [partsL, if_neg (by rw [he]; decide)]
    rw [he, hL]
    have hd1 : decide (z < 1) = true := by simpa using h1
    clear hr hs he hL
    go_enter Try.func14, Try.ntmps14
    go_wp2_with fail
    all_goals (go_ret2; exact ⟨_, [], rfl, .inl ⟨rfl, rfl, rfl⟩, Ext.refl w⟩)
  · by_cases h4 : 4 < z
    · have he : partsE l z = 2 := if_pos (.inr h4)
      have hL : partsL l z = [] := by rw [partsL, if_neg (by rw [he]; decide)]
      rw [he, hL]
      have hd1 : decide (z < 1) = false := by simpa using h1
      have hd4 : decide (4 < z) = true := by simpa using h4
      clear hr hs he hL
      go_enter Try.func14, Try.ntmps14
      go_wp2_with fail
      all_goals (go_ret2; exact ⟨_, [], rfl, .inl ⟨rfl, rfl, rfl⟩, Ext.refl w⟩)
    · by_cases hn1 : n ≤ 10000
      · obtain ⟨m, rfl⟩ : ∃ m : Nat, z = m := ⟨z.toNat, by omega⟩
        refine (parts_go A n c lo hi m l w hn1 hl (by omega) (by omega) hr hs).mono ?_
        rintro _ w' (⟨ha, vs, rfl, hR, hx⟩ | ⟨ha, rfl, hx⟩)
        · have he : partsE l m = 0 := by rw [partsE, if_neg (by omega), if_neg (by omega), if_pos ha]
          have hL : partsL l m = partsF l m := by rw [partsL, if_pos he]; rfl
          rw [he, hL]
          exact ⟨_, vs, rfl, .inr ⟨_, by rw [partsF_length], Nat.le_refl _, hR⟩, hx⟩
        · have he : partsE l m = 2 := by rw [partsE, if_neg (by omega), if_neg (by omega), if_neg (by rw [ha]; decide)]
          have hL : partsL l m = [] := by rw [partsL, if_neg (by rw [he]; decide)]
          rw [he, hL]
          exact ⟨_, [], rfl, .inl ⟨rfl, rfl, rfl⟩, hx⟩
      · have he : partsE l z = 3 := by rw [partsE, if_neg (by omega), if_pos (by omega)]
        have hL : partsL l z = [] := by rw [partsL, if_neg (by rw [he]; decide)]
        rw [he, hL]
        have hd1 : decide (z < 1) = false := by simpa using h1
        have hd4 : decide (4 < z) = false := by simpa using h4
        have hdn : decide ((10000 : Int) < n) = true := by simp; omega
        clear hr hs he hL hl
        go_enter Try.func14, Try.ntmps14
        go_wp2_with fail
        all_goals (go_ret2; exact ⟨_, [], rfl, .inl ⟨rfl, rfl, rfl⟩, Ext.refl w⟩)

set_option maxHeartbeats 1000000 in
theorem refParts_any (A : Option Addr) (n c lo hi : Nat) (z : Int) (l : List Text) (w : World) (hn : n ≤ 9223372036854775807) (hl : l.length = n) (hr : Rd w lo hi A (strs l)) (hs : ∀ s ∈ l, s.length ≤ 9223372036854775807) :
    Calls Try.prog 15 #[.slice A n c, .int .i64 z] w (PartsPost (partsE l z) (partsL l z) w) := by
  by_cases h1 : z < 1
  · have he : partsE l z = 2 := if_pos (.inl h1)
    have hL : partsL l z = [] := by rw [partsL, if_neg (by rw [he]; decide)]
    rw [he, hL]
    have hd1 : decide (z < 1) = true := by simpa using h1
    clear hr hs he hL
    go_enter Try.func15, Try.ntmps15
    go_wp2_with fail
    all_goals (go_ret2; exact ⟨_, [], rfl, .inl ⟨rfl, rfl, rfl⟩, Ext.refl w⟩)
  · by_cases h4 : 4 < z
    · have he : partsE l z = 2 := if_pos (.inr h4)
      have hL : partsL l z = [] := by rw [partsL, if_neg (by rw [he]; decide)]
      rw [he, hL]
      have hd1 : decide (z < 1) = false := by simpa using h1
      have hd4 : decide (4 < z) = true := by simpa using h4
      clear hr hs he hL
      go_enter Try.func15, Try.ntmps15
      go_wp2_with fail
      all_goals (go_ret2; exact ⟨_, [], rfl, .inl ⟨rfl, rfl, rfl⟩, Ext.refl w⟩)
    · by_cases hn1 : n ≤ 10000
      · obtain ⟨m, rfl⟩ : ∃ m : Nat, z = m := ⟨z.toNat, by omega⟩
        refine (refParts_go A n c lo hi m l w hn1 hl (by omega) (by omega) hr hs).mono ?_
        rintro _ w' (⟨ha, vs, rfl, hR, hx⟩ | ⟨ha, rfl, hx⟩)
        · have he : partsE l m = 0 := by rw [partsE, if_neg (by omega), if_neg (by omega), if_pos ha]
          have hL : partsL l m = partsF l m := by rw [partsL, if_pos he]; rfl
          rw [he, hL]
          exact ⟨_, vs, rfl, .inr ⟨_, by rw [partsF_length], Nat.le_refl _, hR⟩, hx⟩
        · have he : partsE l m = 2 := by rw [partsE, if_neg (by omega), if_neg (by omega), if_neg (by rw [ha]; decide)]
          have hL : partsL l m = [] := by rw [partsL, if_neg (by rw [he]; decide)]
          rw [he, hL]
          exact ⟨_, [], rfl, .inl ⟨rfl, rfl, rfl⟩, hx⟩
      · have he : partsE l z = 3 := by rw [partsE, if_neg (by omega), if_pos (by omega)]
        have hL : partsL l z = [] := by rw [partsL, if_neg (by rw [he]; decide)]
        rw [he, hL]
        have hd1 : decide (z < 1) = false := by simpa using h1
        have hd4 : decide (4 < z) = false := by simpa using h4
        have hdn : decide ((10000 : Int) < n) = true := by simp; omega
        clear hr hs he hL hl
        go_enter Try.func15, Try.ntmps15
        go_wp2_with fail
        all_goals (go_ret2; exact ⟨_, [], rfl, .inl ⟨rfl, rfl, rfl⟩, Ext.refl w⟩)
end Go.Proofs.Ytjhpdcfhdpnloaa
