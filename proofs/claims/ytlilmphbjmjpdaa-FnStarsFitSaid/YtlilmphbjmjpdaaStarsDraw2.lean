/- The drawn text and pattern of the law FnStarsFit. -/
import Derived.Test.YtlilmphbjmjpdaaStarsDraw
import Derived.Deep.RegionWith
import Derived.Deep.DeepCutAuto
namespace Go.Proofs.Ytlilmphbjmjpdaa
open Go.RowKit

theorem rdr_alloc_drew {w : World} {R k : Nat} {o : Obj} (h : Rdr w R k) : Rdr (w.alloc o).drew R k := h.kept (grown_drewN (World.grownBy_alloc _ _ none) 1) (by simp)
theorem grown_alloc_drew (w : World) (o : Obj) (row : Option Nat) : w.grownBy (w.alloc o).drew row := grown_drewN (World.grownBy_alloc _ _ _) 1

theorem quo13 (v : Nat) (h : (v : Int) < 14 ∨ v = 0) : v < 14 ∧ v / 13 < 2 ∧ (v : Int) / 13 < 2 ∧ 0 ≤ (v : Int) / 13 ∧ IntKind.i64.wrap ((v : Int) / 13) = (v : Int) / 13 ∧ ((v : Int) / 13).toNat = v / 13 :=
  ⟨by omega, by omega, by omega, by omega, IntWalk.i64_in _ (by omega), by omega⟩

theorem grown_of_drew {w w' : World} {o : Obj} {row : Option Nat} (h : (w.alloc o).drew.grownBy w' row) : (w.alloc o).grownBy w' row := (grown_drewN (grown_refl _ row) 1).trans h
theorem two_at {w w' : World} (s : ByteArray) (hs : s.size ≤ 6) {t : TypeId} {row : Option Nat} (hg : (w.alloc (.cells #[.string s, .string ⟨#[10]⟩] t (0, 0))).grownBy w' row) (hne : row ≠ some w.heap.size) (v : Nat) (hv : v < 2) :
    ∃ x, w'.cell? ⟨w.heap.size, v, none⟩ = some x ∧ Short 12 x :=
  lit_at hg hne (by intro x hx; simp at hx; rcases hx with rfl | rfl; exact ⟨_, rfl, by omega⟩; exact ⟨_, rfl, by decide⟩) v (by simpa using hv)

theorem rdr_drew {w : World} {R k : Nat} (h : Rdr w R k) : Rdr w.drew R k := h.kept (grown_drewN (grown_refl _ none) 1) (by simp)
theorem two_all (s : ByteArray) (hs : s.size ≤ 6) (v : Nat) (hv : v < 2) : ∃ y : ByteArray, y.size ≤ 12 ∧ ∀ W : World, (W.alloc (.cells #[.string s, .string ⟨#[10]⟩] 9 (0, 0))).cell? ⟨W.heap.size, v, none⟩ = some (.string y) := by
  rcases (show v = 0 ∨ v = 1 by omega) with rfl | rfl
  · exact ⟨s, by omega, fun W => World.cell?_alloc_mark _ _ _ _ _⟩
  · exact ⟨⟨#[10]⟩, by decide, fun W => World.cell?_alloc_mark _ _ _ _ _⟩

theorem grown_drew (w : World) (row : Option Nat) : w.grownBy w.drew row := grown_drewN (grown_refl _ _) 1
def DrawTwo (w : World) (m : Nat) (e : Ending) (w' : World) : Prop := ∃ s p : ByteArray, e = .returned (.tuple #[.string s, .string p]) ∧ s.size ≤ m ∧ p.size ≤ m ∧ Below w.heap.size w w'

set_option maxHeartbeats 1600000 in
theorem draw_StarsFit (w : World) (a : Option Addr) (n c : Nat) (f : Nat → UInt8) (hb : BytesAt w a n f) (hc : n ≤ c) (hc' : c ≤ 9223372036854775807) :
    Calls Try.prog 19 #[.slice a n c] w (DrawTwo w 12) := by
  have HB := Lib.hid hb; clear hb
  go_enter Try.func19, Try.ntmps19
  go_wp2_with fail
  refine (open_any _ _ _ _ _ HB.out hc hc').mono ?_
  rintro e w1 ⟨rfl, hb1, hr1⟩
  have HB1 := Lib.hid hb1
  clear hb1
  go_wp2_with fail
  refine (letters_any _ _ _ hr1 (by omega)).mono ?_
  rintro e w2 ⟨s, rfl, hs, hg2, hr2⟩
  have HG2 := Lib.hid hg2
  clear hr1 HB hg2
  go_wp2_with fail
  refine (pick_any _ _ _ _ hr2 (by omega) (by omega) (by omega)).mono ?_
  rintro e w3 ⟨v, rfl, hv, hg3, hr3⟩
  clear hr2
  by_cases h0 : v = 0
  · subst h0
    have HB3 := Lib.hid (below_of_grown (HG2.out.trans hg3) HB1.out.size (by intro q hq; injection hq with hq; omega))
    clear hg3 hr3 hv
    go_wp2_with fail
    refine (spec_EscapeStars s _ (by omega)).mono ?_
    rintro e w4 ⟨rfl, rfl⟩
    go_wp2
    go_ret2
    exact ⟨s, _, rfl, by omega, by have := escB_le (bl s); rw [mkS_size]; rw [bl_len] at this; omega, HB1.out.trans HB3.out⟩
  · have hv0 : ((v : Int) == 0) = false := by simp; omega
    have HG3 := Lib.hid (HG2.out.trans hg3)
    have HR3 := Lib.hid hr3
    have hRl := hr3.lt
    clear hg3 hr3 hv HG2
    go_wp2_with fail
    go_region_with (first
      | (go_at_call 27; refine (pick_any _ _ _ _ (rdr_alloc_drew HR3.out) (by omega) (by omega) (by omega)).mono ?_; rintro e w4 ⟨v4, rfl, hv4, hg4, hr4⟩; have G4 := (HG3.out.trans (grown_alloc_drew _ _ _)).trans hg4; obtain ⟨v14, q1, q2, q3, q4, q5⟩ := quo13 v4 hv4; obtain ⟨z, hz, y, rfl, hy⟩ := two_at s hs (grown_of_drew hg4) (by intro e; injection e with e; omega) (v4 / 13) q1)
      | (go_at_call 27; refine (pick_any _ _ _ _ (rdr_drew HR3.out) (by omega) (by omega) (by omega)).mono ?_; rintro e w4 ⟨v4, rfl, hv4, hg4, hr4⟩; have G4 := (HG3.out.trans (grown_drew _ _)).trans hg4; obtain ⟨v14, q1, q2, q3, q4, q5⟩ := quo13 v4 hv4; obtain ⟨y, hy, hall⟩ := two_all s hs (v4 / 13) q1)
      | (go_at_call 28; refine (pattern_any _ _ _ hr4 (by omega)).mono ?_; rintro e w5 ⟨p, rfl, hp, hg5, hr5⟩; have G5 := G4.trans hg5; have hy5 : w5.cell? ⟨w3.heap.size, v4 / 13, none⟩ = some (.string y) := hg5.cell (a := ⟨w3.heap.size, v4 / 13, none⟩) hz (by intro e; injection e with e; have e' : w3.heap.size = w.heap.size := (by first | exact e | exact e.symm); omega))
      | (go_at_call 28; refine (pattern_any _ _ _ (hr4.kept (World.grownBy_alloc _ _ none) (by simp)) (by omega)).mono ?_; rintro e w5 ⟨p, rfl, hp, hg5, hr5⟩; have G5 := (G4.trans (World.grownBy_alloc _ _ _)).trans hg5; have hl4 := hr4.lt; have hy5 : w5.cell? ⟨w4.heap.size, v4 / 13, none⟩ = some (.string y) := hg5.cell (a := ⟨w4.heap.size, v4 / 13, none⟩) (hall w4) (by intro e; injection e with e; have e' : w4.heap.size = w.heap.size := (by first | exact e | exact e.symm); omega))
      | (go_at_call 28; refine (pattern_any _ _ _ hr4 (by omega)).mono ?_; rintro e w5 ⟨p, rfl, hp, hg5, hr5⟩; have G5 := G4.trans hg5))
    all_goals
      have BB : Hid (Below w.heap.size w w5) := HB1.out.trans (below_of_grown G5 HB1.out.size (by intro q hq; injection hq with hq; omega))
      clear G5 G4 hg5 hg4 hr4 hr5
      go_wp2
      go_ret2
      first
        | exact ⟨y, p, rfl, hy, hp, BB.out⟩
        | exact ⟨y, p, rfl, hy, hp, BB.out.alloc BB.out.size _⟩
end Go.Proofs.Ytlilmphbjmjpdaa
