/- The drawn lists of points, and the drawn bytes for PointsOf. -/
import Derived.Test.YtfefgnehbpfonaaPtDraw2
import Derived.Test.YtfefgnehbpfonaaInts
import Derived.Test.YtfefgnehbpfonaaPointsOf
namespace Go.Proofs.Ytfefgnehbpfonaa
open Go.RowKit

/-- Drawn numbers, at most 7, in new memory. -/
def DrawInts (w : World) (e : Ending) (w' : World) : Prop :=
  ∃ (v : Value) (l : List Int), e = .returned v ∧ l.length ≤ 7 ∧ (∀ i, i < l.length → -9223372036854775808 ≤ l.getD i 0 ∧ l.getD i 0 ≤ 9223372036854775807) ∧ w'.ownsRow w.heap.size 3 1 v l.length (l.map intV) ∧ Below w.heap.size w w'

theorem bd_snoc {l : List Int} {p : Int} (h : ∀ i, i < l.length → -9223372036854775808 ≤ l.getD i 0 ∧ l.getD i 0 ≤ 9223372036854775807) (h1 : -2147483648 ≤ p) (h2 : p ≤ 2147483647) :
    ∀ i, i < (l ++ [p]).length → -9223372036854775808 ≤ (l ++ [p]).getD i 0 ∧ (l ++ [p]).getD i 0 ≤ 9223372036854775807 := by
  intro i hi
  by_cases hil : i < l.length
  · have := h i hil
    simpa [List.getD_eq_getElem?_getD, List.getElem?_append, hil] using this
  · have e : i = l.length := by simp at hi; omega
    subst e
    simp [List.getD_eq_getElem?_getD]
    omega

set_option maxHeartbeats 800000 in
theorem draw_PointsBytes (a : Option Addr) (n c : Nat) (f : Nat → UInt8) (w : World) (hb : BytesAt w a n f) (hc : n ≤ c) (hc' : c ≤ 9223372036854775807) :
    Calls Try.prog 37 #[.slice a n c] w (DrawInts w) := by
  obtain ⟨i0, hi, hz0, hz1, hz2⟩ := info_parts info_i64
  have HI := Lib.hid hi; have HZ0 := Lib.hid hz0; have HZ1 := Lib.hid hz1; have HZ2 := Lib.hid hz2
  clear hi hz0 hz1 hz2
  go_enter Try.func37, Try.ntmps37
  go_wp2_with fail
  refine (open_any _ _ _ _ _ hb hc hc').mono ?_
  rintro e w1 ⟨rfl, hb1, hr1⟩
  have B1 := Lib.hid hb1; have R1 := Lib.hid hr1
  have hRlt := hr1.lt
  clear hb hb1 hr1
  go_wp2_with fail
  refine (pick_any _ _ 1000000 _ (R1.out.kept (World.grownBy_alloc _ _ none) (by simp)) (by omega) (by omega) (by omega)).mono ?_
  rintro e w2 ⟨j0, rfl, hj0, g2, r2⟩
  have hj7 : j0 ≤ 7 := by omega
  have O2 := Lib.hid (own_other (own_new w1 #[] 3 0 rfl (by omega)) g2 (fun k hk e => by simp [Value.ownBlock] at hk; injection e with e; omega))
  have G2 := Lib.hid ((World.grownBy_alloc w1 (.cells #[] 3 (0, 0)) (some w.heap.size)).trans g2)
  have R2 := Lib.hid r2
  clear hj0 g2 r2
  go_wp2
  go_loopw [4, 5] (fun v t wr => ∃ (j : Nat) (l : List Int), j ≤ 7 ∧ t = .int .i64 (j : Int) ∧ l.length + j ≤ 7 ∧ (∀ i, i < l.length → -9223372036854775808 ≤ l.getD i 0 ∧ l.getD i 0 ≤ 9223372036854775807) ∧ wr.ownsRow w1.heap.size 3 1 v l.length (l.map intV) ∧ w1.grownBy wr (some w.heap.size) ∧ Rdr wr w.heap.size (8 * j + 100)) (fun _ t _ => (intOf t).toNat)
  case atStart => exact ⟨j0, [], hj7, rfl, by simp; omega, by intro i hi; simp at hi, O2.out, G2.out, R2.out.less (by omega)⟩
  case round =>
    obtain ⟨j, l, hj, rfl, hl, hbd, own, hg, hr⟩ := hrel
    have O3 := Lib.hid own; have G3 := Lib.hid hg; have R3 := Lib.hid hr; have HBD := Lib.hid hbd
    obtain ⟨av, cv, rfl, _, kv, kv', _⟩ := own_formn own
    clear own hg hr hbd
    by_cases hj0 : 0 < j
    · go_wp2_with fail
      refine (point_any _ _ _ _ R3.out (by omega) (by omega) (by omega)).mono ?_
      rintro e w3 ⟨p, rfl, hp1, hp2, g4, r4⟩
      have O4 := Lib.hid (own_other O3.out g4 (fun q hq e => by have := own_ge O3.out q hq; injection e with e; omega))
      have G4 := Lib.hid (grown_trans' G3.out g4)
      have R4 := Lib.hid r4
      clear g4 r4
      go_wp2_with (at_builtin; refine wpList_append_row rfl (.tmp 15) (.tmp 18) _ rfl w1.heap.size 3 i0 _ 8 Try.underlying33 HI.out HZ0.out HZ1.out HZ2.out rfl (.slice av l.length cv) l.length (l.map intV) rfl (own_below O4.out ((Below.refl _ _).alloc (Nat.le_refl _) _)) (some ⟨w3.heap.size, 0, none⟩) 1 1 [.int .i64 p] rfl (by intro e; cases e) (own_formn_row (own_new w3 #[.int .i64 p] 3 1 rfl (by omega))) rfl (ints_one [p]) (by omega) (by omega) (by have := G4.out.size; simp; omega) ?_; intro v5 w5 o5 h5 _; have O5 := Lib.hid o5; have H5 := Lib.hid h5; clear o5 h5)
      have R4' := Lib.hid (R4.out.kept (World.grownBy_alloc w3 (.cells #[.int .i64 p] 3 (0, 0)) none) (by simp))
      have G4' := Lib.hid ((G4.out).trans (World.grownBy_alloc w3 (.cells #[.int .i64 p] 3 (0, 0)) (some w.heap.size)))
      have R5 := Lib.hid (R4'.out.kept H5.out (fun q hq => by have := own_ge O4.out q hq; omega))
      have G5 := Lib.hid (grown_then G4'.out H5.out (fun q hq => .inl (own_ge O4.out q hq).1))
      go_roundw
      case rel => exact ⟨j - 1, l ++ [p], by omega, by go_num, by simp; omega, bd_snoc HBD.out hp1 hp2, by simpa [intV] using O5.out, G5.out, R5.out.less (by omega)⟩
      case measure => simp [intOf]; omega
    · go_wp2
      go_ret
      exact ⟨_, l, rfl, by omega, HBD.out, own_mono O3.out (by have := B1.out.size; omega), B1.out.trans (below_of_grown G3.out (B := w.heap.size) B1.out.size (by intro k hk; injection hk with hk; omega))⟩

/-- Drawn bytes in new memory. -/
def DrawBs (N : Nat) (w : World) (e : Ending) (w' : World) : Prop :=
  ∃ (v : Value) (l : List UInt8), e = .returned v ∧ l.length ≤ N ∧ w'.ownsRow w.heap.size 5 1 v l.length (l.map byteV) ∧ Below w.heap.size w w'

theorem zeros_bytes (n : Nat) : (madeCells (Value.int .u8 0).cells (n * 1)).toList = (List.replicate n (0 : UInt8)).map byteV := by
  apply List.ext_getElem
  · simp [madeCells]
  · intro i h1 h2
    simp [madeCells, Value.cells, byteV, Nat.mod_one]

set_option maxHeartbeats 800000 in
theorem draw_PointsOf (a : Option Addr) (n c : Nat) (f : Nat → UInt8) (w : World) (hb : BytesAt w a n f) (hc : n ≤ c) (hc' : c ≤ 9223372036854775807) :
    Calls Try.prog 42 #[.slice a n c] w (DrawBs 601 w) := by
  obtain ⟨i0, hi, hz0, hz1, hz2⟩ := info_parts info_u8
  have HI := Lib.hid hi; have HZ0 := Lib.hid hz0; have HZ1 := Lib.hid hz1; have HZ2 := Lib.hid hz2
  clear hi hz0 hz1 hz2
  go_enter Try.func42, Try.ntmps42
  go_wp2_with fail
  refine (open_any _ _ _ _ _ hb hc hc').mono ?_
  rintro e w1 ⟨rfl, hb1, hr1⟩
  have B1 := Lib.hid hb1; have R1 := Lib.hid hr1
  clear hb hb1 hr1
  go_wp2_with fail
  refine (odd_any _ _ 1000000 _ R1.out (by omega) (by omega) (by omega)).mono ?_
  rintro e w2 ⟨b, rfl, g2, r2⟩
  have B2 : Hid (Below w.heap.size w w2) := B1.out.trans (below_of_grown g2 (B := w.heap.size) B1.out.size (by intro k hk; injection hk with hk; omega))
  have R2 := Lib.hid r2
  clear g2 r2
  cases b
  · go_wp2_with fail
    refine (pointBytes_any _ _ _ _ R2.out (by omega) (by omega) (by omega)).mono ?_
    rintro e w3 ⟨v, l, rfl, hl, own, g3, r3⟩
    have O3 := Lib.hid own
    have B3 : Hid (Below w.heap.size w w3) := B2.out.trans (below_of_grown g3 (B := w.heap.size) B2.out.size (by intro k hk; injection hk with hk; omega))
    clear own g3 r3
    go_wp2
    go_ret
    exact ⟨_, l, rfl, by omega, own_mono O3.out B2.out.size, B3.out⟩
  · go_wp2_with (at_make; refine wpList_make_full _ rfl _ _ _ rfl w2.heap.size 5 i0 _ 1 Try.underlying24 HI.out HZ0.out HZ1.out .i64 .i64 601 601 601 rfl rfl rfl rfl (by rw [HZ2.out]; omega) (by simp only [maxLen]; omega) (Nat.le_refl _) ?_; intro w3 hown hgrow; have O3 := Lib.hid hown; have H3 := Lib.hid hgrow; clear hown hgrow)
    go_ret
    refine ⟨_, List.replicate 601 0, rfl, by rw [List.length_replicate]; exact Nat.le_refl _, ?_, B2.out.trans (below_of_grown H3.out B2.out.size (by intro k hk; cases hk))⟩
    have h1 := own_mono O3.out B2.out.size
    rw [zeros_bytes 601] at h1
    rw [List.length_replicate]
    exact h1
end Go.Proofs.Ytfefgnehbpfonaa
