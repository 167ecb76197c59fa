/- The drawn bytes of points. -/
import Derived.Test.YtgbdkajnlemblaaPtDraw
import Derived.Test.YtgbdkajnlemblaaPoint
import Derived.Test.YtgbdkajnlemblaaApp
import Derived.Test.YtgbdkajnlemblaaMarkB
import Derived.Test.YtgbdkajnlemblaaLawPut
namespace Go.Proofs.Ytgbdkajnlemblaa
open Go.RowKit

theorem grown_then {a b c : World} {row row' : Option Nat} (h : a.grownBy b row) (k : b.grownBy c row') (hr : ∀ j, row' = some j → a.heap.size ≤ j ∨ row = some j) : a.grownBy c row :=
  ⟨k.os.trans h.os, k.tape.trans h.tape, k.output.trans h.output, Nat.le_trans h.size k.size, fun i hi hn => (k.block i (Nat.lt_of_lt_of_le hi h.size) (fun e => by
    rcases hr i e.symm with h1 | h1
    · omega
    · exact hn h1.symm)).trans (h.block i hi hn)⟩

theorem bytes_one' (l : List UInt8) : ∀ u ∈ l.map byteV, u.oneCell' = true := by
  intro u hu
  obtain ⟨b, _, rfl⟩ := List.mem_map.1 hu
  rfl

/-- Drawn bytes, at most N, in new memory. -/
def DrawBytes (w : World) (R k N : Nat) (e : Ending) (w' : World) : Prop :=
  ∃ (v : Value) (l : List UInt8), e = .returned v ∧ l.length ≤ N ∧ w'.ownsRow w.heap.size 5 1 v l.length (l.map byteV) ∧ w.grownBy w' (some R) ∧ Rdr w' R (k - 100)

/-- Block g holds n bytes. -/
def SmallBlk (W : World) (g n : Nat) : Prop := ∃ l : List UInt8, l.length = n ∧ RowAt W (some ⟨g, 0, none⟩) (l.map byteV)
theorem smallBlk_new (W : World) (C : Array Value) (g : Nat) (hg : W.heap.size = g) (hC : C.toList = ((C.toList.map fun v => match v with | .int _ n => UInt8.ofNat n.toNat | _ => 0).map byteV)) : SmallBlk (W.alloc (.cells C 5 (0, 0))) g C.size := by
  subst hg
  refine ⟨C.toList.map fun v => match v with | .int _ n => UInt8.ofNat n.toNat | _ => 0, by simp, ?_⟩
  rw [← hC]
  intro i hi
  refine ⟨W.heap.size, 0, rfl, by simp, ?_⟩
  rw [Nat.zero_add, World.cell?_alloc_mark]
  simp
theorem smallBlk_alloc {W : World} {g n : Nat} (h : SmallBlk W g n) (o : Obj) : SmallBlk (W.alloc o) g n := by
  obtain ⟨l, hl, hr⟩ := h
  exact ⟨l, hl, hr.below (Nat.le_refl _) ((Below.refl _ _).alloc (Nat.le_refl _) _)⟩
def SmallSlice (B : Nat) (W : World) (x : Value) : Prop := ∃ g n, x = .slice (some ⟨g, 0, none⟩) n n ∧ n ≤ 4 ∧ B ≤ g ∧ SmallBlk W g n
theorem smallSlice_grown {B : Nat} {W W' : World} {x : Value} {R : Nat} (h : SmallSlice B W x) (hg : W.grownBy W' (some R)) (hR : R < B) : SmallSlice B W' x := by
  obtain ⟨g, n, hx, hn, hB, l, hl, hr⟩ := h
  refine ⟨g, n, hx, hn, hB, l, hl, hr.grown hg ?_⟩
  intro k y hk hy
  injection hk with hk; injection hy with hy
  subst hk; subst hy
  show g ≠ R
  omega

theorem badTable (W : World) : ∀ x ∈ [Value.slice (some ⟨W.heap.size, 0, none⟩) 1 1, Value.slice (some ⟨W.heap.size + 1, 0, none⟩) 2 2, Value.slice (some ⟨W.heap.size + 1 + 1, 0, none⟩) 3 3, Value.slice (some ⟨W.heap.size + 1 + 1 + 1, 0, none⟩) 3 3, Value.slice (some ⟨W.heap.size + 1 + 1 + 1 + 1, 0, none⟩) 4 4, Value.slice (some ⟨W.heap.size + 1 + 1 + 1 + 1 + 1, 0, none⟩) 4 4, Value.slice (some ⟨W.heap.size + 1 + 1 + 1 + 1 + 1 + 1, 0, none⟩) 2 2, Value.slice (some ⟨W.heap.size + 1 + 1 + 1 + 1 + 1 + 1 + 1, 0, none⟩) 1 1], SmallSlice W.heap.size (((((((((W.alloc (.cells #[Value.int .u8 128] 5 (0, 0))).alloc (.cells #[Value.int .u8 192, Value.int .u8 128] 5 (0, 0))).alloc (.cells #[Value.int .u8 224, Value.int .u8 128, Value.int .u8 128] 5 (0, 0))).alloc (.cells #[Value.int .u8 237, Value.int .u8 160, Value.int .u8 128] 5 (0, 0))).alloc (.cells #[Value.int .u8 240, Value.int .u8 128, Value.int .u8 128, Value.int .u8 128] 5 (0, 0))).alloc (.cells #[Value.int .u8 244, Value.int .u8 144, Value.int .u8 128, Value.int .u8 128] 5 (0, 0))).alloc (.cells #[Value.int .u8 226, Value.int .u8 130] 5 (0, 0))).alloc (.cells #[Value.int .u8 255] 5 (0, 0))).alloc (.cells #[Value.slice (some ⟨W.heap.size, 0, none⟩) 1 1, Value.slice (some ⟨W.heap.size + 1, 0, none⟩) 2 2, Value.slice (some ⟨W.heap.size + 1 + 1, 0, none⟩) 3 3, Value.slice (some ⟨W.heap.size + 1 + 1 + 1, 0, none⟩) 3 3, Value.slice (some ⟨W.heap.size + 1 + 1 + 1 + 1, 0, none⟩) 4 4, Value.slice (some ⟨W.heap.size + 1 + 1 + 1 + 1 + 1, 0, none⟩) 4 4, Value.slice (some ⟨W.heap.size + 1 + 1 + 1 + 1 + 1 + 1, 0, none⟩) 2 2, Value.slice (some ⟨W.heap.size + 1 + 1 + 1 + 1 + 1 + 1 + 1, 0, none⟩) 1 1] 22 (0, 0))) x := by
  intro x hx
  simp only [List.mem_cons, List.not_mem_nil, or_false] at hx
  rcases hx with rfl | rfl | rfl | rfl | rfl | rfl | rfl | rfl
  · exact ⟨_, _, rfl, by omega, by omega, (smallBlk_alloc (smallBlk_alloc (smallBlk_alloc (smallBlk_alloc (smallBlk_alloc (smallBlk_alloc (smallBlk_alloc (smallBlk_alloc (smallBlk_new _ _ _ (by simp) rfl) _) _) _) _) _) _) _) _)⟩
  · exact ⟨_, _, rfl, by omega, by omega, (smallBlk_alloc (smallBlk_alloc (smallBlk_alloc (smallBlk_alloc (smallBlk_alloc (smallBlk_alloc (smallBlk_alloc (smallBlk_new _ _ _ (by simp) rfl) _) _) _) _) _) _) _)⟩
  · exact ⟨_, _, rfl, by omega, by omega, (smallBlk_alloc (smallBlk_alloc (smallBlk_alloc (smallBlk_alloc (smallBlk_alloc (smallBlk_alloc (smallBlk_new _ _ _ (by simp) rfl) _) _) _) _) _) _)⟩
  · exact ⟨_, _, rfl, by omega, by omega, (smallBlk_alloc (smallBlk_alloc (smallBlk_alloc (smallBlk_alloc (smallBlk_alloc (smallBlk_new _ _ _ (by simp) rfl) _) _) _) _) _)⟩
  · exact ⟨_, _, rfl, by omega, by omega, (smallBlk_alloc (smallBlk_alloc (smallBlk_alloc (smallBlk_alloc (smallBlk_new _ _ _ (by simp) rfl) _) _) _) _)⟩
  · exact ⟨_, _, rfl, by omega, by omega, (smallBlk_alloc (smallBlk_alloc (smallBlk_alloc (smallBlk_new _ _ _ (by simp) rfl) _) _) _)⟩
  · exact ⟨_, _, rfl, by omega, by omega, (smallBlk_alloc (smallBlk_alloc (smallBlk_new _ _ _ (by simp) rfl) _) _)⟩
  · exact ⟨_, _, rfl, by omega, by omega, (smallBlk_alloc (smallBlk_new _ _ _ (by simp) rfl) _)⟩

set_option maxHeartbeats 800000 in
theorem pointBytes_any (w : World) (R k : Nat) (m : Int) (h : Rdr w R k) (hk : 100 ≤ k) (hm : -2147483648 ≤ m) (hm' : m ≤ 2147483647) :
    Calls Try.prog 10 #[.pointer (some ⟨R, 0, none⟩), .int .i64 m] w (DrawBytes w R k 28) := by
  obtain ⟨i0, hi, hz0, hz1, hz2⟩ := info_parts info_u8
  have HI := Lib.hid hi; have HZ0 := Lib.hid hz0; have HZ1 := Lib.hid hz1; have HZ2 := Lib.hid hz2
  clear hi hz0 hz1 hz2
  have hRlt := h.lt
  go_enter Try.func10, Try.ntmps10
  go_wp2_with fail
  refine (pick_any _ _ k _ (h.kept (World.grownBy_alloc _ _ none) (by simp)) (by omega) (by omega) (by omega)).mono ?_
  rintro e w1 ⟨j0, rfl, hj0, g1, r1⟩
  have hj5 : j0 ≤ 5 := by omega
  have O1 := Lib.hid (own_other (own_new w #[] 5 0 rfl (by omega)) g1 (fun k hk e => by simp [Value.ownBlock] at hk; injection e with e; omega))
  have G1 := Lib.hid ((World.grownBy_alloc w (.cells #[] 5 (0, 0)) (some R)).trans g1)
  have R1 := Lib.hid r1
  clear h hj0 g1 r1
  go_wp2
  go_loopw [5, 6] (fun v t wr => ∃ (j : Nat) (l : List UInt8), j ≤ 5 ∧ t = .int .i64 (j : Int) ∧ l.length + 4 * j ≤ 20 ∧ wr.ownsRow w.heap.size 5 1 v l.length (l.map byteV) ∧ w.grownBy wr (some R) ∧ Rdr wr R (8 * j + (k - 60))) (fun _ t _ => (intOf t).toNat)
  case atStart => exact ⟨j0, [], hj5, rfl, by simp; omega, O1.out, G1.out, R1.out.less (by omega)⟩
  case round =>
    obtain ⟨j, l, hj, rfl, hl, own, hg, hr⟩ := hrel
    have O2 := Lib.hid own; have G2 := Lib.hid hg; have R2 := Lib.hid hr
    clear own hg hr
    by_cases hj0 : 0 < j
    · go_wp2_with fail
      refine (point_any _ _ _ _ R2.out (by omega) (by omega) (by omega)).mono ?_
      rintro e w3 ⟨p, rfl, hp1, hp2, g3, r3⟩
      have O3 := Lib.hid (own_other O2.out g3 (fun q hq e => by have := own_ge O2.out q hq; injection e with e; omega))
      have G3 := Lib.hid (grown_trans' G2.out g3)
      have R3 := Lib.hid r3
      clear g3 r3
      by_cases hv : ptB p = true
      · have hle := putP_le p
        go_wp2_with (first
          | (go_at_call 18; refine (spec_PointValid _ _).mono ?_; rintro e w' ⟨rfl, rfl⟩)
          | (go_at_call 14; refine (spec_PutPoint _ _).mono ?_; rintro e w4 ⟨v4, rfl, o4, b4⟩; obtain ⟨a4, c4, rfl, r4, k4, k4', g4⟩ := own_formn o4; have O4 := Lib.hid o4; have B4 := Lib.hid b4; clear o4 b4 r4 g4)
          | (at_builtin; refine wpList_append_row rfl (.tmp 20) (.tmp 22) _ rfl w.heap.size 5 i0 _ 1 Try.underlying22 HI.out HZ0.out HZ1.out HZ2.out rfl _ l.length (l.map byteV) rfl (own_below O3.out B4.out) a4 (putP p).length c4 ((putP p).map byteV) rfl (fun e => by subst e; exact own_none O4.out) (own_formn_row O4.out) (by simp) (bytes_one' _) (by omega) (by omega) (by have := G3.out.size; have := B4.out.size; omega) ?_; intro v5 w5 o5 h5 _; have O5 := Lib.hid o5; have H5 := Lib.hid h5; clear o5 h5))
        have R4 := Lib.hid (R3.out.kept (grown_of_below B4.out none) (by simp))
        have G4 := Lib.hid (grown_trans' G3.out (grown_of_below B4.out (some R)))
        have R5 := Lib.hid (R4.out.kept H5.out (fun q hq => by have := own_ge O3.out q hq; omega))
        have G5 := Lib.hid (grown_then G4.out H5.out (fun q hq => .inl (own_ge O3.out q hq).1))
        go_roundw
        case rel => exact ⟨j - 1, l ++ putP p, by omega, by go_num, by simp; omega, by simpa using O5.out, G5.out, R5.out.less (by omega)⟩
        case measure => simp [intOf]; omega
      · have hv' : ptB p = false := by simpa using hv
        clear hv
        go_wp2_with (go_at_call 18; refine (spec_PointValid _ _).mono ?_; rintro e w' ⟨rfl, rfl⟩)
        go_roundw
        case rel => exact ⟨j - 1, l, by omega, by go_num, by omega, O3.out, G3.out, R3.out.less (by omega)⟩
        case measure => simp [intOf]; omega
    · obtain rfl : j = 0 := by omega
      go_wp2_with fail
      refine (odd_any _ _ _ _ R2.out (by omega) (by omega) (by omega)).mono ?_
      rintro e w3 ⟨b, rfl, g3, r3⟩
      have O3 := Lib.hid (own_other O2.out g3 (fun q hq e => by have := own_ge O2.out q hq; injection e with e; omega))
      have G3 := Lib.hid (grown_trans' G2.out g3)
      have R3 := Lib.hid r3
      clear g3 r3
      cases b
      · go_wp2
        go_ret
        exact ⟨_, l, rfl, by omega, O3.out, G3.out, R3.out.less (by omega)⟩
      · go_wp2_with fail
        refine (pick_any _ _ (8 * 0 + (k - 60) - 1) _ ?_ (by omega) (by omega) (by omega)).mono ?_
        · repeat (refine Rdr.kept ?_ (World.grownBy_alloc _ _ none) (by simp))
          exact R3.out
        rintro e w4 ⟨v, rfl, hv, g4, r4⟩
        have HT : Hid (∃ x, w4.cell? ⟨w3.heap.size + 8, v, none⟩ = some x ∧ SmallSlice w3.heap.size w4 x) := by
          obtain ⟨x, hx, hq⟩ := lit_at (Q := SmallSlice w3.heap.size _) g4 (by have := G3.out.size; simp; omega) (badTable w3) v (by simp; omega)
          simp only [World.size_alloc] at hx
          exact ⟨x, hx, smallSlice_grown hq g4 (by have := G3.out.size; omega)⟩
        have G4 : Hid (w.grownBy w4 (some R)) := by
          refine grown_trans' ?_ g4
          repeat (refine grown_trans' ?_ (World.grownBy_alloc _ _ (some R)))
          exact G3.out
        have O4 : Hid (w4.ownsRow w.heap.size 5 1 u5 l.length (l.map byteV)) := by
          refine own_other ?_ g4 (fun q hq e => by have := own_ge O3.out q hq; injection e with e; omega)
          repeat (refine World.ownsRow.alloc ?_ _)
          exact O3.out
        have R4 := Lib.hid r4
        clear g4 r4
        obtain ⟨x, hx, g, nn, rfl, hn4, hgB, lb, hlb, hrow⟩ := HT.out
        have HROW := Lib.hid hrow; have HLB := Lib.hid hlb
        have hv8 : (v : Int) < 8 := by omega
        clear hrow hlb hv
        simp only [Nat.add_assoc, Nat.reduceAdd]
        go_wp2_with (at_builtin; refine wpList_append_row rfl (.tmp 40) (.tmp 41) _ rfl w.heap.size 5 i0 _ 1 Try.underlying22 HI.out HZ0.out HZ1.out HZ2.out rfl _ l.length (l.map byteV) rfl O4.out (some ⟨g, 0, none⟩) nn nn (lb.map byteV) rfl (by intro e; cases e) HROW.out (by rw [List.length_map]; exact HLB.out) (bytes_one' _) (by omega) (by omega) (by have := G4.out.size; omega) ?_; intro v5 w5 o5 h5 _; have O5 := Lib.hid o5; have H5 := Lib.hid h5; clear o5 h5)
        go_ret
        refine ⟨_, l ++ lb, rfl, by rw [List.length_append, HLB.out]; omega, by rw [List.length_append, HLB.out, List.map_append]; exact O5.out, grown_then G4.out H5.out (fun q hq => .inl (own_ge O4.out q hq).1), ?_⟩
        exact (R4.out.kept H5.out (fun q hq => by have := own_ge O4.out q hq; omega)).less (by omega)
end Go.Proofs.Ytgbdkajnlemblaa
