/- What a text means, seen from a location, by the reference (printed by gen_ress.py). -/
import Derived.Test.YtmiemnhbkcmanaaDoorRlS
import Derived.Test.YtmiemnhbkcmanaaDoorResP
import Derived.Deep.CutBlock
import Derived.Deep.CutRange
import Derived.Deep.RegionWith
import Derived.Deep.RegionHeld3
import Derived.Deep.RegionLaw
namespace Go.Proofs.YtmiemnhbkcmanaaDoor
open Go.RowKit

set_option maxRecDepth 100000 in
set_option maxHeartbeats 6400000 in
theorem spec_ResolveLocation (S H : ByteArray) (a : Option Addr) (n c : Nat) (P : List ByteArray) (Q : ByteArray) (s : ByteArray) (w : World) (hrow : RowAt w a (P.map strV)) (hn : P.length = n) (hn' : n ≤ 1048576) (hnone : a = none → c = 0) (hH : H.size ≤ 1048576) (hQ : Q.size ≤ 1048576) (hP : ∀ x ∈ P, x.size ≤ 1048576) (hs : s.size ≤ 1048576) :
    Calls Tryd.prog 5 #[.agg #[.string S, .string H, .slice a n c, .string Q], .string s] w (RessPost (resT S H P Q (bl s)) w) := by
  have HN := Lib.hid hn; have HPZ := Lib.hid hP
  obtain ⟨W0, hW0⟩ : ∃ W0, W0 = w.alloc (.cells #[.string S, .string H, .slice a n c, .string Q] 26 (0, 0)) := ⟨_, rfl⟩
  obtain ⟨W1, hW1⟩ : ∃ W1, W1 = W0.alloc (.cells #[.string ⟨#[]⟩, .string ⟨#[]⟩, .slice none 0 0, .string ⟨#[]⟩] 26 (0, 0)) := ⟨_, rfl⟩
  have e0 : W0.heap.size = w.heap.size + 1 := by rw [hW0]; simp
  have e1 : W1.heap.size = w.heap.size + 1 + 1 := by rw [hW1]; simp [e0]
  have b0 : Below w.heap.size w W0 := by rw [hW0]; exact (Below.refl _ _).alloc (Nat.le_refl _) _
  have b1 : Below w.heap.size w W1 := by rw [hW1]; exact b0.alloc b0.size _
  have k0 : W1.heap[w.heap.size]? = some (.cells #[.string S, .string H, .slice a n c, .string Q] 26 (0, 0)) := by rw [hW1, Lib.alloc_old W0 _ _ (by omega), hW0]; exact heap_alloc_new w _
  have k1 : W1.heap[w.heap.size + 1]? = some (.cells #[.string ⟨#[]⟩, .string ⟨#[]⟩, .slice none 0 0, .string ⟨#[]⟩] 26 (0, 0)) := by rw [hW1, ← e0]; exact heap_alloc_new W0 _
  have B1 := Lib.hid b1
  rw [hW0] at hW1
  have HW1 := Lib.hid hW1
  have CO := Lib.hid (spec_l1OwnLocation S H a n c P Q W1 (hrow.below (Nat.le_refl _) b1) hn hn' hnone)
  clear hW1 hW0 b0 b1 e0 hrow hn hP hnone
  go_enter Tryd.func5, Tryd.ntmps5
  go_wp2_with fail
  rw [← HW1.out]
  refine CO.out.mono ?_
  rintro e w2 ⟨v2, rfl, o2, b2⟩
  have g0 := (b2.block _ (by omega)).trans k0
  have g1 := (b2.block _ (by omega)).trans k1
  have hw2 : w.heap.size + 1 < w2.heap.size := by have := b2.size; omega
  have B2 := Lib.hid (B1.out.trans (b2.mono B1.out.size))
  obtain ⟨a2, c2, rfl, r2, hc2, hc2', hB2⟩ := own_formn o2
  have HNO2 : Hid (a2 = none → c2 = 0) := fun e => by subst e; exact own_none o2
  have HNB : Hid (∀ x, a2 = some x → w.heap.size + 1 < x.block) := fun x hx => by have := hB2 x hx; omega
  obtain ⟨f3, gg3, bb3, sz3⟩ := loc_put (.string S) (.string H) (.slice a2 n c2) (.string Q) g0
  obtain ⟨W3, hW3⟩ : ∃ W3, W3 = ((((w2.setCell ⟨w.heap.size, 0, none⟩ (.string S)).setCell ⟨w.heap.size, 1, none⟩ (.string H)).setCell ⟨w.heap.size, 2, none⟩ (.slice a2 n c2)).setCell ⟨w.heap.size, 3, none⟩ (.string Q)) := ⟨_, rfl⟩
  rw [← hW3] at f3 gg3 bb3 sz3
  have r3 := r2.grown gg3 (fun j x e1 e2 => by injection e1 with e1; have := HNB.out x e2; omega)
  have z3 := blk_keep g1 gg3 (by intro e; injection e with e; omega)
  have B3 := Lib.hid (B2.out.trans (bb3 _ (Nat.le_refl _)))
  have HW3 := Lib.hid hW3
  have hw3 : w.heap.size + 1 < W3.heap.size := by omega
  have x0 := blkC g0 0 _ rfl; have x1 := blkC g0 1 _ rfl; have x2 := blkC g0 2 _ rfl; have x3 := blkC g0 3 _ rfl
  have fz0 := blkF g0 0; have fz1 := blkF g0 1; have fz2 := blkF g0 2; have fz3 := blkF g0 3
  have CR := Lib.hid (spec_ReadLocation s W3 hs)
  clear b2 k0 k1 e1 g0 g1 o2 r2 hB2 gg3 bb3 sz3 hW3 HW1 CO B1
  go_wp2_with fail
  rw [← HW3.out]
  refine CR.out.mono ?_
  rintro e w4 ⟨hres, b4⟩
  have f4 := (b4.block _ (Nat.lt_of_succ_lt hw3)).trans f3
  have z4 := (b4.block _ hw3).trans z3
  have r4 := r3.below (Nat.le_refl _) b4
  have B4 := Lib.hid (B3.out.trans (b4.mono B3.out.size))
  have hw4 := Nat.lt_of_lt_of_le hw3 b4.size
  clear x0 x1 x2 x3 fz0 fz1 fz2 fz3 HW3 B3 f3 z3 r3 B2
  obtain ⟨S', H', a', n', c', Q', ok', rfl, hyes, hno⟩ : ∃ S' H' a' n' c' Q' ok', e = .returned (.tuple #[.agg #[.string S', .string H', .slice a' n' c', .string Q'], .bool ok']) ∧ (ok' = true → ∃ P', locB S' H' P' Q' = true ∧ locT S' H' P' Q' = bl s ∧ P'.length = n' ∧ RowAt w4 a' (P'.map strV) ∧ (a' = none → c' = 0) ∧ ∀ x, a' = some x → x.block ≠ w.heap.size + 1) ∧ (ok' = false → ∀ S H P Q, locB S H P Q = true → locT S H P Q ≠ bl s) := by
    rcases hres with ⟨S', H', P', Q', a', n', c', rfl, h1, h2, h3, h4, h5, h6⟩ | ⟨rfl, hno⟩
    · exact ⟨S', H', a', n', c', Q', true, rfl, fun _ => ⟨P', h1, h2, h3, h4, h5, fun x hx => by have := h6 x hx; omega⟩, fun h => by cases h⟩
    · exact ⟨⟨#[]⟩, ⟨#[]⟩, none, 0, 0, ⟨#[]⟩, false, rfl, (fun h => by cases h), fun _ => hno⟩
  have HY := Lib.hid hyes; have HX := Lib.hid hno
  obtain ⟨W5, hW5⟩ : ∃ W5, W5 = w4.alloc (.cells #[.string S', .string H', .slice a' n' c', .string Q'] 26 (0, 0)) := ⟨_, rfl⟩
  have b5 : Below w4.heap.size w4 W5 := by rw [hW5]; exact (Below.refl _ _).alloc (Nat.le_refl _) _
  have HXB : Hid (W5.heap[w4.heap.size]? = some (.cells #[.string S', .string H', .slice a' n' c', .string Q'] 26 (0, 0))) := by rw [hW5]; exact heap_alloc_new w4 _
  have hx5 : w4.heap.size < W5.heap.size := by rw [hW5]; simp
  have f5 := (b5.block _ (Nat.lt_of_succ_lt hw4)).trans f4
  have z5 := (b5.block _ hw4).trans z4
  have r5 := r4.below (Nat.le_refl _) b5
  have B5 := Lib.hid (B4.out.trans (b5.mono B4.out.size))
  have B45 := Lib.hid b5
  have hw5 := Nat.lt_of_lt_of_le hw4 b5.size
  have CV : Hid (∀ W, Below W5.heap.size W5 W → Calls Tryd.prog 14 #[.agg #[.string S, .string H, .slice a2 n c2, .string Q]] W fun e w' => e = .returned (.bool (locB S H P Q)) ∧ Below W.heap.size W w') := fun W hW => spec_LocationValid S H a2 n c2 P Q W (r5.below (Nat.le_refl _) hW) HN.out (by omega) (by omega) hQ (fun x hx => Nat.le_trans (HPZ.out x hx) (by omega))
  have HW5 := Lib.hid hW5
  have F5 := Lib.hid f5; have Z5 := Lib.hid z5; have R5 := Lib.hid r5
  have x0 := blkC f4 0 _ rfl; have x1 := blkC f4 1 _ rfl; have x2 := blkC f4 2 _ rfl; have x3 := blkC f4 3 _ rfl
  have hN4 := Nat.lt_of_succ_lt hw4
  clear hyes hno hres hw3 b4 b5 f4 z4 r4 hW5 B4 f5 z5 r5
  go_upto_region 3 with fail
  go_cut [7, 24] from 13 (fun o b wx => o = .bool ok' ∧ b = .bool (ok' && locB S H P Q) ∧ Below W5.heap.size W5 wx)
  case first =>
    rcases ok' with _ | _
    · go_wp2
      go_meet
      exact ⟨rfl, rfl, by rw [← HW5.out]; exact Below.refl _ _⟩
    · go_wp2_with fail
      rw [← HW5.out]
      refine (CV.out _ (Below.refl _ _)).mono ?_
      rintro e w6 ⟨rfl, b6⟩
      have B6 := Lib.hid b6
      clear b6
      go_wp2
      go_meet
      exact ⟨rfl, by rw [Bool.true_and], B6.out⟩
  case rest =>
    obtain ⟨rfl, rfl, b6⟩ := hcut
    have zc := (b6.block _ hw5).trans Z5.out
    have BC := Lib.hid (B5.out.trans (b6.mono B5.out.size))
    have fc := (b6.block _ (Nat.lt_of_succ_lt hw5)).trans F5.out
    have rc := R5.out.below (Nat.le_refl _) b6
    have hwc := Nat.lt_of_lt_of_le hw5 b6.size
    have xc := (b6.block _ hx5).trans HXB.out
    have B56 := Lib.hid b6
    rcases hA : (ok' && locB S H P Q) with _ | _
    case true =>
      rw [Bool.and_eq_true] at hA
      obtain ⟨P', h1, h2, h3, h4, h5, h6⟩ := HY.out hA.1
      have HT : Hid (resT S H P Q (bl s) = (S', H', P', Q', true)) := resT_read hA.2 h1 h2
      have HRX := Lib.hid ((h4.below (Nat.le_refl _) B45.out).below (Nat.le_refl _) b6)
      have HN3 := Lib.hid h3; have HN5 := Lib.hid h5
      have HNE : Hid (∀ (x : Addr), a' = some x → x.block ≠ w.heap.size + 1) := h6
      have v0 := blkC xc 0 _ rfl; have v1 := blkC xc 1 _ rfl; have v2 := blkC xc 2 _ rfl; have v3 := blkC xc 3 _ rfl
      have t0 := blkF zc 0; have t1 := blkF zc 1; have t2 := blkF zc 2; have t3 := blkF zc 3
      have y0 := blkC zc 0 _ rfl; have y1 := blkC zc 1 _ rfl; have y2 := blkC zc 2 _ rfl; have y3 := blkC zc 3 _ rfl
      have ZCH := Lib.hid zc
      clear b6 h1 h2 h3 h4 h5 h6 hA zc fc rc xc x0 x1 x2 x3
      go_wp2
      obtain ⟨f, g, bb, _⟩ := loc_put (.string S') (.string H') (.slice a' n' c') (.string Q') ZCH.out
      have BW := BC.out.trans ((bb (w.heap.size + 1) (Nat.le_refl _)).mono (Nat.le_succ _))
      have RW := row_grown HRX.out g (fun x e2 _ => HNE.out x e2)
      generalize ((((wc.setCell ⟨w.heap.size + 1, 0, none⟩ (.string S')).setCell ⟨w.heap.size + 1, 1, none⟩ (.string H')).setCell ⟨w.heap.size + 1, 2, none⟩ (.slice a' n' c')).setCell ⟨w.heap.size + 1, 3, none⟩ (.string Q')) = W9 at *
      have f0 := blkC f 0 _ rfl; have f1 := blkC f 1 _ rfl; have f2 := blkC f 2 _ rfl; have f3 := blkC f 3 _ rfl
      exact bodyPost_ret (v := .tuple #[.agg #[.string S', .string H', .slice a' n' c', .string Q'], .bool true]) (by simp [results, Tryd.results5, go_sem, f0, f1, f2, f3]) rfl ⟨⟨_, _, _, by rw [HT.out], by rw [HT.out]; exact HN3.out, by rw [HT.out]; exact RW, HN5.out⟩, BW⟩
    have HFa : Hid (locB S H P Q = false → resT S H P Q (bl s) = zeroT) := fun h => resT_bad h
    have HFb : Hid (locB S H P Q = true → ∀ S H P Q, locB S H P Q = true → locT S H P Q ≠ bl s) := fun h => HX.out (by
      rw [h, Bool.and_true] at hA; exact hA)
    have ZCH := Lib.hid zc; have FCH := Lib.hid fc; have RCH := Lib.hid rc
    have c0 := blkC fc 0 _ rfl; have c1 := blkC fc 1 _ rfl; have c2' := blkC fc 2 _ rfl
    obtain ⟨wb, hwb⟩ : ∃ wb, wb = wc := ⟨_, rfl⟩
    rw [← hwb] at BC B56 hwc c0 c1 c2' ZCH FCH RCH ⊢
    clear hwb
    clear hA HY HX HXB b6 zc fc rc xc x0 x1 x2 x3 F5 Z5 R5 hx5 hw4 hw5 B45 B5 HW5 hN4
    go_upto_region 5 with fail
    go_cut [8] from 13 (fun p wx => ∃ (ob : Nat) (v : Value), p = .pointer (some ⟨ob, 0, none⟩) ∧ Hid (OutI wb wx ob S H v P ⟨#[]⟩))
    case first =>
      go_wp2
      have q1 : ¬ w.heap.size = wb.heap.size := by omega
      have q2 : ¬ w.heap.size = wb.heap.size + 1 := by omega
      have q3 : ¬ wb.heap.size = w.heap.size := by omega
      have q4 : ¬ wb.heap.size + 1 = w.heap.size := by omega
      have OEC : Hid ((wb.alloc (.cells #[] 9 (0, 0))).drew.ownsRow wb.heap.size 9 1 (.slice (some ⟨wb.heap.size, 0, none⟩) 0 0) 0 []) := own_new wb #[] 9 0 rfl (by omega)
      have BEC : Hid (Below wb.heap.size wb (wb.alloc (.cells #[] 9 (0, 0))).drew) := ((Below.refl _ _).alloc (Nat.le_refl _) _).drew
      have BEB : Hid (Below wb.heap.size wb ((wb.alloc (.cells #[] 9 (0, 0))).alloc (.cells #[.string ⟨#[]⟩, .string ⟨#[]⟩, .slice none 0 0, .string ⟨#[]⟩] 26 (0, 0))).drew) := (((Below.refl _ _).alloc (Nat.le_refl _) _).alloc (by simp) _).drew
      have OEB : Hid (((wb.alloc (.cells #[] 9 (0, 0))).alloc (.cells #[.string ⟨#[]⟩, .string ⟨#[]⟩, .slice none 0 0, .string ⟨#[]⟩] 26 (0, 0))).drew.ownsRow wb.heap.size 9 1 (.slice (some ⟨wb.heap.size, 0, none⟩) 0 0) 0 []) := own_below OEC.out ((Below.refl _ _).alloc (Nat.le_refl _) _)
      have ZEB : Hid (((wb.alloc (.cells #[] 9 (0, 0))).alloc (.cells #[.string ⟨#[]⟩, .string ⟨#[]⟩, .slice none 0 0, .string ⟨#[]⟩] 26 (0, 0))).drew.heap[wb.heap.size + 1]? = some (.cells #[.string ⟨#[]⟩, .string ⟨#[]⟩, .slice none 0 0, .string ⟨#[]⟩] 26 (0, 0))) := by
        have := heap_alloc_new (wb.alloc (.cells #[] 9 (0, 0))) (.cells #[.string ⟨#[]⟩, .string ⟨#[]⟩, .slice none 0 0, .string ⟨#[]⟩] 26 (0, 0))
        rw [World.size_alloc] at this
        exact this
      have BEA : Hid (Below wb.heap.size wb ((wb.alloc (.cells #[.string ⟨#[]⟩, .string ⟨#[]⟩, .slice none 0 0, .string ⟨#[]⟩] 26 (0, 0))).alloc (.cells #[] 9 (0, 0))).drew) := (((Below.refl _ _).alloc (Nat.le_refl _) _).alloc (by simp) _).drew
      have OEA : Hid (((wb.alloc (.cells #[.string ⟨#[]⟩, .string ⟨#[]⟩, .slice none 0 0, .string ⟨#[]⟩] 26 (0, 0))).alloc (.cells #[] 9 (0, 0))).drew.ownsRow wb.heap.size 9 1 (.slice (some ⟨wb.heap.size + 1, 0, none⟩) 0 0) 0 []) := by
        have := own_new (wb.alloc (.cells #[.string ⟨#[]⟩, .string ⟨#[]⟩, .slice none 0 0, .string ⟨#[]⟩] 26 (0, 0))) #[] 9 0 rfl (by omega)
        rw [World.size_alloc] at this
        exact own_mono this (Nat.le_succ _)
      have ZEA : Hid (((wb.alloc (.cells #[.string ⟨#[]⟩, .string ⟨#[]⟩, .slice none 0 0, .string ⟨#[]⟩] 26 (0, 0))).alloc (.cells #[] 9 (0, 0))).drew.heap[wb.heap.size]? = some (.cells #[.string ⟨#[]⟩, .string ⟨#[]⟩, .slice none 0 0, .string ⟨#[]⟩] 26 (0, 0))) := (Lib.alloc_old _ _ _ (by simp)).trans (heap_alloc_new wb _)
      go_region_held3 (fun w' => w'.cell? ⟨w.heap.size, 0, none⟩ = some (.string S) ∧ w'.cell? ⟨w.heap.size, 1, none⟩ = some (.string H) ∧ w'.cell? ⟨w.heap.size, 2, none⟩ = some (.slice a2 n c2)) (go_keep) (first | ((refine step_row _ (.tmp 30) (.tmp 32) wb.heap.size (.slice (some ⟨wb.heap.size, 0, none⟩) 0 0) 0 [] (by exact OEC.out) (by first | exact BEC.out.size | exact Nat.le_refl _) a2 n c2 P HNO2.out (RCH.out.below (Nat.le_refl _) BEC.out) HN.out (by omega) rfl (by rfl) (by rfl) (by rfl) ?_; intro v5 w5 o5 g5 e5; have o6 : w5.ownsRow wb.heap.size 9 1 v5 n (P.map strV) := (by simpa using o5); obtain ⟨a5, c5, rfl, _⟩ := own_formn o6; have b5 := BEC.out.grown g5 BEC.out.size (fun q hq => by simp [Value.ownBlock] at hq; omega); have z0 : w5.cell? ⟨w.heap.size, 0, none⟩ = some (.string S) := (b5.cell (p := ⟨w.heap.size, 0, none⟩) (Nat.lt_of_succ_lt hwc)).trans c0; have z1 : w5.cell? ⟨w.heap.size, 1, none⟩ = some (.string H) := (b5.cell (p := ⟨w.heap.size, 1, none⟩) (Nat.lt_of_succ_lt hwc)).trans c1; have z2 : w5.cell? ⟨w.heap.size, 2, none⟩ = some (.slice a2 n c2) := (b5.cell (p := ⟨w.heap.size, 2, none⟩) (Nat.lt_of_succ_lt hwc)).trans c2'; have O6 := Lib.hid o6; have B5 := Lib.hid b5; clear o5 o6 g5 e5 b5)) | ((refine step_row _ (.tmp 30) (.tmp 32) wb.heap.size (.slice (some ⟨wb.heap.size, 0, none⟩) 0 0) 0 [] (by exact OEB.out) (by first | exact BEB.out.size | exact Nat.le_refl _) a2 n c2 P HNO2.out (RCH.out.below (Nat.le_refl _) BEB.out) HN.out (by omega) rfl (by rfl) (by rfl) (by rfl) ?_; intro v5 w5 o5 g5 e5; have o6 : w5.ownsRow wb.heap.size 9 1 v5 n (P.map strV) := (by simpa using o5); obtain ⟨a5, c5, rfl, _⟩ := own_formn o6; have b5 := BEB.out.grown g5 BEB.out.size (fun q hq => by simp [Value.ownBlock] at hq; omega); have z0 : w5.cell? ⟨w.heap.size, 0, none⟩ = some (.string S) := (b5.cell (p := ⟨w.heap.size, 0, none⟩) (Nat.lt_of_succ_lt hwc)).trans c0; have z1 : w5.cell? ⟨w.heap.size, 1, none⟩ = some (.string H) := (b5.cell (p := ⟨w.heap.size, 1, none⟩) (Nat.lt_of_succ_lt hwc)).trans c1; have z2 : w5.cell? ⟨w.heap.size, 2, none⟩ = some (.slice a2 n c2) := (b5.cell (p := ⟨w.heap.size, 2, none⟩) (Nat.lt_of_succ_lt hwc)).trans c2'; have O6 := Lib.hid o6; have B5 := Lib.hid b5; have zz := blk_keep (b := wb.heap.size + 1) ZEB.out g5 (by intro e; simp [Value.ownBlock] at e); have ZZ := Lib.hid zz; have y0 := blkC zz 0 _ rfl; have y1 := blkC zz 1 _ rfl; have y2 := blkC zz 2 _ rfl; have y3 := blkC zz 3 _ rfl; have t0 := blkF zz 0; have t1 := blkF zz 1; have t2 := blkF zz 2; have t3 := blkF zz 3; clear zz; clear o5 o6 g5 e5 b5)) | ((refine step_row _ (.tmp 30) (.tmp 32) wb.heap.size (.slice (some ⟨wb.heap.size + 1, 0, none⟩) 0 0) 0 [] (by exact OEA.out) (by first | exact BEA.out.size | exact Nat.le_refl _) a2 n c2 P HNO2.out (RCH.out.below (Nat.le_refl _) BEA.out) HN.out (by omega) rfl (by rfl) (by rfl) (by rfl) ?_; intro v5 w5 o5 g5 e5; have o6 : w5.ownsRow wb.heap.size 9 1 v5 n (P.map strV) := (by simpa using o5); obtain ⟨a5, c5, rfl, _⟩ := own_formn o6; have b5 := BEA.out.grown g5 BEA.out.size (fun q hq => by simp [Value.ownBlock] at hq; omega); have z0 : w5.cell? ⟨w.heap.size, 0, none⟩ = some (.string S) := (b5.cell (p := ⟨w.heap.size, 0, none⟩) (Nat.lt_of_succ_lt hwc)).trans c0; have z1 : w5.cell? ⟨w.heap.size, 1, none⟩ = some (.string H) := (b5.cell (p := ⟨w.heap.size, 1, none⟩) (Nat.lt_of_succ_lt hwc)).trans c1; have z2 : w5.cell? ⟨w.heap.size, 2, none⟩ = some (.slice a2 n c2) := (b5.cell (p := ⟨w.heap.size, 2, none⟩) (Nat.lt_of_succ_lt hwc)).trans c2'; have O6 := Lib.hid o6; have B5 := Lib.hid b5; have zz := blk_keep (b := wb.heap.size) ZEA.out g5 (by intro e; simp [Value.ownBlock] at e); have ZZ := Lib.hid zz; have y0 := blkC zz 0 _ rfl; have y1 := blkC zz 1 _ rfl; have y2 := blkC zz 2 _ rfl; have y3 := blkC zz 3 _ rfl; have t0 := blkF zz 0; have t1 := blkF zz 1; have t2 := blkF zz 2; have t3 := blkF zz 3; clear zz; clear o5 o6 g5 e5 b5)))
      · go_wp2
        go_meet
        exact ⟨_, _, rfl, OutI.fresh (by rw [HN.out]; exact O6.out) B5.out⟩
      · go_wp2
        go_meet
        exact ⟨_, _, rfl, OutI.new ZZ.out (Nat.le_succ _) (by rw [HN.out]; exact O6.out) B5.out⟩
      · go_wp2
        go_meet
        exact ⟨_, _, rfl, OutI.new ZZ.out (Nat.le_refl _) (by rw [HN.out]; exact O6.out) B5.out⟩
    case rest =>
      obtain ⟨ob, v1, rfl, HO⟩ := hcut
      clear c0 c1 c2'
      have x2 := blkC HO.out.blk 2 _ rfl; have x3 := blkC HO.out.blk 3 _ rfl
      go_upto_if 36 with fail
      go_cut [9, 10, 11, 12, 36] from 13 (fun _ _ _ _ _ wx => ∃ (v : Value) (P' : List ByteArray) (Q' : ByteArray), Hid (OutI wb wx ob S H v P' Q') ∧ P'.length ≤ 2097153 ∧ Hid (∀ x ∈ P', x.size ≤ 1048576) ∧ Q'.size ≤ 1048576 ∧ Hid (locB S H P Q = true → locB S H P' Q' = true → resT S H P Q (bl s) = (S, H, P', Q', true)) ∧ Hid (locB S H P' Q' = false → resT S H P Q (bl s) = zeroT))
      case first =>
        by_cases hs0 : bl s = []
        · have e1 : (s.toList == ([] : List UInt8)) = true := by rw [tl_litP, decide_eq_true hs0]
          have e2 : s.toList.isEmpty = true := by rw [ByteArray.toList_eq]; show (bl s).isEmpty = true; rw [hs0]; rfl
          have H0 := Lib.hid hs0
          clear hs0
          simp only [e2, Bool.not_true]
          go_wp2
          go_meet
          refine ⟨v1, P, ⟨#[]⟩, HO, by have := HN.out; omega, HPZ, Nat.zero_le _, fun h _ => resT_nil h H0.out, fun h => resT_bad ?_⟩
          cases hh : locB S H P Q with
          | false => rfl
          | true => rw [locB_noq hh] at h; cases h
        have e1 : (s.toList == ([] : List UInt8)) = false := by rw [tl_litP, decide_eq_false hs0]
        have e2 : s.toList.isEmpty = false := by rw [← e1]; rcases s.toList with _ | _ <;> rfl
        have HRO : Hid (locB S H P Q = true → locB S H (resP (bl s) P) (mkS (Lib.cut (bl s) [63]).2.1) = true → resT S H P Q (bl s) = (S, H, resP (bl s) P, mkS (Lib.cut (bl s) [63]).2.1, true)) := fun h h2 => resT_out h hs0 (HFb.out h) h2
        have HRN : Hid (locB S H (resP (bl s) P) (mkS (Lib.cut (bl s) [63]).2.1) = false → resT S H P Q (bl s) = zeroT) := fun h2 => by
          by_cases h : locB S H P Q = true
          · exact resT_none hs0 (HFb.out h) h2
          · exact resT_bad (by simpa using h)
        have HTG : Hid (resP (bl s) P = foldW (cutAt 47 (pathOf (Lib.cut (bl s) [63]).1)) (startR (Lib.cut (bl s) [63]).1 P)) := rfl
        have CQ := Lib.hid (fun W => spec_l32Query s W (by omega))
        have L1 := cut_le (bl s) [63]
        rw [bl_len] at L1
        clear hs0
        obtain ⟨T, hT⟩ : ∃ T, T = resP (bl s) P := ⟨_, rfl⟩
        rw [← hT] at HRO HRN HTG
        clear hT
        generalize Lib.cut (bl s) [63] = r1 at *
        obtain ⟨bf, qr, ok1⟩ := r1
        simp only at L1 HRO HRN HTG CQ
        have hqz : (mkS qr).size ≤ 1048576 := by rw [mkS_size]; omega
        generalize mkS qr = QR at *
        simp only [e2, Bool.not_false]
        go_wp2_with fail
        refine (CQ.out _).mono ?_
        rintro e w7 ⟨rfl, b7⟩
        have HO7 := Lib.hid (HO.out.below b7)
        have HQ7 := Lib.hid (HO7.out.setQ QR)
        clear x2 x3 b7
        have x2 := blkC HO7.out.blk 2 _ rfl; have x3 := blkC HO7.out.blk 3 _ rfl
        have fz3 := blkF HO7.out.blk 3
        obtain ⟨W8, hW8⟩ : ∃ W8, W8 = w7.setCell ⟨ob, 3, none⟩ (.string QR) := ⟨_, rfl⟩
        rw [← hW8] at HQ7
        have HW8 := Lib.hid hW8
        have CSP := Lib.hid (spec_l32Split (mkS bf) W8 (by rw [mkS_size]; omega))
        rw [bl_mkS] at CSP
        have HL1 := (cutAt_len 47 (mkS bf)).1
        have HLn := (cutAt_len 47 (mkS bf)).2
        rw [bl_mkS] at HLn HL1
        rw [mkS_size] at HLn
        have HLe : Hid (∀ x ∈ cutAt 47 bf, (mkS x).size ≤ 1048576) := fun x hx => by have := cutAt_mem 47 bf x hx; rw [mkS_size]; omega
        obtain ⟨nw, hnw⟩ : ∃ nw, (cutAt 47 bf).length = nw := ⟨_, rfl⟩
        rw [hnw] at CSP HL1 HLn
        have hnwz : nw ≤ 1048577 := by omega
        have HNW := Lib.hid hnw
        clear hnw hW8
        go_wp2_with fail
        rw [← HW8.out]
        refine CSP.out.mono ?_
        rintro e w9 ⟨vp, rfl, op, b9⟩
        have HO9 := Lib.hid (HQ7.out.below b9)
        obtain ⟨pb, pc, rfl, hBp, hpb, kp, kp', _⟩ := own_at op (by omega)
        have HNP : Hid (v1.ownBlock ≠ some pb) := fun e => by
          have := own_ge HQ7.out.own pb e
          omega
        have HRP := Lib.hid (own_formn_row op)
        have hobp : ob ≠ pb := by have := HQ7.out.lt; omega
        clear x2 x3 fz3 op b9 HO7 HW8 HQ7 CSP CQ hBp
        obtain ⟨a1, c1, hv1, _, hc1, hc1', _⟩ := own_formn HO9.out.own
        subst hv1
        have x2 := blkC HO9.out.blk 2 _ rfl
        have fz2 := blkF HO9.out.blk 2
        have hR0 : (startR bf P).length ≤ 1048576 := by
          have := HN.out
          unfold startR
          split
          · simp
          · split
            · omega
            · rw [List.length_dropLast]; omega
        have HZ0 : Hid (∀ x ∈ startR bf P, x.size ≤ 1048576) := fun x hx => by
          unfold startR at hx
          split at hx
          · cases hx
          · split at hx
            · exact HPZ.out x hx
            · exact HPZ.out x ((List.dropLast_sublist _).subset hx)
        by_cases hbf : bf = []
        · have eb1 : ((mkS bf).toList == ([] : List UInt8)) = true := by rw [tl_litP, bl_mkS, decide_eq_true hbf]
          have eb2 : (mkS bf).toList.isEmpty = true := by rw [← eb1]; rcases (mkS bf).toList with _ | _ <;> rfl
          have HTP : Hid (T = P) := by rw [HTG.out, hbf]; exact foldW_none _
          rw [HTP.out] at HRO HRN
          have HO9' := HO9
          clear HTG hR0 HZ0 hbf HLe HNW
          rcases hd : decide ((0 : Int) < (P.length : Int)) with _ | _
          all_goals go_wp2
          all_goals
            go_loop [12] (fun t => ∃ k : Nat, k = 0 ∧ t = .int .i64 (k : Int)) (fun t => (intOf t).toNat)
            case atStart => exact ⟨0, rfl, rfl⟩
            case round =>
              obtain ⟨_, rfl, rfl⟩ := hrel
              rcases hd2 : decide ((0 : Int) < (nw : Int)) with _ | _
              all_goals go_wp2
              all_goals
                go_meet
                exact ⟨_, P, QR, HO9', by have := HN.out; omega, HPZ, hqz, HRO, HRN⟩
        have eb1 : ((mkS bf).toList == ([] : List UInt8)) = false := by rw [tl_litP, bl_mkS, decide_eq_false hbf]
        have eb2 : (mkS bf).toList.isEmpty = false := by rw [← eb1]; rcases (mkS bf).toList with _ | _ <;> rfl
        have hbs : 0 < (mkS bf).size := by rw [mkS_size]; exact List.length_pos_iff.2 hbf
        have HHD : Hid (bf.head? = some (mkS bf)[0]) := by
          have := bl_get (mkS bf) 0 hbs
          rw [bl_mkS, ← List.head?_eq_getElem?] at this
          exact this
        have HBF := Lib.hid hbf
        have hbI : (0 : Int) < ((mkS bf).size : Int) := by omega
        clear hbf
        go_upto_if 52 with fail
        go_cut [11, 52] from 13 (fun p _ wx => ∃ (o m c' : Nat) (Wd : List (List UInt8)) (v' : Value), p = .slice (some ⟨pb, o, none⟩) m c' ∧ m ≤ 1048577 ∧ m ≤ c' ∧ c' ≤ 9223372036854775807 ∧ Hid (Wd.length = m) ∧ Hid (RowAt wx (some ⟨pb, o, none⟩) ((Wd.map mkS).map strV)) ∧ Hid (∀ x ∈ Wd, (mkS x).size ≤ 1048576) ∧ Hid (foldW Wd (startR bf P) = T) ∧ Hid (OutI wb wx ob S H v' (startR bf P) QR) ∧ Hid (v'.ownBlock ≠ some pb) ∧ Hid (pb < wx.heap.size))
        case first =>
          by_cases h47 : bf.head? = some 47
          · have q0 : (mkS bf)[0] = 47 := by rw [HHD.out] at h47; injection h47
            have q1 : (((mkS bf)[0].toNat : Int) == 47) = true := beqN (n := 47) 47 rfl q0
            have hw : cutAt 47 bf = [] :: cutAt 47 bf.tail := by
              rcases bf with _ | ⟨y, t⟩
              · cases h47
              · rw [List.head?_cons] at h47
                injection h47 with h47
                rw [h47, words_slash]; rfl
            have hst : startR bf P = [] := by unfold startR; rw [if_pos h47]
            have hpo : pathOf bf = bf.tail := by unfold pathOf; rw [if_pos h47]
            have HT2 : Hid (foldW (cutAt 47 bf.tail) (startR bf P) = T) := by rw [HTG.out, hpo]; rfl
            have hlen : (cutAt 47 bf.tail).length = nw - 1 := by have := HNW.out; rw [hw, List.length_cons] at this; omega
            have hle2 : 1 ≤ (cutAt 47 bf.tail).length := List.length_pos_iff.2 (cutAt_ne _ _)
            have HLE2 : Hid (∀ x ∈ cutAt 47 bf.tail, (mkS x).size ≤ 1048576) := fun x hx => HLe.out x (by rw [hw]; exact List.mem_cons_of_mem _ hx)
            have HR2 : Hid (RowAt w9 (some ⟨pb, 1, none⟩) (((cutAt 47 bf.tail).map mkS).map strV)) := by
              have := row_drop (n := 1) HRP.out
              rw [hw] at this
              exact this
            have HX : Hid (OutI wb ((w9.setCell ⟨ob, 2, none⟩ (.slice (some ⟨w9.heap.size, 0, none⟩) 0 0)).alloc (.cells #[] 9 (0, 0))) ob S H (.slice (some ⟨w9.heap.size, 0, none⟩) 0 0) (startR bf P) QR) := by
              have hz : (w9.setCell ⟨ob, 2, none⟩ (.slice (some ⟨w9.heap.size, 0, none⟩) 0 0)).heap.size = w9.heap.size := by simp
              have hs := HO9.out.bel.size
              rw [hst]
              refine ⟨?_, HO9.out.ge, ?_, ?_⟩
              · rw [Lib.alloc_old _ _ _ (by rw [hz]; exact HO9.out.lt)]; exact blkS 2 _ HO9.out.blk
              · have := own_new (w9.setCell ⟨ob, 2, none⟩ (.slice (some ⟨w9.heap.size, 0, none⟩) 0 0)) #[] 9 0 rfl (by omega)
                rw [hz] at this
                exact own_mono this hs
              · exact (HO9.out.bel.setCell (p := ⟨ob, 2, none⟩) HO9.out.ge _).alloc (by rw [hz]; exact hs) _
            have HR3 : Hid (RowAt ((w9.setCell ⟨ob, 2, none⟩ (.slice (some ⟨w9.heap.size, 0, none⟩) 0 0)).alloc (.cells #[] 9 (0, 0))) (some ⟨pb, 1, none⟩) (((cutAt 47 bf.tail).map mkS).map strV)) := by
              have h1 := row_grown HR2.out (grown_setCell (grown_refl w9 (some ob)) 2 (.slice (some ⟨w9.heap.size, 0, none⟩) 0 0)) (fun x e _ => by injection e with e; rw [← e]; exact Ne.symm hobp)
              exact h1.below (Nat.le_refl _) ((Below.refl _ _).alloc (Nat.le_refl _) _)
            have HNB2 : Hid ((Value.slice (some ⟨w9.heap.size, 0, none⟩) 0 0).ownBlock ≠ some pb) := by
              intro e
              simp [Value.ownBlock] at e
              omega
            have HPB : Hid (pb < ((w9.setCell ⟨ob, 2, none⟩ (.slice (some ⟨w9.heap.size, 0, none⟩) 0 0)).alloc (.cells #[] 9 (0, 0))).heap.size) := by
              show _ < _
              simp
              omega
            have j1 : ¬ pc = 1 := by omega
            have j2 : (1 : Int) ≤ (nw : Int) := by omega
            have j3 : 1 ≤ nw := by omega
            have j4 : nw - 1 ≤ pc - 1 := by omega
            have HLEN := Lib.hid hlen
            have hob9 := HO9.out.lt
            clear h47 q0 hw hst hpo hlen hle2
            go_wp2
            go_meet
            exact ⟨1, nw - 1, pc - 1, cutAt 47 bf.tail, _, rfl, by omega, by omega, by omega, HLEN, HR3, HLE2, HT2, HX, HNB2, HPB⟩
          have q0 : ¬ (mkS bf)[0] = 47 := fun e => h47 (by rw [HHD.out, e])
          have q1 : (((mkS bf)[0].toNat : Int) == 47) = false := bneN (n := 47) 47 rfl q0
          have hst : startR bf P = P.dropLast := by unfold startR; rw [if_neg h47, if_neg HBF.out]
          have hpo : pathOf bf = bf := by unfold pathOf; rw [if_neg h47]
          have HT2 : Hid (foldW (cutAt 47 bf) (startR bf P) = T) := by rw [HTG.out, hpo]; rfl
          have HST := Lib.hid hst
          clear h47 q0 hst hpo
          by_cases hP0 : P.length = 0
          · have HPE : Hid (P.dropLast = P) := by rw [List.eq_nil_of_length_eq_zero hP0]; rfl
            have hd0 : decide ((0 : Int) < (P.length : Int)) = false := by rw [decide_eq_false_iff_not]; omega
            have HO9' := HO9
            go_wp2
            go_meet
            exact ⟨0, nw, pc, cutAt 47 bf, _, rfl, hnwz, kp, kp', HNW, HRP, HLe, HT2, (by rw [HST.out, HPE.out]; exact HO9'), HNP, hpb⟩
          · have HX := Lib.hid (OutI.put (P' := P.dropLast) (v' := .slice a1 (P.length - 1) c1) HO9.out.blk HO9.out.ge (by rw [List.length_dropLast, List.map_dropLast]; exact own_pop HO9.out.own (by omega)) HO9.out.bel)
            have HR3 : Hid (RowAt (w9.setCell ⟨ob, 2, none⟩ (.slice a1 (P.length - 1) c1)) (some ⟨pb, 0, none⟩) (((cutAt 47 bf).map mkS).map strV)) := row_grown HRP.out (grown_setCell (grown_refl w9 (some ob)) 2 (.slice a1 (P.length - 1) c1)) (fun x e _ => by injection e with e; rw [← e]; exact Ne.symm hobp)
            have HNB2 : Hid ((Value.slice a1 (P.length - 1) c1).ownBlock ≠ some pb) := by
              have := HNP.out
              cases a1 with
              | none => intro e; simp [Value.ownBlock] at e
              | some a1 => exact this
            have HPB : Hid (pb < (w9.setCell ⟨ob, 2, none⟩ (.slice a1 (P.length - 1) c1)).heap.size) := by show _ < _; simpa using hpb
            have i1 : IntKind.i64.wrap ((P.length : Int) - 1) = (P.length : Int) - 1 := IntWalk.i64_in _ (by have := HN.out; omega)
            have i2 : (0 : Int) < (P.length : Int) := by omega
            have i3 : ((P.length : Int) - 1).toNat = P.length - 1 := by omega
            have i4 : (0 : Int) ≤ (P.length : Int) - 1 := by omega
            have i5 : (P.length : Int) - 1 ≤ (c1 : Int) := by omega
            have i6 : P.length - 1 ≤ c1 := by omega
            go_wp2
            go_meet
            exact ⟨0, nw, pc, cutAt 47 bf, _, rfl, hnwz, kp, kp', HNW, HR3, HLe, HT2, (by rw [HST.out]; exact HX), HNB2, HPB⟩
        case rest =>
          clear x2 fz2 HO9 HRP HNP hpb kp kp' HLe HTG HNW HHD HBF HL1 HLn
          obtain ⟨o, m, c', Wd, v8, rfl, hm, hmc, hc63, HWL, HRW, HWZ, HF0, HO8, HN8, HP8⟩ := hcut
          go_wp2
          go_loopw [12] (fun t wr => ∃ (k : Nat) (Rr : List ByteArray) (v : Value), k ≤ m ∧ t = .int .i64 (k : Int) ∧ Rr.length ≤ 1048576 + k ∧ Hid (∀ x ∈ Rr, x.size ≤ 1048576) ∧ Hid (foldW (Wd.drop k) Rr = T) ∧ Hid (OutI wb wr ob S H v Rr QR) ∧ Hid (RowAt wr (some ⟨pb, o, none⟩) ((Wd.map mkS).map strV)) ∧ Hid (v.ownBlock ≠ some pb) ∧ Hid (pb < wr.heap.size)) (fun t _ => m - (intOf t).toNat)
          case atStart => exact ⟨0, startR bf P, v8, Nat.zero_le _, rfl, hR0, HZ0, HF0, HO8, HRW, HN8, HP8⟩
          case round =>
            clear HZ0 HF0 HO8 HRW HN8 HP8 hR0
            obtain ⟨k, Rr, v, hk, rfl, hRl, HRZ, HF, HO, HRW, HNV, HPB⟩ := hrel
            obtain ⟨a2', c2', rfl, _, kv, kv', _⟩ := own_formn HO.out.own
            have x2 := blkC HO.out.blk 2 _ rfl
            have fz2 := blkF HO.out.blk 2
            by_cases hkw : k < m
            case neg =>
              have HRT : Hid (Rr = T) := by rw [← HF.out, foldW_end (by rw [HWL.out]; omega)]; rfl
              rw [← HRT.out] at HRO HRN
              have dk : decide ((k : Int) < (m : Int)) = false := by rw [decide_eq_false_iff_not]; omega
              go_wp2
              go_meet
              exact ⟨_, Rr, QR, HO, by omega, HRZ, hqz, HRO, HRN⟩
            have hkW : k < Wd.length := by rw [HWL.out]; exact hkw
            obtain ⟨pb', o', hpo, hlt, hcell⟩ := row_str (l := Wd.map mkS) HRW.out k (by rw [List.length_map]; exact hkW)
            rw [getD_strP (P := Wd.map mkS) (by rw [List.length_map]; exact hkW), List.getElem_map] at hcell
            injection hpo with hpo
            injection hpo with hp1 hp2
            subst hp1; subst hp2
            have HFN := Lib.hid (foldW_at (R := Rr) hkW)
            rw [HWL.out, HF.out] at HFN
            have hxz : (mkS Wd[k]).size ≤ 1048576 := HWZ.out _ (List.getElem_mem hkW)
            clear HF HRO HRN
            generalize Wd[k] = x at *
            have ed : ((mkS x).toList == ([46] : List UInt8)) = decide (x = [46]) := by rw [tl_litP, bl_mkS]
            have ee : ((mkS x).toList == ([] : List UInt8)) = decide (x = []) := by rw [tl_litP, bl_mkS]
            have ei : (mkS x).toList.isEmpty = decide (x = []) := by rw [← ee]; rcases (mkS x).toList with _ | _ <;> rfl
            have eu : ((mkS x).toList == ([46, 46] : List UInt8)) = decide (x = [46, 46]) := by rw [tl_litP, bl_mkS]
            have j0 : (0 : Int) ≤ (k : Int) := by omega
            have j1 : (k : Int) < (m : Int) := by omega
            have j2 : IntKind.i64.wrap ((k : Int) + 1) = (k : Int) + 1 := IntWalk.i64_in _ (by omega)
            by_cases h3 : x = [46, 46]
            · have h1 : ¬ x = [46] := by rw [h3]; intro e; cases e
              have h2 : ¬ x = [] := by rw [h3]; intro e; cases e
              have HF2 : Hid (foldW (Wd.drop (k + 1)) Rr.dropLast = T) := by rw [HFN.out, stepW_up h3]; rfl
              rw [decide_eq_true h3] at eu
              rw [decide_eq_false h2] at ee ei
              rw [decide_eq_false h1] at ed
              clear h1 h2 h3
              generalize mkS x = X at *
              by_cases hz : Rr.length = 0
              · have HE : Hid (Rr.dropLast = Rr) := by rw [List.eq_nil_of_length_eq_zero hz]; rfl
                rw [HE.out] at HF2
                have hd0 : decide ((0 : Int) < (Rr.length : Int)) = false := by rw [decide_eq_false_iff_not]; omega
                go_wp2
                go_roundw
                case rel => exact ⟨k + 1, Rr, _, by omega, by go_num, by omega, HRZ, HF2, HO, HRW, HNV, HPB⟩
                case measure => simp [intOf]; omega
              · have HX := Lib.hid (OutI.put (P' := Rr.dropLast) (v' := .slice a2' (Rr.length - 1) c2') HO.out.blk HO.out.ge (by rw [List.length_dropLast, List.map_dropLast]; exact own_pop HO.out.own (by omega)) HO.out.bel)
                have HRX : Hid (RowAt (wr.setCell ⟨ob, 2, none⟩ (.slice a2' (Rr.length - 1) c2')) (some ⟨pb, o, none⟩) ((Wd.map mkS).map strV)) := row_grown HRW.out (grown_setCell (grown_refl wr (some ob)) 2 (.slice a2' (Rr.length - 1) c2')) (fun x e _ => by injection e with e; rw [← e]; exact Ne.symm hobp)
                have HNX : Hid ((Value.slice a2' (Rr.length - 1) c2').ownBlock ≠ some pb) := by
                  have := HNV.out
                  cases a2' with
                  | none => intro e; simp [Value.ownBlock] at e
                  | some a2' => exact this
                have HPX : Hid (pb < (wr.setCell ⟨ob, 2, none⟩ (.slice a2' (Rr.length - 1) c2')).heap.size) := by show _ < _; simpa using HPB.out
                have HZX : Hid (∀ x ∈ Rr.dropLast, x.size ≤ 1048576) := fun x hx => HRZ.out x ((List.dropLast_sublist _).subset hx)
                have i1 : IntKind.i64.wrap ((Rr.length : Int) - 1) = (Rr.length : Int) - 1 := IntWalk.i64_in _ (by omega)
                have i2 : (0 : Int) < (Rr.length : Int) := by omega
                have i3 : ((Rr.length : Int) - 1).toNat = Rr.length - 1 := by omega
                have i4 : (0 : Int) ≤ (Rr.length : Int) - 1 := by omega
                have i5 : (Rr.length : Int) - 1 ≤ (c2' : Int) := by omega
                have i6 : Rr.length - 1 ≤ c2' := by omega
                go_wp2
                go_roundw
                case rel => exact ⟨k + 1, Rr.dropLast, _, by omega, by go_num, by rw [List.length_dropLast]; omega, HZX, HF2, HX, HRX, HNX, HPX⟩
                case measure => simp [intOf]; omega
            rw [decide_eq_false h3] at eu
            by_cases h1 : x = [46]
            · have HF2 : Hid (foldW (Wd.drop (k + 1)) Rr = T) := by rw [HFN.out, stepW_dot h1]; rfl
              have h2 : ¬ x = [] := by rw [h1]; intro e; cases e
              rw [decide_eq_true h1] at ed
              rw [decide_eq_false h2] at ee ei
              clear h1 h2 h3
              generalize mkS x = X at *
              go_wp2
              go_roundw
              case rel => exact ⟨k + 1, Rr, _, by omega, by go_num, by omega, HRZ, HF2, HO, HRW, HNV, HPB⟩
              case measure => simp [intOf]; omega
            rw [decide_eq_false h1] at ed
            have HZX : Hid (∀ y ∈ Rr ++ [mkS x], y.size ≤ 1048576) := fun y hy => by
              rcases List.mem_append.1 hy with hy | hy
              · exact HRZ.out y hy
              · rw [List.mem_singleton] at hy; rw [hy]; exact hxz
            by_cases h2 : x = []
            · by_cases hl : k + 1 = m
              · have HF2 : Hid (foldW (Wd.drop (k + 1)) Rr = T) := by rw [HFN.out, decide_eq_true hl, stepW_last h2]; rfl
                rw [decide_eq_true h2] at ee ei
                have jl : decide ((k : Int) + 1 < (m : Int)) = false := by rw [decide_eq_false_iff_not]; omega
                clear h1 h2 h3
                generalize mkS x = X at *
                go_wp2
                go_roundw
                case rel => exact ⟨k + 1, Rr, _, by omega, by go_num, by omega, HRZ, HF2, HO, HRW, HNV, HPB⟩
                case measure => simp [intOf]; omega
              · have HF2 : Hid (foldW (Wd.drop (k + 1)) (Rr ++ [mkS x]) = T) := by rw [HFN.out, decide_eq_false hl, stepW_push h1 (by rintro ⟨_, h⟩; cases h) h3]; rfl
                rw [decide_eq_true h2] at ee ei
                have jl : decide ((k : Int) + 1 < (m : Int)) = true := by rw [decide_eq_true_iff]; omega
                have jl2 : (k : Int) + 1 < (m : Int) := by omega
                clear h1 h2 h3
                have hoW := HO.out.lt
                have hpW := HPB.out
                generalize mkS x = X at *
                have HWB : Hid (Below wr.heap.size wr (wr.alloc (.cells #[.string X] 9 (0, 0))).drew) := ((Below.refl _ _).alloc (Nat.le_refl _) _).drew
                have HOW := Lib.hid (own_below HO.out.own HWB.out)
                have HSZ : Hid (wb.heap.size ≤ (wr.alloc (.cells #[.string X] 9 (0, 0))).drew.heap.size) := Nat.le_trans HO.out.bel.size HWB.out.size
                have HX1 : Hid ((wr.alloc (.cells #[.string X] 9 (0, 0))).drew.ownsRow wr.heap.size 9 1 (.slice (some ⟨wr.heap.size, 0, none⟩) 1 1) 1 ([X].map strV)) := own_new wr #[.string X] 9 1 rfl (by omega)
                have HRX1 := Lib.hid (own_formn_row HX1.out)
                clear HX1
                go_wp2_with fail
                go_region_law (first | (refine step_row _ (.tmp 131) (.tmp 136) wb.heap.size _ Rr.length (Rr.map strV) HOW.out HSZ.out (some ⟨wr.heap.size, 0, none⟩) 1 1 [X] (by intro e; cases e) HRX1.out rfl (by omega) rfl (by rfl) (by rfl) (by rfl) ?_; intro v5 w5 o5 g5 e5; obtain ⟨a5, c5, rfl, x25, fz25, hX5, hRX5, hNX5, hPX5⟩ := OutI.push HO.out HRW.out HNV.out HPB.out hobp HWB.out o5 g5 e5; have HX := Lib.hid hX5; have HRX := Lib.hid hRX5; have HNX := Lib.hid hNX5; have HPX := Lib.hid hPX5; clear o5 g5 e5 hX5 hRX5 hNX5 hPX5))
                all_goals
                  go_wp2
                  go_roundw
                  case rel => exact ⟨k + 1, Rr ++ [X], _, by omega, by go_num, by rw [List.length_append, List.length_singleton]; omega, HZX, HF2, HX, HRX, HNX, HPX⟩
                  case measure => simp [intOf]; omega
            · have HF2 : Hid (foldW (Wd.drop (k + 1)) (Rr ++ [mkS x]) = T) := by rw [HFN.out, stepW_push h1 (fun h => h2 h.1) h3]; rfl
              rw [decide_eq_false h2] at ee ei
              clear h1 h2 h3
              have hoW := HO.out.lt
              have hpW := HPB.out
              generalize mkS x = X at *
              have HWB : Hid (Below wr.heap.size wr (wr.alloc (.cells #[.string X] 9 (0, 0))).drew) := ((Below.refl _ _).alloc (Nat.le_refl _) _).drew
              have HOW := Lib.hid (own_below HO.out.own HWB.out)
              have HSZ : Hid (wb.heap.size ≤ (wr.alloc (.cells #[.string X] 9 (0, 0))).drew.heap.size) := Nat.le_trans HO.out.bel.size HWB.out.size
              have HX1 : Hid ((wr.alloc (.cells #[.string X] 9 (0, 0))).drew.ownsRow wr.heap.size 9 1 (.slice (some ⟨wr.heap.size, 0, none⟩) 1 1) 1 ([X].map strV)) := own_new wr #[.string X] 9 1 rfl (by omega)
              have HRX1 := Lib.hid (own_formn_row HX1.out)
              clear HX1
              go_wp2_with fail
              go_region_law (first | (refine step_row _ (.tmp 131) (.tmp 136) wb.heap.size _ Rr.length (Rr.map strV) HOW.out HSZ.out (some ⟨wr.heap.size, 0, none⟩) 1 1 [X] (by intro e; cases e) HRX1.out rfl (by omega) rfl (by rfl) (by rfl) (by rfl) ?_; intro v5 w5 o5 g5 e5; obtain ⟨a5, c5, rfl, x25, fz25, hX5, hRX5, hNX5, hPX5⟩ := OutI.push HO.out HRW.out HNV.out HPB.out hobp HWB.out o5 g5 e5; have HX := Lib.hid hX5; have HRX := Lib.hid hRX5; have HNX := Lib.hid hNX5; have HPX := Lib.hid hPX5; clear o5 g5 e5 hX5 hRX5 hNX5 hPX5))
              all_goals
                go_wp2
                go_roundw
                case rel => exact ⟨k + 1, Rr ++ [X], _, by omega, by go_num, by rw [List.length_append, List.length_singleton]; omega, HZX, HF2, HX, HRX, HNX, HPX⟩
                case measure => simp [intOf]; omega
      case rest =>
        obtain ⟨v8, P', Q2, HO8, hPl, HPZ2, hQ2, HR1, HR2⟩ := hcut
        obtain ⟨a3, c3, rfl, hrow3, kv, kv', _⟩ := own_formn HO8.out.own
        have fb := (HO8.out.bel.block _ (Nat.lt_of_succ_lt hwc)).trans FCH.out
        have zb := (HO8.out.bel.block _ hwc).trans ZCH.out
        have x0 := blkC fb 0 _ rfl; have x1 := blkC fb 1 _ rfl; have x2 := blkC fb 2 _ rfl; have x3 := blkC fb 3 _ rfl
        have v0 := blkC HO8.out.blk 0 _ rfl; have v1' := blkC HO8.out.blk 1 _ rfl; have v2 := blkC HO8.out.blk 2 _ rfl; have v3 := blkC HO8.out.blk 3 _ rfl
        have BW8 := Lib.hid (BC.out.trans (HO8.out.bel.mono BC.out.size))
        have hwc8 := Nat.lt_of_lt_of_le hwc HO8.out.bel.size
        have hge8 := HO8.out.ge
        have hN8 := Nat.lt_of_succ_lt hwc8
        have hob8 := HO8.out.lt
        have CV1 := Lib.hid (CV.out wc (B56.out.trans (HO8.out.bel.mono B56.out.size)))
        have CV2 : Hid (∀ W, Below wc.heap.size wc W → Calls Tryd.prog 14 #[.agg #[.string S, .string H, .slice a3 P'.length c3, .string Q2]] W fun e w' => e = .returned (.bool (locB S H P' Q2)) ∧ Below W.heap.size W w') := fun W hW => spec_LocationValid S H a3 P'.length c3 P' Q2 W (hrow3.below (Nat.le_refl _) hW) rfl (by omega) (by omega) hQ2 (fun x hx => Nat.le_trans (HPZ2.out x hx) (by omega))
        have ZB := Lib.hid zb
        clear hrow3 fb zb
        rcases hv : locB S H P Q with _ | _
        · have HT := Lib.hid (HFa.out hv)
          rw [hv] at CV1
          clear hv
          go_wp2_with fail
          refine CV1.out.mono ?_
          rintro e w10 ⟨rfl, b10⟩
          have hR10 := (b10.block _ hwc8).trans ZB.out
          have B10 := Lib.hid (BW8.out.trans (b10.mono BW8.out.size))
          have t0 := blkF hR10 0; have t1 := blkF hR10 1; have t2 := blkF hR10 2; have t3 := blkF hR10 3
          have y0 := blkC hR10 0 _ rfl; have y1 := blkC hR10 1 _ rfl; have y2 := blkC hR10 2 _ rfl; have y3 := blkC hR10 3 _ rfl
          clear b10
          go_upto_region 23 with fail
          repeat go_step
          obtain ⟨f, _, bb, _⟩ := loc_put (.string ⟨#[]⟩) (.string ⟨#[]⟩) (.slice none 0 0) (.string ⟨#[]⟩) hR10
          have BW := B10.out.trans ((bb (w.heap.size + 1) (Nat.le_refl _)).mono (Nat.le_succ _))
          generalize ((((w10.setCell ⟨w.heap.size + 1, 0, none⟩ (.string ⟨#[]⟩)).setCell ⟨w.heap.size + 1, 1, none⟩ (.string ⟨#[]⟩)).setCell ⟨w.heap.size + 1, 2, none⟩ (.slice none 0 0)).setCell ⟨w.heap.size + 1, 3, none⟩ (.string ⟨#[]⟩)) = W9 at *
          have f0 := blkC f 0 _ rfl; have f1 := blkC f 1 _ rfl; have f2 := blkC f 2 _ rfl; have f3 := blkC f 3 _ rfl
          exact bodyPost_ret (v := .tuple #[zeroLoc, .bool false]) (by simp [results, Tryd.results5, go_sem, f0, f1, f2, f3, zeroLoc]) rfl ⟨⟨none, 0, 0, by rw [HT.out]; rfl, by rw [HT.out]; rfl, by rw [HT.out]; exact RowAt.nil, fun _ => rfl⟩, BW⟩
        rw [hv] at CV1
        have HV := Lib.hid hv
        clear hv
        rcases hv2 : locB S H P' Q2 with _ | _
        · have HT := Lib.hid (HR2.out hv2)
          rw [hv2] at CV2
          clear hv2
          go_wp2_with fail
          refine CV1.out.mono ?_
          rintro e w10 ⟨rfl, b10⟩
          have HO10 := Lib.hid (HO8.out.below b10)
          have h10 := Nat.lt_of_lt_of_le hwc8 b10.size
          have zb10 := (b10.block _ hwc8).trans ZB.out
          have B10 := Lib.hid b10
          clear b10 x0 x1 x2 x3 v0 v1' v2 v3
          have v0 := blkC HO10.out.blk 0 _ rfl; have v1' := blkC HO10.out.blk 1 _ rfl; have v2 := blkC HO10.out.blk 2 _ rfl; have v3 := blkC HO10.out.blk 3 _ rfl
          go_wp2_with fail
          refine (CV2.out _ B10.out).mono ?_
          rintro e w11 ⟨rfl, b11⟩
          have hR10 := (b11.block _ h10).trans zb10
          have B11 := Lib.hid (BW8.out.trans ((B10.out.trans (b11.mono B10.out.size)).mono BW8.out.size))
          have t0 := blkF hR10 0; have t1 := blkF hR10 1; have t2 := blkF hR10 2; have t3 := blkF hR10 3
          have y0 := blkC hR10 0 _ rfl; have y1 := blkC hR10 1 _ rfl; have y2 := blkC hR10 2 _ rfl; have y3 := blkC hR10 3 _ rfl
          clear b11 zb10
          go_upto_region 23 with fail
          repeat go_step
          obtain ⟨f, _, bb, _⟩ := loc_put (.string ⟨#[]⟩) (.string ⟨#[]⟩) (.slice none 0 0) (.string ⟨#[]⟩) hR10
          have BW := B11.out.trans ((bb (w.heap.size + 1) (Nat.le_refl _)).mono (Nat.le_succ _))
          generalize ((((w11.setCell ⟨w.heap.size + 1, 0, none⟩ (.string ⟨#[]⟩)).setCell ⟨w.heap.size + 1, 1, none⟩ (.string ⟨#[]⟩)).setCell ⟨w.heap.size + 1, 2, none⟩ (.slice none 0 0)).setCell ⟨w.heap.size + 1, 3, none⟩ (.string ⟨#[]⟩)) = W9 at *
          have f0 := blkC f 0 _ rfl; have f1 := blkC f 1 _ rfl; have f2 := blkC f 2 _ rfl; have f3 := blkC f 3 _ rfl
          exact bodyPost_ret (v := .tuple #[zeroLoc, .bool false]) (by simp [results, Tryd.results5, go_sem, f0, f1, f2, f3, zeroLoc]) rfl ⟨⟨none, 0, 0, by rw [HT.out]; rfl, by rw [HT.out]; rfl, by rw [HT.out]; exact RowAt.nil, fun _ => rfl⟩, BW⟩
        · have HT := Lib.hid (HR1.out HV.out hv2)
          rw [hv2] at CV2
          clear hv2
          go_wp2_with fail
          refine CV1.out.mono ?_
          rintro e w10 ⟨rfl, b10⟩
          have HO10 := Lib.hid (HO8.out.below b10)
          have h10 := Nat.lt_of_lt_of_le hwc8 b10.size
          have zb10 := (b10.block _ hwc8).trans ZB.out
          have B10 := Lib.hid b10
          clear b10 x0 x1 x2 x3 v0 v1' v2 v3
          have v0 := blkC HO10.out.blk 0 _ rfl; have v1' := blkC HO10.out.blk 1 _ rfl; have v2 := blkC HO10.out.blk 2 _ rfl; have v3 := blkC HO10.out.blk 3 _ rfl
          go_wp2_with fail
          refine (CV2.out _ B10.out).mono ?_
          rintro e w11 ⟨rfl, b11⟩
          have HO11 := Lib.hid (HO10.out.below b11)
          have hR10 := (b11.block _ h10).trans zb10
          have B11 := Lib.hid (BW8.out.trans ((B10.out.trans (b11.mono B10.out.size)).mono BW8.out.size))
          have t0 := blkF hR10 0; have t1 := blkF hR10 1; have t2 := blkF hR10 2; have t3 := blkF hR10 3
          have y0 := blkC hR10 0 _ rfl; have y1 := blkC hR10 1 _ rfl; have y2 := blkC hR10 2 _ rfl; have y3 := blkC hR10 3 _ rfl
          clear b11 zb10 v0 v1' v2 v3
          have v0 := blkC HO11.out.blk 0 _ rfl; have v1' := blkC HO11.out.blk 1 _ rfl; have v2 := blkC HO11.out.blk 2 _ rfl; have v3 := blkC HO11.out.blk 3 _ rfl
          go_upto_region 24 with fail
          repeat go_step
          obtain ⟨f, g, bb, _⟩ := loc_put (.string S) (.string H) (.slice a3 P'.length c3) (.string Q2) hR10
          have BW := B11.out.trans ((bb (w.heap.size + 1) (Nat.le_refl _)).mono (Nat.le_succ _))
          have OW := own_other HO11.out.own g (fun j hj e => by have := own_ge HO11.out.own j hj; injection e with e; omega)
          generalize ((((w11.setCell ⟨w.heap.size + 1, 0, none⟩ (.string S)).setCell ⟨w.heap.size + 1, 1, none⟩ (.string H)).setCell ⟨w.heap.size + 1, 2, none⟩ (.slice a3 P'.length c3)).setCell ⟨w.heap.size + 1, 3, none⟩ (.string Q2)) = W9 at *
          have f0 := blkC f 0 _ rfl; have f1 := blkC f 1 _ rfl; have f2 := blkC f 2 _ rfl; have f3 := blkC f 3 _ rfl
          exact bodyPost_ret (v := .tuple #[.agg #[.string S, .string H, .slice a3 P'.length c3, .string Q2], .bool true]) (by simp [results, Tryd.results5, go_sem, f0, f1, f2, f3]) rfl ⟨⟨_, _, _, by rw [HT.out], by rw [HT.out], by rw [HT.out]; exact own_formn_row OW, fun e => by subst e; exact own_none OW⟩, BW⟩
end Go.Proofs.YtmiemnhbkcmanaaDoor
