/- What a text means, seen from a location, by the program (printed by gen_resi.py). -/
import Derived.Test.YtmiemnhbkcmanaaDoorRlI
import Derived.Test.YtmiemnhbkcmanaaDoorRes
import Derived.Test.YtmiemnhbkcmanaaDoorResP
import Derived.Test.YtmiemnhbkcmanaaDoorApart
import Derived.Deep.CutBlock
import Derived.Deep.CutRange
import Derived.Deep.RegionWith
import Derived.Deep.RegionHeld3
namespace Go.Proofs.YtmiemnhbkcmanaaDoor
open Go.RowKit

set_option maxRecDepth 100000 in
set_option maxHeartbeats 6400000 in
theorem impl_ResolveLocation (S H : ByteArray) (a : Option Addr) (n c : Nat) (P : List ByteArray) (Q : ByteArray) (s : ByteArray) (w : World) (hm : MaxOk w) (hrow : RowAt w a (P.map strV)) (hn : P.length = n) (hn' : n ≤ 1048576) (hnone : a = none → c = 0) (hH : H.size ≤ 1048576) (hQ : Q.size ≤ 1048576) (hP : ∀ x ∈ P, x.size ≤ 1048576) (hs : s.size ≤ 1048576) :
    Calls Tryd.prog 7 #[.agg #[.string S, .string H, .slice a n c, .string Q], .string s] w (ResPost (resT S H P Q (bl s)) w) := by
  have HMx := Lib.hid hm; have HRow := Lib.hid hrow; have HN := Lib.hid hn; have HNO := Lib.hid hnone; have HPZ := Lib.hid hP
  clear hm hrow hn hnone hP
  obtain ⟨W0, hW0⟩ : ∃ W0, W0 = w.alloc (.cells #[.string S, .string H, .slice a n c, .string Q] 26 (0, 0)) := ⟨_, rfl⟩
  obtain ⟨W1, hW1⟩ : ∃ W1, W1 = W0.alloc (.cells #[.string ⟨#[]⟩, .string ⟨#[]⟩, .slice none 0 0, .string ⟨#[]⟩] 26 (0, 0)) := ⟨_, rfl⟩
  have e0 : W0.heap.size = w.heap.size + 1 := by rw [hW0]; simp
  have e1 : W1.heap.size = w.heap.size + 1 + 1 := by rw [hW1]; simp [e0]
  have b0 : Below w.heap.size w W0 := by rw [hW0]; exact (Below.refl _ _).alloc (Nat.le_refl _) _
  have b1 : Below w.heap.size w W1 := by rw [hW1]; exact b0.alloc b0.size _
  have k0 : W1.heap[w.heap.size]? = some (.cells #[.string S, .string H, .slice a n c, .string Q] 26 (0, 0)) := by rw [hW1, Lib.alloc_old W0 _ _ (by omega), hW0]; exact heap_alloc_new w _
  have k1 : W1.heap[w.heap.size + 1]? = some (.cells #[.string ⟨#[]⟩, .string ⟨#[]⟩, .slice none 0 0, .string ⟨#[]⟩] 26 (0, 0)) := by rw [hW1, ← e0]; exact heap_alloc_new W0 _
  have B1 := Lib.hid b1
  rw [hW0] at hW1
  have HW1 := Lib.hid hW1
  have CV := Lib.hid (impl_LocationValid S H a n c P Q W1 (HMx.out.below b1) (HRow.out.below (Nat.le_refl _) b1) HN.out (by omega) (by omega) (by omega) (fun x hx => Nat.le_trans (HPZ.out x hx) (by omega)))
  clear hW1 hW0 b0 b1 e0
  rcases hv : locB S H P Q with _ | _
  · have HT : Hid (resT S H P Q (bl s) = zeroT) := resT_bad hv
    rw [hv] at CV
    clear hv
    go_enter Tryd.func7, Tryd.ntmps7
    go_wp2_with fail
    rw [← HW1.out]
    refine CV.out.mono ?_
    rintro e w2 ⟨rfl, b2⟩
    have k2 := (b2.block _ (by omega)).trans k1
    have B2 := Lib.hid (B1.out.trans (b2.mono B1.out.size))
    have t0 := blkF k2 0; have t1 := blkF k2 1; have t2 := blkF k2 2; have t3 := blkF k2 3
    have y0 := blkC k2 0 _ rfl; have y1 := blkC k2 1 _ rfl; have y2 := blkC k2 2 _ rfl; have y3 := blkC k2 3 _ rfl
    clear b2 k0 k1 e1
    go_wp2
    obtain ⟨f, _, bb, _⟩ := loc_put (.string ⟨#[]⟩) (.string ⟨#[]⟩) (.slice none 0 0) (.string ⟨#[]⟩) k2
    have BW := B2.out.trans ((bb (w.heap.size + 1) (Nat.le_refl _)).mono (Nat.le_succ _))
    generalize ((((w2.setCell ⟨w.heap.size + 1, 0, none⟩ (.string ⟨#[]⟩)).setCell ⟨w.heap.size + 1, 1, none⟩ (.string ⟨#[]⟩)).setCell ⟨w.heap.size + 1, 2, none⟩ (.slice none 0 0)).setCell ⟨w.heap.size + 1, 3, none⟩ (.string ⟨#[]⟩)) = W9 at *
    have f0 := blkC f 0 _ rfl; have f1 := blkC f 1 _ rfl; have f2 := blkC f 2 _ rfl; have f3 := blkC f 3 _ rfl
    exact bodyPost_ret (v := .tuple #[zeroLoc, .bool false]) (by simp [results, Tryd.results7, go_sem, f0, f1, f2, f3, zeroLoc]) rfl ⟨⟨_, by rw [HT.out]; rfl, by rw [HT.out]; exact World.ownsRow_nil _ _ _ _⟩, BW⟩
  rw [hv] at CV
  have HV := Lib.hid hv
  clear hv
  go_enter Tryd.func7, Tryd.ntmps7
  go_wp2_with fail
  rw [← HW1.out]
  refine CV.out.mono ?_
  rintro e w2 ⟨rfl, b2⟩
  have k2 := (b2.block _ (by omega)).trans k1
  have hbx := (b2.block _ (by omega)).trans k0
  have hw2 : w.heap.size + 1 < w2.heap.size := by have := b2.size; omega
  have B2 := Lib.hid (B1.out.trans (b2.mono B1.out.size))
  have HR2 := Lib.hid k2
  have HRow2 := Lib.hid (HRow.out.below (Nat.le_refl _) B2.out)
  have c0 := blkC hbx 0 _ rfl; have c1 := blkC hbx 1 _ rfl; have c2 := blkC hbx 2 _ rfl
  clear b2 k0 k1 e1 k2 hbx HW1 CV B1
  go_upto_region 3 with fail
  go_cut [6] from 17 (fun p wx => ∃ (ob : Nat) (v : Value), p = .pointer (some ⟨ob, 0, none⟩) ∧ Hid (OutI w2 wx ob S H v P ⟨#[]⟩))
  case first =>
    go_wp2
    have q1 : ¬ w.heap.size = w2.heap.size := by omega
    have q2 : ¬ w.heap.size = w2.heap.size + 1 := by omega
    have q3 : ¬ w2.heap.size = w.heap.size := by omega
    have q4 : ¬ w2.heap.size + 1 = w.heap.size := by omega
    have OEC : Hid ((w2.alloc (.cells #[] 9 (0, 0))).drew.ownsRow w2.heap.size 9 1 (.slice (some ⟨w2.heap.size, 0, none⟩) 0 0) 0 []) := own_new w2 #[] 9 0 rfl (by omega)
    have BEC : Hid (Below w2.heap.size w2 (w2.alloc (.cells #[] 9 (0, 0))).drew) := ((Below.refl _ _).alloc (Nat.le_refl _) _).drew
    have BEB : Hid (Below w2.heap.size w2 ((w2.alloc (.cells #[] 9 (0, 0))).alloc (.cells #[.string ⟨#[]⟩, .string ⟨#[]⟩, .slice none 0 0, .string ⟨#[]⟩] 26 (0, 0))).drew) := (((Below.refl _ _).alloc (Nat.le_refl _) _).alloc (by simp) _).drew
    have OEB : Hid (((w2.alloc (.cells #[] 9 (0, 0))).alloc (.cells #[.string ⟨#[]⟩, .string ⟨#[]⟩, .slice none 0 0, .string ⟨#[]⟩] 26 (0, 0))).drew.ownsRow w2.heap.size 9 1 (.slice (some ⟨w2.heap.size, 0, none⟩) 0 0) 0 []) := own_below OEC.out ((Below.refl _ _).alloc (Nat.le_refl _) _)
    have ZEB : Hid (((w2.alloc (.cells #[] 9 (0, 0))).alloc (.cells #[.string ⟨#[]⟩, .string ⟨#[]⟩, .slice none 0 0, .string ⟨#[]⟩] 26 (0, 0))).drew.heap[w2.heap.size + 1]? = some (.cells #[.string ⟨#[]⟩, .string ⟨#[]⟩, .slice none 0 0, .string ⟨#[]⟩] 26 (0, 0))) := by
      have := heap_alloc_new (w2.alloc (.cells #[] 9 (0, 0))) (.cells #[.string ⟨#[]⟩, .string ⟨#[]⟩, .slice none 0 0, .string ⟨#[]⟩] 26 (0, 0))
      rw [World.size_alloc] at this
      exact this
    have BEA : Hid (Below w2.heap.size w2 ((w2.alloc (.cells #[.string ⟨#[]⟩, .string ⟨#[]⟩, .slice none 0 0, .string ⟨#[]⟩] 26 (0, 0))).alloc (.cells #[] 9 (0, 0))).drew) := (((Below.refl _ _).alloc (Nat.le_refl _) _).alloc (by simp) _).drew
    have OEA : Hid (((w2.alloc (.cells #[.string ⟨#[]⟩, .string ⟨#[]⟩, .slice none 0 0, .string ⟨#[]⟩] 26 (0, 0))).alloc (.cells #[] 9 (0, 0))).drew.ownsRow w2.heap.size 9 1 (.slice (some ⟨w2.heap.size + 1, 0, none⟩) 0 0) 0 []) := by
      have := own_new (w2.alloc (.cells #[.string ⟨#[]⟩, .string ⟨#[]⟩, .slice none 0 0, .string ⟨#[]⟩] 26 (0, 0))) #[] 9 0 rfl (by omega)
      rw [World.size_alloc] at this
      exact own_mono this (Nat.le_succ _)
    have ZEA : Hid (((w2.alloc (.cells #[.string ⟨#[]⟩, .string ⟨#[]⟩, .slice none 0 0, .string ⟨#[]⟩] 26 (0, 0))).alloc (.cells #[] 9 (0, 0))).drew.heap[w2.heap.size]? = some (.cells #[.string ⟨#[]⟩, .string ⟨#[]⟩, .slice none 0 0, .string ⟨#[]⟩] 26 (0, 0))) := (Lib.alloc_old _ _ _ (by simp)).trans (heap_alloc_new w2 _)
    go_region_held3 (fun w' => w'.cell? ⟨w.heap.size, 0, none⟩ = some (.string S) ∧ w'.cell? ⟨w.heap.size, 1, none⟩ = some (.string H) ∧ w'.cell? ⟨w.heap.size, 2, none⟩ = some (.slice a n c)) (go_keep) (first | ((refine step_row _ (.tmp 25) (.tmp 27) w2.heap.size (.slice (some ⟨w2.heap.size, 0, none⟩) 0 0) 0 [] (by exact OEC.out) (by first | exact BEC.out.size | exact Nat.le_refl _) a n c P HNO.out (HRow2.out.below (Nat.le_refl _) BEC.out) HN.out (by omega) rfl (by rfl) (by rfl) (by rfl) ?_; intro v5 w5 o5 g5 e5; have o6 : w5.ownsRow w2.heap.size 9 1 v5 n (P.map strV) := (by simpa using o5); obtain ⟨a5, c5, rfl, _⟩ := own_formn o6; have b5 := BEC.out.grown g5 BEC.out.size (fun q hq => by simp [Value.ownBlock] at hq; omega); have z0 : w5.cell? ⟨w.heap.size, 0, none⟩ = some (.string S) := (b5.cell (p := ⟨w.heap.size, 0, none⟩) (Nat.lt_of_succ_lt hw2)).trans c0; have z1 : w5.cell? ⟨w.heap.size, 1, none⟩ = some (.string H) := (b5.cell (p := ⟨w.heap.size, 1, none⟩) (Nat.lt_of_succ_lt hw2)).trans c1; have z2 : w5.cell? ⟨w.heap.size, 2, none⟩ = some (.slice a n c) := (b5.cell (p := ⟨w.heap.size, 2, none⟩) (Nat.lt_of_succ_lt hw2)).trans c2; have O6 := Lib.hid o6; have B5 := Lib.hid b5; clear o5 o6 g5 e5 b5)) | ((refine step_row _ (.tmp 25) (.tmp 27) w2.heap.size (.slice (some ⟨w2.heap.size, 0, none⟩) 0 0) 0 [] (by exact OEB.out) (by first | exact BEB.out.size | exact Nat.le_refl _) a n c P HNO.out (HRow2.out.below (Nat.le_refl _) BEB.out) HN.out (by omega) rfl (by rfl) (by rfl) (by rfl) ?_; intro v5 w5 o5 g5 e5; have o6 : w5.ownsRow w2.heap.size 9 1 v5 n (P.map strV) := (by simpa using o5); obtain ⟨a5, c5, rfl, _⟩ := own_formn o6; have b5 := BEB.out.grown g5 BEB.out.size (fun q hq => by simp [Value.ownBlock] at hq; omega); have z0 : w5.cell? ⟨w.heap.size, 0, none⟩ = some (.string S) := (b5.cell (p := ⟨w.heap.size, 0, none⟩) (Nat.lt_of_succ_lt hw2)).trans c0; have z1 : w5.cell? ⟨w.heap.size, 1, none⟩ = some (.string H) := (b5.cell (p := ⟨w.heap.size, 1, none⟩) (Nat.lt_of_succ_lt hw2)).trans c1; have z2 : w5.cell? ⟨w.heap.size, 2, none⟩ = some (.slice a n c) := (b5.cell (p := ⟨w.heap.size, 2, none⟩) (Nat.lt_of_succ_lt hw2)).trans c2; have O6 := Lib.hid o6; have B5 := Lib.hid b5; have zz := blk_keep (b := w2.heap.size + 1) ZEB.out g5 (by intro e; simp [Value.ownBlock] at e); have ZZ := Lib.hid zz; have y0 := blkC zz 0 _ rfl; have y1 := blkC zz 1 _ rfl; have y2 := blkC zz 2 _ rfl; have y3 := blkC zz 3 _ rfl; have t0 := blkF zz 0; have t1 := blkF zz 1; have t2 := blkF zz 2; have t3 := blkF zz 3; clear zz; clear o5 o6 g5 e5 b5)) | ((refine step_row _ (.tmp 25) (.tmp 27) w2.heap.size (.slice (some ⟨w2.heap.size + 1, 0, none⟩) 0 0) 0 [] (by exact OEA.out) (by first | exact BEA.out.size | exact Nat.le_refl _) a n c P HNO.out (HRow2.out.below (Nat.le_refl _) BEA.out) HN.out (by omega) rfl (by rfl) (by rfl) (by rfl) ?_; intro v5 w5 o5 g5 e5; have o6 : w5.ownsRow w2.heap.size 9 1 v5 n (P.map strV) := (by simpa using o5); obtain ⟨a5, c5, rfl, _⟩ := own_formn o6; have b5 := BEA.out.grown g5 BEA.out.size (fun q hq => by simp [Value.ownBlock] at hq; omega); have z0 : w5.cell? ⟨w.heap.size, 0, none⟩ = some (.string S) := (b5.cell (p := ⟨w.heap.size, 0, none⟩) (Nat.lt_of_succ_lt hw2)).trans c0; have z1 : w5.cell? ⟨w.heap.size, 1, none⟩ = some (.string H) := (b5.cell (p := ⟨w.heap.size, 1, none⟩) (Nat.lt_of_succ_lt hw2)).trans c1; have z2 : w5.cell? ⟨w.heap.size, 2, none⟩ = some (.slice a n c) := (b5.cell (p := ⟨w.heap.size, 2, none⟩) (Nat.lt_of_succ_lt hw2)).trans c2; have O6 := Lib.hid o6; have B5 := Lib.hid b5; have zz := blk_keep (b := w2.heap.size) ZEA.out g5 (by intro e; simp [Value.ownBlock] at e); have ZZ := Lib.hid zz; have y0 := blkC zz 0 _ rfl; have y1 := blkC zz 1 _ rfl; have y2 := blkC zz 2 _ rfl; have y3 := blkC zz 3 _ rfl; have t0 := blkF zz 0; have t1 := blkF zz 1; have t2 := blkF zz 2; have t3 := blkF zz 3; clear zz; clear o5 o6 g5 e5 b5)))
    · go_wp2
      go_meet
      exact ⟨_, _, rfl, OutI.fresh (by rw [HN.out]; exact O6.out) B5.out⟩
    · go_wp2
      go_meet
      exact ⟨_, _, rfl, OutI.new ZZ.out (Nat.le_succ _) (by rw [HN.out]; exact O6.out) B5.out⟩
    · go_wp2
      go_meet
      exact ⟨_, _, rfl, OutI.new ZZ.out (Nat.le_refl _) (by rw [HN.out]; exact O6.out) B5.out⟩
  case rest =>
    obtain ⟨ob, v1, rfl, HO⟩ := hcut
    obtain ⟨a1, c1, rfl, _, hc1, hc1', _⟩ := own_formn HO.out.own
    have x0 := blkC HO.out.blk 0 _ rfl; have x1 := blkC HO.out.blk 1 _ rfl; have x2 := blkC HO.out.blk 2 _ rfl; have x3 := blkC HO.out.blk 3 _ rfl
    have hRc := (HO.out.bel.block _ hw2).trans HR2.out
    have hwc := Nat.lt_of_lt_of_le hw2 HO.out.bel.size
    have hob := HO.out.lt
    have hge := HO.out.ge
    have BC := Lib.hid (B2.out.trans (HO.out.bel.mono B2.out.size))
    by_cases hs0 : bl s = []
    · have HT : Hid (resT S H P Q (bl s) = (S, H, P, ⟨#[]⟩, true)) := resT_nil HV.out hs0
      have e1 : (s.toList == ([] : List UInt8)) = true := by rw [tl_litP, decide_eq_true hs0]
      have e2 : s.toList.isEmpty = true := by rw [ByteArray.toList_eq]; show (bl s).isEmpty = true; rw [hs0]; rfl
      have t0 := blkF hRc 0; have t1 := blkF hRc 1; have t2 := blkF hRc 2; have t3 := blkF hRc 3
      have y0 := blkC hRc 0 _ rfl; have y1 := blkC hRc 1 _ rfl; have y2 := blkC hRc 2 _ rfl; have y3 := blkC hRc 3 _ rfl
      clear hs0
      go_wp2
      have OO := HO.out.own
      obtain ⟨f, g, bb, _⟩ := loc_put (.string S) (.string H) (.slice a1 P.length c1) (.string ⟨#[]⟩) hRc
      have BW := BC.out.trans ((bb (w.heap.size + 1) (Nat.le_refl _)).mono (Nat.le_succ _))
      have OW := own_other OO g (fun j hj e => by have := own_ge OO j hj; injection e with e; omega)
      generalize ((((wc.setCell ⟨w.heap.size + 1, 0, none⟩ (.string S)).setCell ⟨w.heap.size + 1, 1, none⟩ (.string H)).setCell ⟨w.heap.size + 1, 2, none⟩ (.slice a1 P.length c1)).setCell ⟨w.heap.size + 1, 3, none⟩ (.string ⟨#[]⟩)) = W9 at *
      have f0 := blkC f 0 _ rfl; have f1 := blkC f 1 _ rfl; have f2 := blkC f 2 _ rfl; have f3 := blkC f 3 _ rfl
      exact bodyPost_ret (v := .tuple #[.agg #[.string S, .string H, .slice a1 P.length c1, .string ⟨#[]⟩], .bool true]) (by simp [results, Tryd.results7, go_sem, f0, f1, f2, f3]) rfl ⟨⟨_, by rw [HT.out], by rw [HT.out]; exact own_mono OW (by omega)⟩, BW⟩
    have e1 : (s.toList == ([] : List UInt8)) = false := by rw [tl_litP, decide_eq_false hs0]
    have e2 : s.toList.isEmpty = false := by rw [← e1]; rcases s.toList with _ | _ <;> rfl
    have HS0 := Lib.hid hs0
    clear hs0
    have CR := Lib.hid (impl_ReadLocation s wc (HMx.out.below BC.out) hs)
    go_wp2_with fail
    refine CR.out.mono ?_
    rintro e w5 ⟨hres, b5⟩
    have hR5 := (b5.block _ hwc).trans hRc
    have h5 := Nat.lt_of_lt_of_le hwc b5.size
    have B5 := Lib.hid (BC.out.trans (b5.mono BC.out.size))
    have HO5 := Lib.hid (HO.out.below b5)
    clear x0 x1 x2 x3 hob
    rcases hres with ⟨S', H', P', Q', v', rfl, hl1, hl2, ho'⟩ | ⟨rfl, hno⟩
    · have HT : Hid (resT S H P Q (bl s) = (S', H', P', Q', true)) := resT_read HV.out hl1 hl2
      obtain ⟨a', c', rfl, _⟩ := own_formn ho'
      have OO := Lib.hid ho'
      have t0 := blkF hR5 0; have t1 := blkF hR5 1; have t2 := blkF hR5 2; have t3 := blkF hR5 3
      have y0 := blkC hR5 0 _ rfl; have y1 := blkC hR5 1 _ rfl; have y2 := blkC hR5 2 _ rfl; have y3 := blkC hR5 3 _ rfl
      have HR5 := Lib.hid hR5
      clear b5 hl1 hl2 ho' hRc hR5
      go_wp2
      obtain ⟨f', g, bb, sz⟩ := loc_put (.string S') (.string H') (.slice a' P'.length c') (.string Q') HR5.out
      have OW := own_other OO.out g (fun j hj e => by have := own_ge OO.out j hj; injection e with e; omega)
      obtain ⟨W8, hW8⟩ : ∃ W8, W8 = ((((w5.setCell ⟨w.heap.size + 1, 0, none⟩ (.string S')).setCell ⟨w.heap.size + 1, 1, none⟩ (.string H')).setCell ⟨w.heap.size + 1, 2, none⟩ (.slice a' P'.length c')).setCell ⟨w.heap.size + 1, 3, none⟩ (.string Q')) := ⟨_, rfl⟩
      rw [← hW8] at f' bb sz OW ⊢
      have f : (W8.alloc (.cells #[.string S', .string H', .slice a' P'.length c', .string Q'] 26 (0, 0))).heap[w.heap.size + 1]? = some (.cells #[.string S', .string H', .slice a' P'.length c', .string Q'] 26 (0, 0)) := by rw [Lib.alloc_old W8 _ _ (by omega)]; exact f'
      have BW : Below w.heap.size w (W8.alloc (.cells #[.string S', .string H', .slice a' P'.length c', .string Q'] 26 (0, 0))) := (B5.out.trans ((bb _ (Nat.le_refl _)).mono (Nat.le_succ _))).alloc (by omega) _
      have OX := own_below OW ((Below.refl W8.heap.size W8).alloc (Nat.le_refl _) (.cells #[.string S', .string H', .slice a' P'.length c', .string Q'] 26 (0, 0)))
      have f0 := blkC f 0 _ rfl; have f1 := blkC f 1 _ rfl; have f2 := blkC f 2 _ rfl; have f3 := blkC f 3 _ rfl
      exact bodyPost_ret (v := .tuple #[.agg #[.string S', .string H', .slice a' P'.length c', .string Q'], .bool true]) (by simp [results, Tryd.results7, go_sem, f0, f1, f2, f3]) rfl ⟨⟨_, by rw [HT.out], by rw [HT.out]; exact own_mono OX (by omega)⟩, BW⟩
    unfold zeroLoc
    have HRO : Hid (locB S H (resP (bl s) P) (mkS (Lib.cut (bl s) [63]).2.1) = true → resT S H P Q (bl s) = (S, H, resP (bl s) P, mkS (Lib.cut (bl s) [63]).2.1, true)) := fun h => resT_out HV.out HS0.out hno h
    have HRN : Hid (locB S H (resP (bl s) P) (mkS (Lib.cut (bl s) [63]).2.1) = false → resT S H P Q (bl s) = zeroT) := fun h => resT_none HS0.out hno h
    have HCH : Hid ((Lib.cut (bl s) [63]).1 = [] ↔ (bl s).head? = some 63) := cut_head HS0.out
    have hsz : 0 < s.size := by rw [← bl_len]; exact List.length_pos_iff.2 HS0.out
    have HHD : Hid ((bl s).head? = some s[0]) := by
      have := bl_get s 0 hsz
      rw [← List.head?_eq_getElem?] at this
      exact this
    obtain ⟨W6, hW6⟩ : ∃ W6, W6 = w5.alloc (.cells #[.string ⟨#[]⟩, .string ⟨#[]⟩, .slice none 0 0, .string ⟨#[]⟩] 26 (0, 0)) := ⟨_, rfl⟩
    have b6 : Below w5.heap.size w5 W6 := by rw [hW6]; exact (Below.refl _ _).alloc (Nat.le_refl _) _
    have HO6 := Lib.hid (HO5.out.below b6)
    have B6 := Lib.hid (B5.out.trans (b6.mono B5.out.size))
    have hR6 := (b6.block _ h5).trans hR5
    have HW6 := Lib.hid hW6
    have L1 := cut_le (bl s) [63]
    rw [bl_len] at L1
    have CC1 := Lib.hid (cut_bel s ⟨#[63]⟩ W6 (HMx.out.below B6.out) hs)
    have blq : bl ⟨#[63]⟩ = [63] := rfl
    rw [blq] at CC1
    have HTG : Hid (resP (bl s) P = foldW (cutAt 47 (pathOf (Lib.cut (bl s) [63]).1)) (startR (Lib.cut (bl s) [63]).1 P)) := rfl
    clear hno b5 b6 hR5 hRc hW6 HS0 HO5 B5
    go_wp2_with fail
    rw [← HW6.out]
    refine CC1.out.mono ?_
    generalize Lib.cut (bl s) [63] = r1 at *
    obtain ⟨bf, qr, ok1⟩ := r1
    simp only at L1 HRO HRN HTG HCH ⊢
    rintro e w7 ⟨rfl, b7⟩
    have HO7 := Lib.hid (HO6.out.below b7)
    have B7 := Lib.hid (B6.out.trans (b7.mono B6.out.size))
    have hR7 := (b7.block _ (Array.getElem?_eq_some_iff.1 hR6).1).trans hR6
    clear b7 hR6 HW6 CC1 HO6 B6 HO
    have x2 := blkC HO7.out.blk 2 _ rfl; have x3 := blkC HO7.out.blk 3 _ rfl
    have u3 := blkF HO7.out.blk 3; have u2 := blkF HO7.out.blk 2
    have HQ7 := Lib.hid (HO7.out.setQ (mkS qr))
    have hqz : (mkS qr).size ≤ 1048576 := by rw [mkS_size]; omega
    have HPS := pre_slash bf
    have CP : Hid (∀ W, Calls Tryd.prog 21 #[.string (mkS bf), .string ⟨#[47]⟩] W fun e w' => e = .returned (.tuple #[.string (mkS (pathOf bf)), .bool (decide (bf.head? = some 47))]) ∧ w' = W) := fun W => by
      rw [← HPS.1, ← HPS.2]
      have := Tryd.strings_CutPrefix (mkS bf) ⟨#[47]⟩ W
      have e1 : (mkS bf).data.toList = bf := bl_mkS bf
      rw [e1] at this
      exact this
    have hpl : (pathOf bf).length ≤ s.size := by
      unfold pathOf
      split
      · rw [List.length_tail]; omega
      · omega
    obtain ⟨T, hT⟩ : ∃ T, T = resP (bl s) P := ⟨_, rfl⟩
    rw [← hT] at HRO HRN HTG
    have HQQ := Lib.hid (show mkS qr = mkS qr from rfl)
    clear HPS hT
    generalize mkS qr = QR at *
    go_upto_if 53 with (go_at_call 21; refine (CP.out _).mono ?_; rintro e w8 ⟨rfl, rfl⟩)
    go_cut [9, 13] from 17 (fun p _ wx => p = .string (mkS (pathOf bf)) ∧ ∃ v', Hid (OutI w2 wx ob S H v' (startR bf P) QR))
    case first =>
      by_cases h47 : bf.head? = some 47
      · have hd : decide (bf.head? = some 47) = true := decide_eq_true h47
        have hst : startR bf P = [] := by unfold startR; rw [if_pos h47]
        rw [hd]
        have HX : Hid (OutI w2 ((w7.setCell ⟨ob, 3, none⟩ (.string QR)).setCell ⟨ob, 2, none⟩ (.slice none 0 0)) ob S H (.slice none 0 0) [] QR) := OutI.put HQ7.out.blk HQ7.out.ge (World.ownsRow_nil _ _ _ _) HQ7.out.bel
        have HST := Lib.hid hst
        clear hst h47 hd
        go_wp2
        go_meet
        exact ⟨rfl, _, by rw [HST.out]; exact HX.out⟩
      have hd : decide (bf.head? = some 47) = false := decide_eq_false h47
      have hpo : pathOf bf = bf := by unfold pathOf; rw [if_neg h47]
      rw [hd]
      have HPO := Lib.hid hpo
      by_cases hbf : bf = []
      · have hst : startR bf P = P := by unfold startR; rw [if_neg h47, if_pos hbf]
        have hq : s[0] = 63 := by have := HCH.out.1 hbf; rw [HHD.out] at this; injection this
        have q1 : ((s[0].toNat : Int) == 63) = true := beqN (n := 63) 63 rfl hq
        have q2 : ((s[0].toNat : Int) != 63) = false := by rw [bne, q1]; rfl
        have HST := Lib.hid hst
        clear hst h47 hd hbf hq hpo
        go_wp2
        go_meet
        exact ⟨by rw [HPO.out], _, by rw [HST.out]; exact HQ7.out⟩
      have hq : ¬ s[0] = 63 := fun e => hbf (HCH.out.2 (by rw [HHD.out, e]))
      have q1 : ((s[0].toNat : Int) == 63) = false := bneN (n := 63) 63 rfl hq
      have q2 : ((s[0].toNat : Int) != 63) = true := by rw [bne, q1]; rfl
      have hst : startR bf P = P.dropLast := by unfold startR; rw [if_neg h47, if_neg hbf]
      have HST := Lib.hid hst
      by_cases hP0 : P.length = 0
      · have hPe : P.dropLast = P := by rw [List.eq_nil_of_length_eq_zero hP0]; rfl
        have HPE := Lib.hid hPe
        have hd0 : decide ((0 : Int) < (P.length : Int)) = false := by rw [decide_eq_false_iff_not]; omega
        clear hst h47 hd hbf hq hPe hpo
        go_wp2
        go_meet
        exact ⟨by rw [HPO.out], _, by rw [HST.out, HPE.out]; exact HQ7.out⟩
      have HX := Lib.hid (OutI.put (P' := P.dropLast) (v' := .slice a1 (P.length - 1) c1) HQ7.out.blk HQ7.out.ge (by rw [List.length_dropLast, List.map_dropLast]; exact own_pop HQ7.out.own (by omega)) HQ7.out.bel)
      have i1 : IntKind.i64.wrap ((P.length : Int) - 1) = (P.length : Int) - 1 := IntWalk.i64_in _ (by have := HN.out; omega)
      have i2 : (0 : Int) < (P.length : Int) := by omega
      have i3 : ((P.length : Int) - 1).toNat = P.length - 1 := by omega
      have i4 : (0 : Int) ≤ (P.length : Int) - 1 := by omega
      have i5 : (P.length : Int) - 1 ≤ (c1 : Int) := by omega
      have i6 : P.length - 1 ≤ c1 := by omega
      clear hst h47 hd hbf hq hpo
      go_wp2
      go_meet
      exact ⟨by rw [HPO.out], _, by rw [HST.out]; exact HX.out⟩
    case rest =>
      obtain ⟨rfl, v8, HO8⟩ := hcut
      have B8 := Lib.hid (B2.out.trans (HO8.out.bel.mono B2.out.size))
      have CSP := Lib.hid (splitP_at (mkS (pathOf bf)) 47 wc (HMx.out.below B8.out) (by rw [mkS_size]; omega))
      rw [bl_mkS] at CSP
      have HL1 := (cutAt_len 47 (mkS (pathOf bf))).1
      have HLn := (cutAt_len 47 (mkS (pathOf bf))).2
      rw [bl_mkS] at HLn HL1
      rw [mkS_size] at HLn
      have HLe : Hid (∀ x ∈ cutAt 47 (pathOf bf), (mkS x).size ≤ 1048576) := fun x hx => by have := cutAt_mem 47 (pathOf bf) x hx; rw [mkS_size]; omega
      have hR0 : (startR bf P).length ≤ 1048576 := by
        have := HN.out
        unfold startR
        split
        · simp
        · split
          · omega
          · rw [List.length_dropLast]; omega
      have HZ0 : Hid (∀ x ∈ startR bf P, x.size ≤ 1048576) := fun x hx => by
        unfold startR at hx
        split at hx
        · cases hx
        · split at hx
          · exact HPZ.out x hx
          · exact HPZ.out x ((List.dropLast_sublist _).subset hx)
      clear CP HHD HCH HQ7 x2 x3 u2 u3 HO7 L1
      generalize startR bf P = R0 at *
      generalize mkS (pathOf bf) = PT at *
      generalize cutAt 47 (pathOf bf) = W at *
      obtain ⟨nw, hnw⟩ : ∃ nw, W.length = nw := ⟨_, rfl⟩
      rw [hnw] at CSP HL1 HLn
      have hnwz : nw ≤ 1048577 := by omega
      have HNW := Lib.hid hnw
      clear hnw
      go_wp2_with fail
      refine CSP.out.mono ?_
      rintro e w9 ⟨vp, rfl, op, b9⟩
      have HO9 := Lib.hid (HO8.out.below b9)
      obtain ⟨pb, pc, rfl, hBp, hpb, kp, kp', _⟩ := own_at op (by omega)
      have HAP : Hid (Apart v8 (.slice (some ⟨pb, 0, none⟩) nw pc)) := fun q hq hq2 => by
        have := own_ge HO8.out.own q hq
        simp [Value.ownBlock] at hq2
        omega
      have OP := Lib.hid (own_mono op (Nat.zero_le _))
      clear op b9 CSP HO8 hBp
      go_wp2
      go_loopw [77] (fun t wr => ∃ (k : Nat) (Rr : List ByteArray) (v : Value), k ≤ nw ∧ t = .int .i64 (k : Int) ∧ Rr.length ≤ 1048576 + k ∧ Hid (∀ x ∈ Rr, x.size ≤ 1048576) ∧ Hid (foldW (W.drop k) Rr = T) ∧ Hid (OutI w2 wr ob S H v Rr QR) ∧ Hid (wr.ownsRow 0 9 1 (.slice (some ⟨pb, 0, none⟩) nw pc) nw ((W.map mkS).map strV)) ∧ Hid (Apart v (.slice (some ⟨pb, 0, none⟩) nw pc))) (fun t _ => nw - (intOf t).toNat)
      case atStart => exact ⟨0, R0, v8, Nat.zero_le _, rfl, hR0, HZ0, HTG.out.symm, HO9, OP, HAP⟩
      case round =>
        clear HZ0 HTG HO9 OP HAP hpb
        obtain ⟨k, Rr, v, hk, rfl, hRl, HRZ, HF, HO, OP, AP⟩ := hrel
        obtain ⟨a2, c2, rfl, hrow2, kv, kv', _⟩ := own_formn HO.out.own
        have x0 := blkC HO.out.blk 0 _ rfl; have x1 := blkC HO.out.blk 1 _ rfl; have x2 := blkC HO.out.blk 2 _ rfl; have x3 := blkC HO.out.blk 3 _ rfl
        have u2 := blkF HO.out.blk 2
        have BW := Lib.hid (B2.out.trans (HO.out.bel.mono B2.out.size))
        have hRw := (HO.out.bel.block _ hw2).trans HR2.out
        have hw7 := Nat.lt_of_lt_of_le hw2 HO.out.bel.size
        have hge2 := HO.out.ge
        by_cases hkw : k < nw
        case neg =>
          have HRT : Hid (Rr = T) := by rw [← HF.out, foldW_end (by rw [HNW.out]; omega)]; rfl
          rw [← HRT.out] at HRO HRN
          have CV := Lib.hid (impl_LocationValid S H a2 Rr.length c2 Rr QR wr (HMx.out.below BW.out) hrow2 rfl (by omega) (by omega) hqz (fun x hx => Nat.le_trans (HRZ.out x hx) (by omega)))
          clear hrow2 HF AP OP
          rcases hv2 : locB S H Rr QR with _ | _
          · have HT := Lib.hid (HRN.out hv2)
            rw [hv2] at CV
            clear hv2
            go_wp2_with fail
            refine CV.out.mono ?_
            rintro e w10 ⟨rfl, b10⟩
            have hR10 := (b10.block _ hw7).trans hRw
            have B10 := Lib.hid (BW.out.trans (b10.mono BW.out.size))
            have t0 := blkF hR10 0; have t1 := blkF hR10 1; have t2 := blkF hR10 2; have t3 := blkF hR10 3
            have y0 := blkC hR10 0 _ rfl; have y1 := blkC hR10 1 _ rfl; have y2 := blkC hR10 2 _ rfl; have y3 := blkC hR10 3 _ rfl
            clear b10 hRw
            go_wp2
            obtain ⟨f, _, bb, _⟩ := loc_put (.string ⟨#[]⟩) (.string ⟨#[]⟩) (.slice none 0 0) (.string ⟨#[]⟩) hR10
            have BW := B10.out.trans ((bb (w.heap.size + 1) (Nat.le_refl _)).mono (Nat.le_succ _))
            generalize ((((w10.setCell ⟨w.heap.size + 1, 0, none⟩ (.string ⟨#[]⟩)).setCell ⟨w.heap.size + 1, 1, none⟩ (.string ⟨#[]⟩)).setCell ⟨w.heap.size + 1, 2, none⟩ (.slice none 0 0)).setCell ⟨w.heap.size + 1, 3, none⟩ (.string ⟨#[]⟩)) = W9 at *
            have f0 := blkC f 0 _ rfl; have f1 := blkC f 1 _ rfl; have f2 := blkC f 2 _ rfl; have f3 := blkC f 3 _ rfl
            exact bodyPost_ret (v := .tuple #[zeroLoc, .bool false]) (by simp [results, Tryd.results7, go_sem, f0, f1, f2, f3, zeroLoc]) rfl ⟨⟨_, by rw [HT.out]; rfl, by rw [HT.out]; exact World.ownsRow_nil _ _ _ _⟩, BW⟩
          · have HT := Lib.hid (HRO.out hv2)
            rw [hv2] at CV
            clear hv2
            go_wp2_with fail
            refine CV.out.mono ?_
            rintro e w10 ⟨rfl, b10⟩
            have hR10 := (b10.block _ hw7).trans hRw
            have B10 := Lib.hid (BW.out.trans (b10.mono BW.out.size))
            have HO10 := Lib.hid (HO.out.below b10)
            have t0 := blkF hR10 0; have t1 := blkF hR10 1; have t2 := blkF hR10 2; have t3 := blkF hR10 3
            have y0 := blkC hR10 0 _ rfl; have y1 := blkC hR10 1 _ rfl; have y2 := blkC hR10 2 _ rfl; have y3 := blkC hR10 3 _ rfl
            clear b10 hRw x0 x1 x2 x3
            have x0 := blkC HO10.out.blk 0 _ rfl; have x1 := blkC HO10.out.blk 1 _ rfl; have x2 := blkC HO10.out.blk 2 _ rfl; have x3 := blkC HO10.out.blk 3 _ rfl
            go_wp2
            have OO := HO10.out.own
            obtain ⟨f, g, bb, _⟩ := loc_put (.string S) (.string H) (.slice a2 Rr.length c2) (.string QR) hR10
            have BW := B10.out.trans ((bb (w.heap.size + 1) (Nat.le_refl _)).mono (Nat.le_succ _))
            have OW := own_other OO g (fun j hj e => by have := own_ge OO j hj; injection e with e; omega)
            generalize ((((w10.setCell ⟨w.heap.size + 1, 0, none⟩ (.string S)).setCell ⟨w.heap.size + 1, 1, none⟩ (.string H)).setCell ⟨w.heap.size + 1, 2, none⟩ (.slice a2 Rr.length c2)).setCell ⟨w.heap.size + 1, 3, none⟩ (.string QR)) = W9 at *
            have f0 := blkC f 0 _ rfl; have f1 := blkC f 1 _ rfl; have f2 := blkC f 2 _ rfl; have f3 := blkC f 3 _ rfl
            exact bodyPost_ret (v := .tuple #[.agg #[.string S, .string H, .slice a2 Rr.length c2, .string QR], .bool true]) (by simp [results, Tryd.results7, go_sem, f0, f1, f2, f3]) rfl ⟨⟨_, by rw [HT.out], by rw [HT.out]; exact own_mono OW (by omega)⟩, BW⟩
        have hkW : k < W.length := by rw [HNW.out]; exact hkw
        obtain ⟨g, c3, hv3, _, hlt, _, _, hcell⟩ := own_at OP.out (by omega)
        injection hv3 with hv1 hv2 hv3
        injection hv1 with hv1
        injection hv1 with hv1
        subst hv1; subst hv3
        clear hv2
        have hc1 := hcell k (.string (mkS W[k])) (by simp [strV, hkW])
        have HFN := Lib.hid (foldW_at (R := Rr) hkW)
        rw [HNW.out, HF.out] at HFN
        have hxz : (mkS W[k]).size ≤ 1048576 := HLe.out _ (List.getElem_mem hkW)
        clear hcell hrow2 hRw HF HRO HRN x0 x1 x3
        generalize W[k] = x at *
        have ed : ((mkS x).toList == ([46] : List UInt8)) = decide (x = [46]) := by rw [tl_litP, bl_mkS]
        have ee : ((mkS x).toList == ([] : List UInt8)) = decide (x = []) := by rw [tl_litP, bl_mkS]
        have ei : (mkS x).toList.isEmpty = decide (x = []) := by rw [← ee]; rcases (mkS x).toList with _ | _ <;> rfl
        have eu : ((mkS x).toList == ([46, 46] : List UInt8)) = decide (x = [46, 46]) := by rw [tl_litP, bl_mkS]
        have j0 : IntKind.i64.wrap ((nw : Int) - 1) = (nw : Int) - 1 := IntWalk.i64_in _ (by omega)
        by_cases h1 : x = [46]
        · have HF2 : Hid (foldW (W.drop (k + 1)) Rr = T) := by rw [HFN.out, stepW_dot h1]; rfl
          rw [decide_eq_true h1] at ed
          clear ee ei eu h1
          generalize mkS x = X at *
          go_wp2
          go_roundw
          case rel => exact ⟨k + 1, Rr, _, by omega, by go_num, by omega, HRZ, HF2, HO, OP, AP⟩
          case measure => simp [intOf]; omega
        rw [decide_eq_false h1] at ed
        by_cases h3 : x = [46, 46]
        · have h2 : ¬ x = [] := by rw [h3]; intro e; cases e
          have HF2 : Hid (foldW (W.drop (k + 1)) Rr.dropLast = T) := by rw [HFN.out, stepW_up h3]; rfl
          rw [decide_eq_true h3] at eu
          rw [decide_eq_false h2] at ee ei
          clear h1 h2 h3
          generalize mkS x = X at *
          by_cases hz : Rr.length = 0
          · have HE : Hid (Rr.dropLast = Rr) := by rw [List.eq_nil_of_length_eq_zero hz]; rfl
            rw [HE.out] at HF2
            have hd0 : decide ((0 : Int) < (Rr.length : Int)) = false := by rw [decide_eq_false_iff_not]; omega
            go_wp2
            go_roundw
            case rel => exact ⟨k + 1, Rr, _, by omega, by go_num, by omega, HRZ, HF2, HO, OP, AP⟩
            case measure => simp [intOf]; omega
          · have HX := Lib.hid (OutI.put (P' := Rr.dropLast) (v' := .slice a2 (Rr.length - 1) c2) HO.out.blk HO.out.ge (by rw [List.length_dropLast, List.map_dropLast]; exact own_pop HO.out.own (by omega)) HO.out.bel)
            have OPX := Lib.hid (own_setob (i := 2) (x := .slice a2 (Rr.length - 1) c2) HO.out.blk OP.out)
            have APX : Hid (Apart (.slice a2 (Rr.length - 1) c2) (.slice (some ⟨pb, 0, none⟩) nw pc)) := Apart.len AP.out
            have HZX : Hid (∀ x ∈ Rr.dropLast, x.size ≤ 1048576) := fun x hx => HRZ.out x ((List.dropLast_sublist _).subset hx)
            have i1 : IntKind.i64.wrap ((Rr.length : Int) - 1) = (Rr.length : Int) - 1 := IntWalk.i64_in _ (by omega)
            have i2 : (0 : Int) < (Rr.length : Int) := by omega
            have i3 : ((Rr.length : Int) - 1).toNat = Rr.length - 1 := by omega
            have i4 : (0 : Int) ≤ (Rr.length : Int) - 1 := by omega
            have i5 : (Rr.length : Int) - 1 ≤ (c2 : Int) := by omega
            have i6 : Rr.length - 1 ≤ c2 := by omega
            go_wp2
            go_roundw
            case rel => exact ⟨k + 1, Rr.dropLast, _, by omega, by go_num, by rw [List.length_dropLast]; omega, HZX, HF2, HX, OPX, APX⟩
            case measure => simp [intOf]; omega
        rw [decide_eq_false h3] at eu
        have HZX : Hid (∀ y ∈ Rr ++ [mkS x], y.size ≤ 1048576) := fun y hy => by
          rcases List.mem_append.1 hy with hy | hy
          · exact HRZ.out y hy
          · rw [List.mem_singleton] at hy; rw [hy]; exact hxz
        by_cases h2 : x = []
        · by_cases hl : k + 1 = nw
          · have HF2 : Hid (foldW (W.drop (k + 1)) Rr = T) := by rw [HFN.out, decide_eq_true hl, stepW_last h2]; rfl
            rw [decide_eq_true h2] at ee ei
            have jl : ((k : Int) == (nw : Int) - 1) = true := by rw [beq_iff_eq]; omega
            clear h1 h2 h3
            generalize mkS x = X at *
            go_wp2
            go_roundw
            case rel => exact ⟨k + 1, Rr, _, by omega, by go_num, by omega, HRZ, HF2, HO, OP, AP⟩
            case measure => simp [intOf]; omega
          · have HF2 : Hid (foldW (W.drop (k + 1)) (Rr ++ [mkS x]) = T) := by rw [HFN.out, decide_eq_false hl, stepW_push h1 (by rintro ⟨_, h⟩; cases h) h3]; rfl
            rw [decide_eq_true h2] at ee ei
            have jl : ((k : Int) == (nw : Int) - 1) = false := by rw [beq_eq_false_iff_ne]; omega
            clear h1 h2 h3
            generalize mkS x = X at *
            go_wp2_with (at_builtin; refine wpList_pushS3 (.tmp 83) (.tmp 85) w2.heap.size X _ Rr.length Rr HO.out.own HO.out.bel.size (by omega) rfl (by rfl) (by rfl) wr.heap.size rfl (by rfl) ?_; intro v5 w5 o5 g5 b5 e5; obtain ⟨a5, c5, rfl, _⟩ := own_formn o5; obtain ⟨hb5, hbel5⟩ := HO.out.grown g5; have x25 := blkC hb5 2 _ rfl; have u25 := blkF hb5 2; have HX := Lib.hid (OutI.put (P' := Rr ++ [X]) (v' := .slice a5 (Rr.length + 1) c5) hb5 HO.out.ge (own_len_eq o5 (by simp) rfl) hbel5); have OPX := Lib.hid (own_setob (i := 2) (x := .slice a5 (Rr.length + 1) c5) hb5 (own_other OP.out g5 (fun q hq => AP.out.symm q hq))); have APX := Lib.hid (Apart.push AP.out OP.out e5); clear o5 g5 b5 e5 hb5 hbel5)
            go_roundw
            case rel => exact ⟨k + 1, Rr ++ [X], _, by omega, by go_num, by rw [List.length_append, List.length_singleton]; omega, HZX, HF2, HX, OPX, APX⟩
            case measure => simp [intOf]; omega
        · have HF2 : Hid (foldW (W.drop (k + 1)) (Rr ++ [mkS x]) = T) := by rw [HFN.out, stepW_push h1 (fun h => h2 h.1) h3]; rfl
          rw [decide_eq_false h2] at ee ei
          clear h1 h2 h3
          generalize mkS x = X at *
          go_wp2_with (at_builtin; refine wpList_pushS3 (.tmp 83) (.tmp 85) w2.heap.size X _ Rr.length Rr HO.out.own HO.out.bel.size (by omega) rfl (by rfl) (by rfl) wr.heap.size rfl (by rfl) ?_; intro v5 w5 o5 g5 b5 e5; obtain ⟨a5, c5, rfl, _⟩ := own_formn o5; obtain ⟨hb5, hbel5⟩ := HO.out.grown g5; have x25 := blkC hb5 2 _ rfl; have u25 := blkF hb5 2; have HX := Lib.hid (OutI.put (P' := Rr ++ [X]) (v' := .slice a5 (Rr.length + 1) c5) hb5 HO.out.ge (own_len_eq o5 (by simp) rfl) hbel5); have OPX := Lib.hid (own_setob (i := 2) (x := .slice a5 (Rr.length + 1) c5) hb5 (own_other OP.out g5 (fun q hq => AP.out.symm q hq))); have APX := Lib.hid (Apart.push AP.out OP.out e5); clear o5 g5 b5 e5 hb5 hbel5)
          go_roundw
          case rel => exact ⟨k + 1, Rr ++ [X], _, by omega, by go_num, by rw [List.length_append, List.length_singleton]; omega, HZX, HF2, HX, OPX, APX⟩
          case measure => simp [intOf]; omega
end Go.Proofs.YtmiemnhbkcmanaaDoor
