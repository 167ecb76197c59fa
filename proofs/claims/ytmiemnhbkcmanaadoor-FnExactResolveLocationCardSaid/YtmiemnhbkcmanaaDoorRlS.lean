/- Locations read back, by the reference (printed by gen_rls.py). -/
import Derived.Test.YtmiemnhbkcmanaaDoorRlI
namespace Go.Proofs.YtmiemnhbkcmanaaDoor
open Go.RowKit

/-- What the reference's reader of locations returns: as RlPost, the path a row that can be read. -/
def RlsPost (s : ByteArray) (w : World) (e : Ending) (w' : World) : Prop :=
  ((∃ S H P Q a n c, e = .returned (.tuple #[.agg #[.string S, .string H, .slice a n c, .string Q], .bool true]) ∧ locB S H P Q = true ∧ locT S H P Q = bl s ∧ P.length = n ∧ RowAt w' a (P.map strV) ∧ (a = none → c = 0) ∧ ∀ x, a = some x → w.heap.size ≤ x.block) ∨
    (e = .returned (.tuple #[zeroLoc, .bool false]) ∧ ∀ S H P Q, locB S H P Q = true → locT S H P Q ≠ bl s)) ∧ Below w.heap.size w w'

theorem map_blP_inj {P : List ByteArray} {L : List (List UInt8)} (h : L = P.map bl) : L.map mkS = P := by rw [h, map_mkS_blP]
theorem row_drop {w : World} {g n : Nat} {l : List Value} (h : RowAt w (some ⟨g, 0, none⟩) l) : RowAt w (some ⟨g, n, none⟩) (l.drop n) := by
  intro i hi
  rw [List.length_drop] at hi
  obtain ⟨b, off, ha, hlt, hc⟩ := h (n + i) (by omega)
  injection ha with ha
  injection ha with h1 h2
  subst h1; subst h2
  refine ⟨g, n, rfl, hlt, ?_⟩
  rw [Nat.zero_add] at hc
  rw [hc, List.getElem_drop]

set_option maxRecDepth 100000 in
set_option maxHeartbeats 3200000 in
theorem spec_ReadLocation (s : ByteArray) (w : World) (hs : s.size ≤ 1048576) :
    Calls Tryd.prog 13 #[.string s] w (RlsPost s w) := by
  have HC0 : Hid (∀ S H P Q, locB S H P Q = true → locT S H P Q = bl s → cutAt 47 (Lib.cut (bl s) [63]).1 = (bl S ++ [58]) :: [] :: bl H :: (if P = [] then [[]] else P.map bl) ∧ (Lib.cut (bl s) [63]).2.1 = bl Q ∧ ∀ x ∈ P, stepB (bl x) = true) := fun S H P Q h e => by
    have h1 := loc_cutq h
    rw [e] at h1
    exact ⟨by rw [h1.1]; exact loc_words h, h1.2, (locB_parts h).2.2.2.1⟩
  have CQ := Lib.hid (fun W => spec_l32Query s W (by omega))
  have L1 := cut_le (bl s) [63]
  rw [bl_len] at L1
  generalize Lib.cut (bl s) [63] = r1 at *
  obtain ⟨bf, qr, ok1⟩ := r1
  simp only at L1
  have hbq : (mkS qr).size ≤ 1048576 := by rw [mkS_size]; omega
  have CW := Lib.hid (fun W => spec_l32Split (mkS bf) W (by rw [mkS_size]; omega))
  rw [bl_mkS] at CW
  have HLe : Hid (∀ x ∈ cutAt 47 bf, (mkS x).size ≤ 1048576) := fun x hx => by have := cutAt_mem 47 bf x hx; rw [mkS_size]; omega
  have HLn := (cutAt_len 47 (mkS bf)).2
  have HL1 := (cutAt_len 47 (mkS bf)).1
  rw [bl_mkS] at HLn HL1
  rw [mkS_size] at HLn
  simp only at HC0
  generalize cutAt 47 bf = L at *
  obtain ⟨n, hn⟩ : ∃ n, L.length = n := ⟨_, rfl⟩
  rw [hn] at CW HLn HL1
  have HN := Lib.hid hn
  clear hn
  go_enter Tryd.func13, Tryd.ntmps13
  go_wp2_with fail
  obtain ⟨W0, hW0⟩ : ∃ W0, W0 = w.alloc (.cells #[.string ⟨#[]⟩, .string ⟨#[]⟩, .slice none 0 0, .string ⟨#[]⟩] 26 (0, 0)) := ⟨_, rfl⟩
  have hz0 : W0.heap[w.heap.size]? = some (.cells #[.string ⟨#[]⟩, .string ⟨#[]⟩, .slice none 0 0, .string ⟨#[]⟩] 26 (0, 0)) := by rw [hW0]; exact heap_alloc_new w _
  have b0 : Below w.heap.size w W0 := by rw [hW0]; exact (Below.refl _ _).alloc (Nat.le_refl _) _
  have s0 : w.heap.size < W0.heap.size := by rw [hW0]; simp
  rw [← hW0]
  clear hW0
  refine (CQ.out _).mono ?_
  rintro e w1 ⟨rfl, b1⟩
  have hz1 := (b1.block _ s0).trans hz0
  have s1 := Nat.lt_of_lt_of_le s0 b1.size
  have B1 := Lib.hid (b0.trans (b1.mono (Nat.le_of_lt s0)))
  clear b0 b1 hz0 s0
  go_wp2_with fail
  refine (CW.out _).mono ?_
  rintro e w2 ⟨v2, rfl, o2, b2⟩
  have hz2 := (b2.block _ s1).trans hz1
  have s2 := Nat.lt_of_lt_of_le s1 b2.size
  have B2 := Lib.hid (B1.out.trans (b2.mono (Nat.le_of_lt s1)))
  obtain ⟨g, c, rfl, hBg, hg, hnc, hc63, hcell⟩ := own_at o2 (by omega)
  have HRow := Lib.hid (own_formn_row o2)
  have HRg : Hid (w.heap.size < g) := by show _ < _; omega
  clear b2 hz1 o2 hBg
  have HZ2 := Lib.hid hz2
  have t0 := blkF hz2 0; have t1 := blkF hz2 1; have t2 := blkF hz2 2; have t3 := blkF hz2 3
  have y0 := blkC hz2 0 _ rfl; have y1 := blkC hz2 1 _ rfl; have y2 := blkC hz2 2 _ rfl; have y3 := blkC hz2 3 _ rfl
  by_cases h4 : n < 4
  · have HNo : Hid (∀ S H P Q, locB S H P Q = true → locT S H P Q ≠ bl s) := fun S H P Q h e => by
      have h1 := (HC0.out S H P Q h e).1
      have h2 := HN.out
      rw [h1] at h2
      by_cases hP : P = []
      · rw [if_pos hP] at h2; simp at h2; omega
      · rw [if_neg hP] at h2
        have : 0 < P.length := List.length_pos_iff.2 hP
        simp at h2; omega
    clear hcell hz2
    go_wp2
    obtain ⟨f, _, bb, _⟩ := loc_put (.string ⟨#[]⟩) (.string ⟨#[]⟩) (.slice none 0 0) (.string ⟨#[]⟩) HZ2.out
    have BW := B2.out.trans ((bb w.heap.size (Nat.le_refl _)).mono (Nat.le_refl _))
    generalize ((((w2.setCell ⟨w.heap.size, 0, none⟩ (.string ⟨#[]⟩)).setCell ⟨w.heap.size, 1, none⟩ (.string ⟨#[]⟩)).setCell ⟨w.heap.size, 2, none⟩ (.slice none 0 0)).setCell ⟨w.heap.size, 3, none⟩ (.string ⟨#[]⟩)) = W9 at *
    have f0 := blkC f 0 _ rfl; have f1 := blkC f 1 _ rfl; have f2 := blkC f 2 _ rfl; have f3 := blkC f 3 _ rfl
    exact bodyPost_ret (v := .tuple #[zeroLoc, .bool false]) (by simp [results, Tryd.results13, go_sem, f0, f1, f2, f3, zeroLoc]) rfl ⟨.inr ⟨rfl, HNo.out⟩, BW⟩
  have hL : ∃ x0 x1 x2 x3 r, L = x0 :: x1 :: x2 :: x3 :: r ∧ r.length + 4 = n := by
    have := HN.out
    rcases L with _ | ⟨x0, _ | ⟨x1, _ | ⟨x2, _ | ⟨x3, r⟩⟩⟩⟩
    · simp at this; omega
    · simp at this; omega
    · simp at this; omega
    · simp at this; omega
    · exact ⟨_, _, _, _, _, rfl, by simpa using this⟩
  obtain ⟨x0, x1, x2, x3, r, rfl, hr⟩ := hL
  have c0 := hcell 0 (.string (mkS x0)) rfl
  have c2 := hcell 2 (.string (mkS x2)) rfl
  have c3 := hcell 3 (.string (mkS x3)) rfl
  have d0 : (mkS x0).size ≤ 1048576 := HLe.out x0 (by simp)
  have d2 : (mkS x2).size ≤ 1048576 := HLe.out x2 (by simp)
  clear hcell
  have HRow3 : Hid (RowAt w2 (some ⟨g, 3, none⟩) (((x3 :: r).map mkS).map strV)) := row_drop (n := 3) HRow.out
  have HR3 : Hid (∀ x ∈ (x3 :: r).map mkS, x.size ≤ 1048576) := fun x hx => by
    obtain ⟨y, hy, rfl⟩ := List.mem_map.1 hx
    exact HLe.out y (List.mem_cons_of_mem _ (List.mem_cons_of_mem _ (List.mem_cons_of_mem _ hy)))
  have HC1 : Hid (∀ S H P Q, locB S H P Q = true → locT S H P Q = bl s → x0 = bl S ++ [58] ∧ x2 = bl H ∧ (x3 :: r) = (if P = [] then [[]] else P.map bl) ∧ qr = bl Q ∧ ∀ x ∈ P, stepB (bl x) = true) := fun S H P Q h e => by
    obtain ⟨h1, h2, h3⟩ := HC0.out S H P Q h e
    simp only [List.cons.injEq] at h1
    exact ⟨h1.1, h1.2.2.1, h1.2.2.2, h2, h3⟩
  clear HC0 HRow HLe HN
  by_cases hx0 : (mkS x0).size < 1
  · have HNo : Hid (∀ S H P Q, locB S H P Q = true → locT S H P Q ≠ bl s) := fun S H P Q h e => by
      have h1 := (HC1.out S H P Q h e).1
      rw [h1, mkS_size] at hx0
      simp at hx0
    clear hz2
    generalize mkS x0 = X0 at *
    go_wp2
    obtain ⟨f, _, bb, _⟩ := loc_put (.string ⟨#[]⟩) (.string ⟨#[]⟩) (.slice none 0 0) (.string ⟨#[]⟩) HZ2.out
    have BW := B2.out.trans ((bb w.heap.size (Nat.le_refl _)).mono (Nat.le_refl _))
    generalize ((((w2.setCell ⟨w.heap.size, 0, none⟩ (.string ⟨#[]⟩)).setCell ⟨w.heap.size, 1, none⟩ (.string ⟨#[]⟩)).setCell ⟨w.heap.size, 2, none⟩ (.slice none 0 0)).setCell ⟨w.heap.size, 3, none⟩ (.string ⟨#[]⟩)) = W9 at *
    have f0 := blkC f 0 _ rfl; have f1 := blkC f 1 _ rfl; have f2 := blkC f 2 _ rfl; have f3 := blkC f 3 _ rfl
    exact bodyPost_ret (v := .tuple #[zeroLoc, .bool false]) (by simp [results, Tryd.results13, go_sem, f0, f1, f2, f3, zeroLoc]) rfl ⟨.inr ⟨rfl, HNo.out⟩, BW⟩
  have HCand : Hid (∀ S H P Q, locB S H P Q = true → locT S H P Q = bl s → S = (mkS x0).extract 0 ((mkS x0).size - 1) ∧ H = mkS x2 ∧ P = (if 4 < n ∨ ¬ mkS x3 = ⟨#[]⟩ then (x3 :: r).map mkS else []) ∧ Q = mkS qr) := fun S H P Q h e => by
    obtain ⟨h1, h2, h3, h4, h5⟩ := HC1.out S H P Q h e
    refine ⟨?_, by rw [h2, mkS_bl], ?_, by rw [h4, mkS_bl]⟩
    · apply bl_inj
      rw [bl_ext, bl_mkS, mkS_size, h1, List.drop_zero, List.length_append, List.length_singleton, Nat.add_sub_cancel, List.take_left']
      rfl
    · by_cases hP : P = []
      · rw [if_pos hP] at h3
        injection h3 with h6 h7
        rw [if_neg, hP]
        rintro (h8 | h8)
        · rw [h7] at hr; simp at hr; omega
        · exact h8 (by rw [h6]; rfl)
      · rw [if_neg hP] at h3
        rw [if_pos, map_blP_inj h3]
        by_cases hr0 : r = []
        · right
          intro h8
          rcases P with _ | ⟨p, P⟩
          · exact hP rfl
          · rw [List.map_cons] at h3
            injection h3 with h9 h10
            have h11 := (stepB_len (h5 p (List.mem_cons_self ..))).1
            rw [← h9, ← bl_mkS x3, h8] at h11
            simp [bl] at h11
        · left
          have : 0 < r.length := List.length_pos_iff.2 hr0
          omega
  have hrl : ((x3 :: r).map mkS).length + 3 = n := by simp; omega
  clear HC1
  generalize mkS x0 = X0 at *
  generalize mkS x2 = X2 at *
  generalize hX3 : mkS x3 = X3 at *
  generalize (x3 :: r).map mkS = P3 at *
  generalize hQQ : mkS qr = QQ at *
  clear hX3 hQQ hr
  have i1 : IntKind.i64.wrap ((X0.size : Int) - 1) = (X0.size : Int) - 1 := IntWalk.i64_in _ (by omega)
  have i2 : (0 : Int) ≤ (X0.size : Int) - 1 := by omega
  have i3 : (X0.size : Int) - 1 ≤ (X0.size : Int) := by omega
  have i4 : ((X0.size : Int) - 1).toNat = X0.size - 1 := by omega
  have i5 : (0 : Int) < (n : Int) := by omega
  have i6 : (2 : Int) < (n : Int) := by omega
  have hs0 : (X0.extract 0 (X0.size - 1)).size ≤ 1048576 := by rw [ByteArray.size_extract]; omega
  have HSX : Hid (Hid (∀ S H P Q, locB S H P Q = true → locT S H P Q = bl s → S = X0.extract 0 (X0.size - 1) ∧ H = X2 ∧ P = (if 4 < n ∨ ¬ X3 = ⟨#[]⟩ then P3 else []) ∧ Q = QQ)) := HCand
  clear HCand
  clear hz2
  go_wp2_with fail
  go_region
  have HCand := HSX.out
  clear HSX
  generalize X0.extract 0 (X0.size - 1) = S0 at *
  obtain ⟨W4, hW4⟩ : ∃ W4, W4 = (w2.alloc (.cells #[.string S0, .string X2, .slice none 0 0, .string QQ] 26 (0, 0))).drew := ⟨_, rfl⟩
  have hL4 : W4.heap[w2.heap.size]? = some (.cells #[.string S0, .string X2, .slice none 0 0, .string QQ] 26 (0, 0)) := by rw [hW4]; exact heap_alloc_new w2 _
  have hR4 : W4.heap[w.heap.size]? = some (.cells #[.string ⟨#[]⟩, .string ⟨#[]⟩, .slice none 0 0, .string ⟨#[]⟩] 26 (0, 0)) := by rw [hW4]; exact (Lib.alloc_old w2 _ _ s2).trans HZ2.out
  have p4 : w2.heap.size < W4.heap.size := by rw [hW4]; show _ < (w2.alloc _).heap.size; simp
  have B24 : Hid (Below w2.heap.size w2 W4) := by rw [hW4]; exact ((Below.refl _ _).alloc (Nat.le_refl _) _).drew
  have B4 : Hid (Below w.heap.size w W4) := by rw [hW4]; exact (B2.out.alloc B2.out.size _).drew
  have c3' : W4.cell? ⟨g, 3, none⟩ = some (.string X3) := (B24.out.cell (p := ⟨g, 3, none⟩) hg).trans c3
  rw [← hW4]
  have y0 := blkC hR4 0 _ rfl; have y1 := blkC hR4 1 _ rfl; have y2 := blkC hR4 2 _ rfl; have y3 := blkC hR4 3 _ rfl
  have t0 := blkF hR4 0; have t1 := blkF hR4 1; have t2 := blkF hR4 2; have t3 := blkF hR4 3
  have x0 := blkC hL4 0 _ rfl; have x1 := blkC hL4 1 _ rfl; have x2 := blkC hL4 2 _ rfl; have x3 := blkC hL4 3 _ rfl
  have u2 := blkF hL4 2
  have hg4 := Nat.lt_of_lt_of_le hg B24.out.size
  have HL4 := Lib.hid hL4; have HR4 := Lib.hid hR4
  have i7 : (3 : Int) < (n : Int) := by omega
  clear hW4 i1 i2 i3 i4 i5 i6 c0 c2 c3 hL4 hR4 HZ2
  by_cases hn4 : 4 < n
  · have hgt : (4 : Int) < (n : Int) := by omega
    obtain ⟨PP, hPP⟩ : ∃ PP, PP = P3 := ⟨_, rfl⟩
    rw [if_pos (.inl hn4), ← hPP] at HCand
    rw [← hPP] at HRow3 HR3 hrl
    have HPZ : Hid (∀ x ∈ PP, x.size ≤ 4294967296) := fun x hx => Nat.le_trans (HR3.out x hx) (by omega)
    have HRowP := HRow3
    clear hPP
    obtain ⟨W5, hW5⟩ : ∃ W5, W5 = W4.setCell ⟨w2.heap.size, 2, none⟩ (.slice (some ⟨g, 3, none⟩) (n - 3) (c - 3)) := ⟨_, rfl⟩
    have hL5 : W5.heap[w2.heap.size]? = some (.cells #[.string S0, .string X2, .slice (some ⟨g, 3, none⟩) (n - 3) (c - 3), .string QQ] 26 (0, 0)) := by rw [hW5]; exact blkS 2 _ HL4.out
    have hR5 : W5.heap[w.heap.size]? = some (.cells #[.string ⟨#[]⟩, .string ⟨#[]⟩, .slice none 0 0, .string ⟨#[]⟩] 26 (0, 0)) := by rw [hW5]; exact blkO 2 _ HR4.out (by omega)
    have p5 : w2.heap.size < W5.heap.size := by rw [hW5]; simpa using p4
    have B5 : Hid (Below w.heap.size w W5) := by rw [hW5]; exact B4.out.setCell (p := ⟨w2.heap.size, 2, none⟩) (Nat.le_of_lt s2) _
    have RP5 : Hid (RowAt W5 (some ⟨g, 3, none⟩) (PP.map strV)) := by
      rw [hW5]
      exact HRowP.out.below (Nat.le_refl _) (B24.out.setCell (p := ⟨w2.heap.size, 2, none⟩) (Nat.le_refl _) _)
    have hnn : PP.length = n - 3 := by omega
    have q5 : w.heap.size < W5.heap.size := by omega
    have HW := Lib.hid hW5
    have CV := Lib.hid (spec_LocationValid S0 X2 (some ⟨g, 3, none⟩) (n - 3) (c - 3) PP QQ W5 RP5.out hnn (by omega) (by omega) hbq HPZ.out)
    have CT : Hid (∀ W, Below W5.heap.size W5 W → Calls Tryd.prog 26 #[.agg #[.string S0, .string X2, .slice (some ⟨g, 3, none⟩) (n - 3) (c - 3), .string QQ]] W fun e w' => e = .returned (.string (mkS (locX S0 X2 PP QQ))) ∧ Below W.heap.size W w') := fun W hW => spec_LocationText S0 X2 (some ⟨g, 3, none⟩) (n - 3) (c - 3) PP QQ W (RP5.out.below (Nat.le_refl _) hW) hnn (by omega) (by omega) hbq HPZ.out
    have HL5 := Lib.hid hL5; have HR5 := Lib.hid hR5
    have HNN := Lib.hid hnn
    clear hL5 hR5 hW5 HL4 HR4 hnn
    rcases hv : locB S0 X2 PP QQ with _ | _
    · have HNo : Hid (∀ S H P Q, locB S H P Q = true → locT S H P Q ≠ bl s) := fun S H P Q h e => by
        obtain ⟨rfl, rfl, rfl, rfl⟩ := HCand.out S H P Q h e
        rw [hv] at h; cases h
      rw [hv] at CV
      clear hv
      go_wp2_with fail
      rw [← HW.out]
      refine CV.out.mono ?_
      rintro e w6 ⟨rfl, b6⟩
      have hR6 := (b6.block _ q5).trans HR5.out
      have B6 := Lib.hid (B5.out.trans (b6.mono B5.out.size))
      have t0 := blkF hR6 0; have t1 := blkF hR6 1; have t2 := blkF hR6 2; have t3 := blkF hR6 3
      have y0 := blkC hR6 0 _ rfl; have y1 := blkC hR6 1 _ rfl; have y2 := blkC hR6 2 _ rfl; have y3 := blkC hR6 3 _ rfl
      clear b6
      go_wp2
      obtain ⟨f, _, bb, _⟩ := loc_put (.string ⟨#[]⟩) (.string ⟨#[]⟩) (.slice none 0 0) (.string ⟨#[]⟩) hR6
      have BW := B6.out.trans ((bb w.heap.size (Nat.le_refl _)).mono (Nat.le_refl _))
      generalize ((((w6.setCell ⟨w.heap.size, 0, none⟩ (.string ⟨#[]⟩)).setCell ⟨w.heap.size, 1, none⟩ (.string ⟨#[]⟩)).setCell ⟨w.heap.size, 2, none⟩ (.slice none 0 0)).setCell ⟨w.heap.size, 3, none⟩ (.string ⟨#[]⟩)) = W9 at *
      have f0 := blkC f 0 _ rfl; have f1 := blkC f 1 _ rfl; have f2 := blkC f 2 _ rfl; have f3 := blkC f 3 _ rfl
      exact bodyPost_ret (v := .tuple #[zeroLoc, .bool false]) (by simp [results, Tryd.results13, go_sem, f0, f1, f2, f3, zeroLoc]) rfl ⟨.inr ⟨rfl, HNo.out⟩, BW⟩
    rw [hv] at CV
    by_cases ht : mkS (locX S0 X2 PP QQ) = s
    · have HT : Hid (locT S0 X2 PP QQ = bl s) := by rw [← ht, bl_mkS, locX_yes hv]; rfl
      have HV := Lib.hid hv
      have ez : ((mkS (locX S0 X2 PP QQ)).toList == s.toList) = true := by rw [tl_yn, decide_eq_true ht]
      have ez2 : ((mkS (locX S0 X2 PP QQ)).toList != s.toList) = false := by rw [bne, ez]; rfl
      clear hv ht
      generalize mkS (locX S0 X2 PP QQ) = X at *
      go_wp2_with fail
      rw [← HW.out]
      refine CV.out.mono ?_
      rintro e w6 ⟨rfl, b6⟩
      have hR6 := (b6.block _ q5).trans HR5.out
      have hL6 := (b6.block _ p5).trans HL5.out
      have q6 := Nat.lt_of_lt_of_le q5 b6.size
      have p6 := Nat.lt_of_lt_of_le p5 b6.size
      clear x0 x1 x2 x3
      have x0 := blkC hL6 0 _ rfl; have x1 := blkC hL6 1 _ rfl; have x2 := blkC hL6 2 _ rfl; have x3 := blkC hL6 3 _ rfl
      have B65 := Lib.hid b6
      clear b6
      go_wp2_with fail
      refine (CT.out _ B65.out).mono ?_
      rintro e w7 ⟨rfl, b7⟩
      have hR7 := (b7.block _ q6).trans hR6
      have hL7 := (b7.block _ p6).trans hL6
      have B75 := Lib.hid (B65.out.trans (b7.mono B65.out.size))
      clear b7 hR6 hL6 x0 x1 x2 x3 t0 t1 t2 t3 y0 y1 y2 y3
      have x0 := blkC hL7 0 _ rfl; have x1 := blkC hL7 1 _ rfl; have x2 := blkC hL7 2 _ rfl; have x3 := blkC hL7 3 _ rfl
      have t0 := blkF hR7 0; have t1 := blkF hR7 1; have t2 := blkF hR7 2; have t3 := blkF hR7 3
      have y0 := blkC hR7 0 _ rfl; have y1 := blkC hR7 1 _ rfl; have y2 := blkC hR7 2 _ rfl; have y3 := blkC hR7 3 _ rfl
      have HR7 := Lib.hid hR7
      clear hR7 hL7
      go_wp2
      have B7 := B5.out.trans (B75.out.mono B5.out.size)
      obtain ⟨f, gg, bb, _⟩ := loc_put (.string S0) (.string X2) (.slice (some ⟨g, 3, none⟩) (n - 3) (c - 3)) (.string QQ) HR7.out
      have BW := B7.trans ((bb w.heap.size (Nat.le_refl _)).mono (Nat.le_refl _))
      have RW := (RP5.out.below (Nat.le_refl _) B75.out).grown gg (fun j x e1 e2 => by injection e1 with e1; injection e2 with e2; rw [← e2]; show g ≠ j; rw [← e1]; exact Nat.ne_of_gt HRg.out)
      generalize ((((w7.setCell ⟨w.heap.size, 0, none⟩ (.string S0)).setCell ⟨w.heap.size, 1, none⟩ (.string X2)).setCell ⟨w.heap.size, 2, none⟩ (.slice (some ⟨g, 3, none⟩) (n - 3) (c - 3))).setCell ⟨w.heap.size, 3, none⟩ (.string QQ)) = W9 at *
      have f0 := blkC f 0 _ rfl; have f1 := blkC f 1 _ rfl; have f2 := blkC f 2 _ rfl; have f3 := blkC f 3 _ rfl
      exact bodyPost_ret (v := .tuple #[.agg #[.string S0, .string X2, .slice (some ⟨g, 3, none⟩) (n - 3) (c - 3), .string QQ], .bool true]) (by simp [results, Tryd.results13, go_sem, f0, f1, f2, f3]) rfl ⟨.inl ⟨_, _, PP, _, _, _, _, rfl, HV.out, HT.out, HNN.out, RW, (fun e => by cases e), fun x e => by injection e with e; rw [← e]; exact Nat.le_of_lt HRg.out⟩, BW⟩
    · have HNo : Hid (∀ S H P Q, locB S H P Q = true → locT S H P Q ≠ bl s) := fun S H P Q h e => by
        obtain ⟨rfl, rfl, rfl, rfl⟩ := HCand.out S H P Q h e
        exact ht (by rw [locX_yes h, e, mkS_bl])
      have ez : ((mkS (locX S0 X2 PP QQ)).toList == s.toList) = false := by rw [tl_yn, decide_eq_false ht]
      have ez2 : ((mkS (locX S0 X2 PP QQ)).toList != s.toList) = true := by rw [bne, ez]; rfl
      clear hv ht
      generalize mkS (locX S0 X2 PP QQ) = X at *
      go_wp2_with fail
      rw [← HW.out]
      refine CV.out.mono ?_
      rintro e w6 ⟨rfl, b6⟩
      have hR6 := (b6.block _ q5).trans HR5.out
      have hL6 := (b6.block _ p5).trans HL5.out
      have q6 := Nat.lt_of_lt_of_le q5 b6.size
      clear x0 x1 x2 x3 t0 t1 t2 t3 y0 y1 y2 y3
      have x0 := blkC hL6 0 _ rfl; have x1 := blkC hL6 1 _ rfl; have x2 := blkC hL6 2 _ rfl; have x3 := blkC hL6 3 _ rfl
      have B65 := Lib.hid b6
      clear b6 hL6
      go_wp2_with fail
      refine (CT.out _ B65.out).mono ?_
      rintro e w7 ⟨rfl, b7⟩
      have hR7 := (b7.block _ q6).trans hR6
      have B7 := Lib.hid (B5.out.trans ((B65.out.trans (b7.mono B65.out.size)).mono B5.out.size))
      clear b7 hR6
      have t0 := blkF hR7 0; have t1 := blkF hR7 1; have t2 := blkF hR7 2; have t3 := blkF hR7 3
      have y0 := blkC hR7 0 _ rfl; have y1 := blkC hR7 1 _ rfl; have y2 := blkC hR7 2 _ rfl; have y3 := blkC hR7 3 _ rfl
      go_wp2
      obtain ⟨f, _, bb, _⟩ := loc_put (.string ⟨#[]⟩) (.string ⟨#[]⟩) (.slice none 0 0) (.string ⟨#[]⟩) hR7
      have BW := B7.out.trans ((bb w.heap.size (Nat.le_refl _)).mono (Nat.le_refl _))
      generalize ((((w7.setCell ⟨w.heap.size, 0, none⟩ (.string ⟨#[]⟩)).setCell ⟨w.heap.size, 1, none⟩ (.string ⟨#[]⟩)).setCell ⟨w.heap.size, 2, none⟩ (.slice none 0 0)).setCell ⟨w.heap.size, 3, none⟩ (.string ⟨#[]⟩)) = W9 at *
      have f0 := blkC f 0 _ rfl; have f1 := blkC f 1 _ rfl; have f2 := blkC f 2 _ rfl; have f3 := blkC f 3 _ rfl
      exact bodyPost_ret (v := .tuple #[zeroLoc, .bool false]) (by simp [results, Tryd.results13, go_sem, f0, f1, f2, f3, zeroLoc]) rfl ⟨.inr ⟨rfl, HNo.out⟩, BW⟩
  by_cases h3 : X3 = ⟨#[]⟩
  · have hgt : ¬ (4 : Int) < (n : Int) := by omega
    obtain ⟨PP, hPP⟩ : ∃ PP : List ByteArray, PP = [] := ⟨_, rfl⟩
    rw [if_neg (by rintro (h | h); exact hn4 h; exact h h3), ← hPP] at HCand
    have HPZ : Hid (∀ x ∈ PP, x.size ≤ 4294967296) := fun x hx => by rw [hPP] at hx; cases hx
    have e1 : (X3.toList == ([] : List UInt8)) = true := by rw [tl_litP, decide_eq_true (by rw [h3]; rfl)]
    have e2 : X3.toList.isEmpty = true := by rw [h3, ByteArray.toList_eq]; rfl
    clear h3
    obtain ⟨W5, hW5⟩ : ∃ W5, W5 = W4 := ⟨_, rfl⟩
    have hL5 : W5.heap[w2.heap.size]? = some (.cells #[.string S0, .string X2, .slice none 0 0, .string QQ] 26 (0, 0)) := by rw [hW5]; exact HL4.out
    have hR5 : W5.heap[w.heap.size]? = some (.cells #[.string ⟨#[]⟩, .string ⟨#[]⟩, .slice none 0 0, .string ⟨#[]⟩] 26 (0, 0)) := by rw [hW5]; exact HR4.out
    have p5 : w2.heap.size < W5.heap.size := by rw [hW5]; exact p4
    have B5 : Hid (Below w.heap.size w W5) := by rw [hW5]; exact B4.out
    have RP5 : Hid (RowAt W5 none (PP.map strV)) := by rw [hPP]; exact RowAt.nil
    have hnn : PP.length = 0 := by rw [hPP]; rfl
    have q5 : w.heap.size < W5.heap.size := by omega
    have HW := Lib.hid hW5
    have CV := Lib.hid (spec_LocationValid S0 X2 (none) (0) (0) PP QQ W5 RP5.out hnn (by omega) (by omega) hbq HPZ.out)
    have CT : Hid (∀ W, Below W5.heap.size W5 W → Calls Tryd.prog 26 #[.agg #[.string S0, .string X2, .slice none 0 0, .string QQ]] W fun e w' => e = .returned (.string (mkS (locX S0 X2 PP QQ))) ∧ Below W.heap.size W w') := fun W hW => spec_LocationText S0 X2 (none) (0) (0) PP QQ W (RP5.out.below (Nat.le_refl _) hW) hnn (by omega) (by omega) hbq HPZ.out
    have HL5 := Lib.hid hL5; have HR5 := Lib.hid hR5
    have HNN := Lib.hid hnn
    clear hL5 hR5 hW5 HL4 HR4 hnn
    rcases hv : locB S0 X2 PP QQ with _ | _
    · have HNo : Hid (∀ S H P Q, locB S H P Q = true → locT S H P Q ≠ bl s) := fun S H P Q h e => by
        obtain ⟨rfl, rfl, rfl, rfl⟩ := HCand.out S H P Q h e
        rw [hv] at h; cases h
      rw [hv] at CV
      clear hv
      go_wp2_with fail
      rw [← HW.out]
      refine CV.out.mono ?_
      rintro e w6 ⟨rfl, b6⟩
      have hR6 := (b6.block _ q5).trans HR5.out
      have B6 := Lib.hid (B5.out.trans (b6.mono B5.out.size))
      have t0 := blkF hR6 0; have t1 := blkF hR6 1; have t2 := blkF hR6 2; have t3 := blkF hR6 3
      have y0 := blkC hR6 0 _ rfl; have y1 := blkC hR6 1 _ rfl; have y2 := blkC hR6 2 _ rfl; have y3 := blkC hR6 3 _ rfl
      clear b6
      go_wp2
      obtain ⟨f, _, bb, _⟩ := loc_put (.string ⟨#[]⟩) (.string ⟨#[]⟩) (.slice none 0 0) (.string ⟨#[]⟩) hR6
      have BW := B6.out.trans ((bb w.heap.size (Nat.le_refl _)).mono (Nat.le_refl _))
      generalize ((((w6.setCell ⟨w.heap.size, 0, none⟩ (.string ⟨#[]⟩)).setCell ⟨w.heap.size, 1, none⟩ (.string ⟨#[]⟩)).setCell ⟨w.heap.size, 2, none⟩ (.slice none 0 0)).setCell ⟨w.heap.size, 3, none⟩ (.string ⟨#[]⟩)) = W9 at *
      have f0 := blkC f 0 _ rfl; have f1 := blkC f 1 _ rfl; have f2 := blkC f 2 _ rfl; have f3 := blkC f 3 _ rfl
      exact bodyPost_ret (v := .tuple #[zeroLoc, .bool false]) (by simp [results, Tryd.results13, go_sem, f0, f1, f2, f3, zeroLoc]) rfl ⟨.inr ⟨rfl, HNo.out⟩, BW⟩
    rw [hv] at CV
    by_cases ht : mkS (locX S0 X2 PP QQ) = s
    · have HT : Hid (locT S0 X2 PP QQ = bl s) := by rw [← ht, bl_mkS, locX_yes hv]; rfl
      have HV := Lib.hid hv
      have ez : ((mkS (locX S0 X2 PP QQ)).toList == s.toList) = true := by rw [tl_yn, decide_eq_true ht]
      have ez2 : ((mkS (locX S0 X2 PP QQ)).toList != s.toList) = false := by rw [bne, ez]; rfl
      clear hv ht
      generalize mkS (locX S0 X2 PP QQ) = X at *
      go_wp2_with fail
      rw [← HW.out]
      refine CV.out.mono ?_
      rintro e w6 ⟨rfl, b6⟩
      have hR6 := (b6.block _ q5).trans HR5.out
      have hL6 := (b6.block _ p5).trans HL5.out
      have q6 := Nat.lt_of_lt_of_le q5 b6.size
      have p6 := Nat.lt_of_lt_of_le p5 b6.size
      clear x0 x1 x2 x3
      have x0 := blkC hL6 0 _ rfl; have x1 := blkC hL6 1 _ rfl; have x2 := blkC hL6 2 _ rfl; have x3 := blkC hL6 3 _ rfl
      have B65 := Lib.hid b6
      clear b6
      go_wp2_with fail
      refine (CT.out _ B65.out).mono ?_
      rintro e w7 ⟨rfl, b7⟩
      have hR7 := (b7.block _ q6).trans hR6
      have hL7 := (b7.block _ p6).trans hL6
      have B75 := Lib.hid (B65.out.trans (b7.mono B65.out.size))
      clear b7 hR6 hL6 x0 x1 x2 x3 t0 t1 t2 t3 y0 y1 y2 y3
      have x0 := blkC hL7 0 _ rfl; have x1 := blkC hL7 1 _ rfl; have x2 := blkC hL7 2 _ rfl; have x3 := blkC hL7 3 _ rfl
      have t0 := blkF hR7 0; have t1 := blkF hR7 1; have t2 := blkF hR7 2; have t3 := blkF hR7 3
      have y0 := blkC hR7 0 _ rfl; have y1 := blkC hR7 1 _ rfl; have y2 := blkC hR7 2 _ rfl; have y3 := blkC hR7 3 _ rfl
      have HR7 := Lib.hid hR7
      clear hR7 hL7
      go_wp2
      have B7 := B5.out.trans (B75.out.mono B5.out.size)
      obtain ⟨f, gg, bb, _⟩ := loc_put (.string S0) (.string X2) (.slice none 0 0) (.string QQ) HR7.out
      have BW := B7.trans ((bb w.heap.size (Nat.le_refl _)).mono (Nat.le_refl _))
      have RW := (RP5.out.below (Nat.le_refl _) B75.out).grown gg (fun j x e1 e2 => by injection e1 with e1; cases e2)
      generalize ((((w7.setCell ⟨w.heap.size, 0, none⟩ (.string S0)).setCell ⟨w.heap.size, 1, none⟩ (.string X2)).setCell ⟨w.heap.size, 2, none⟩ (.slice none 0 0)).setCell ⟨w.heap.size, 3, none⟩ (.string QQ)) = W9 at *
      have f0 := blkC f 0 _ rfl; have f1 := blkC f 1 _ rfl; have f2 := blkC f 2 _ rfl; have f3 := blkC f 3 _ rfl
      exact bodyPost_ret (v := .tuple #[.agg #[.string S0, .string X2, .slice none 0 0, .string QQ], .bool true]) (by simp [results, Tryd.results13, go_sem, f0, f1, f2, f3]) rfl ⟨.inl ⟨_, _, PP, _, _, _, _, rfl, HV.out, HT.out, HNN.out, RW, (fun _ => rfl), fun x e => by cases e⟩, BW⟩
    · have HNo : Hid (∀ S H P Q, locB S H P Q = true → locT S H P Q ≠ bl s) := fun S H P Q h e => by
        obtain ⟨rfl, rfl, rfl, rfl⟩ := HCand.out S H P Q h e
        exact ht (by rw [locX_yes h, e, mkS_bl])
      have ez : ((mkS (locX S0 X2 PP QQ)).toList == s.toList) = false := by rw [tl_yn, decide_eq_false ht]
      have ez2 : ((mkS (locX S0 X2 PP QQ)).toList != s.toList) = true := by rw [bne, ez]; rfl
      clear hv ht
      generalize mkS (locX S0 X2 PP QQ) = X at *
      go_wp2_with fail
      rw [← HW.out]
      refine CV.out.mono ?_
      rintro e w6 ⟨rfl, b6⟩
      have hR6 := (b6.block _ q5).trans HR5.out
      have hL6 := (b6.block _ p5).trans HL5.out
      have q6 := Nat.lt_of_lt_of_le q5 b6.size
      clear x0 x1 x2 x3 t0 t1 t2 t3 y0 y1 y2 y3
      have x0 := blkC hL6 0 _ rfl; have x1 := blkC hL6 1 _ rfl; have x2 := blkC hL6 2 _ rfl; have x3 := blkC hL6 3 _ rfl
      have B65 := Lib.hid b6
      clear b6 hL6
      go_wp2_with fail
      refine (CT.out _ B65.out).mono ?_
      rintro e w7 ⟨rfl, b7⟩
      have hR7 := (b7.block _ q6).trans hR6
      have B7 := Lib.hid (B5.out.trans ((B65.out.trans (b7.mono B65.out.size)).mono B5.out.size))
      clear b7 hR6
      have t0 := blkF hR7 0; have t1 := blkF hR7 1; have t2 := blkF hR7 2; have t3 := blkF hR7 3
      have y0 := blkC hR7 0 _ rfl; have y1 := blkC hR7 1 _ rfl; have y2 := blkC hR7 2 _ rfl; have y3 := blkC hR7 3 _ rfl
      go_wp2
      obtain ⟨f, _, bb, _⟩ := loc_put (.string ⟨#[]⟩) (.string ⟨#[]⟩) (.slice none 0 0) (.string ⟨#[]⟩) hR7
      have BW := B7.out.trans ((bb w.heap.size (Nat.le_refl _)).mono (Nat.le_refl _))
      generalize ((((w7.setCell ⟨w.heap.size, 0, none⟩ (.string ⟨#[]⟩)).setCell ⟨w.heap.size, 1, none⟩ (.string ⟨#[]⟩)).setCell ⟨w.heap.size, 2, none⟩ (.slice none 0 0)).setCell ⟨w.heap.size, 3, none⟩ (.string ⟨#[]⟩)) = W9 at *
      have f0 := blkC f 0 _ rfl; have f1 := blkC f 1 _ rfl; have f2 := blkC f 2 _ rfl; have f3 := blkC f 3 _ rfl
      exact bodyPost_ret (v := .tuple #[zeroLoc, .bool false]) (by simp [results, Tryd.results13, go_sem, f0, f1, f2, f3, zeroLoc]) rfl ⟨.inr ⟨rfl, HNo.out⟩, BW⟩
  · have hgt : ¬ (4 : Int) < (n : Int) := by omega
    have e1 : (X3.toList == ([] : List UInt8)) = false := by rw [tl_litP, decide_eq_false (fun e => h3 (by rw [← mkS_bl X3, e]; rfl))]
    have e2 : X3.toList.isEmpty = false := by rw [← e1]; rcases X3.toList with _ | _ <;> rfl
    obtain ⟨PP, hPP⟩ : ∃ PP, PP = P3 := ⟨_, rfl⟩
    rw [if_pos (.inr h3), ← hPP] at HCand
    rw [← hPP] at HRow3 HR3 hrl
    have HPZ : Hid (∀ x ∈ PP, x.size ≤ 4294967296) := fun x hx => Nat.le_trans (HR3.out x hx) (by omega)
    have HRowP := HRow3
    clear hPP h3
    obtain ⟨W5, hW5⟩ : ∃ W5, W5 = W4.setCell ⟨w2.heap.size, 2, none⟩ (.slice (some ⟨g, 3, none⟩) (n - 3) (c - 3)) := ⟨_, rfl⟩
    have hL5 : W5.heap[w2.heap.size]? = some (.cells #[.string S0, .string X2, .slice (some ⟨g, 3, none⟩) (n - 3) (c - 3), .string QQ] 26 (0, 0)) := by rw [hW5]; exact blkS 2 _ HL4.out
    have hR5 : W5.heap[w.heap.size]? = some (.cells #[.string ⟨#[]⟩, .string ⟨#[]⟩, .slice none 0 0, .string ⟨#[]⟩] 26 (0, 0)) := by rw [hW5]; exact blkO 2 _ HR4.out (by omega)
    have p5 : w2.heap.size < W5.heap.size := by rw [hW5]; simpa using p4
    have B5 : Hid (Below w.heap.size w W5) := by rw [hW5]; exact B4.out.setCell (p := ⟨w2.heap.size, 2, none⟩) (Nat.le_of_lt s2) _
    have RP5 : Hid (RowAt W5 (some ⟨g, 3, none⟩) (PP.map strV)) := by
      rw [hW5]
      exact HRowP.out.below (Nat.le_refl _) (B24.out.setCell (p := ⟨w2.heap.size, 2, none⟩) (Nat.le_refl _) _)
    have hnn : PP.length = n - 3 := by omega
    have q5 : w.heap.size < W5.heap.size := by omega
    have HW := Lib.hid hW5
    have CV := Lib.hid (spec_LocationValid S0 X2 (some ⟨g, 3, none⟩) (n - 3) (c - 3) PP QQ W5 RP5.out hnn (by omega) (by omega) hbq HPZ.out)
    have CT : Hid (∀ W, Below W5.heap.size W5 W → Calls Tryd.prog 26 #[.agg #[.string S0, .string X2, .slice (some ⟨g, 3, none⟩) (n - 3) (c - 3), .string QQ]] W fun e w' => e = .returned (.string (mkS (locX S0 X2 PP QQ))) ∧ Below W.heap.size W w') := fun W hW => spec_LocationText S0 X2 (some ⟨g, 3, none⟩) (n - 3) (c - 3) PP QQ W (RP5.out.below (Nat.le_refl _) hW) hnn (by omega) (by omega) hbq HPZ.out
    have HL5 := Lib.hid hL5; have HR5 := Lib.hid hR5
    have HNN := Lib.hid hnn
    clear hL5 hR5 hW5 HL4 HR4 hnn
    rcases hv : locB S0 X2 PP QQ with _ | _
    · have HNo : Hid (∀ S H P Q, locB S H P Q = true → locT S H P Q ≠ bl s) := fun S H P Q h e => by
        obtain ⟨rfl, rfl, rfl, rfl⟩ := HCand.out S H P Q h e
        rw [hv] at h; cases h
      rw [hv] at CV
      clear hv
      go_wp2_with fail
      rw [← HW.out]
      refine CV.out.mono ?_
      rintro e w6 ⟨rfl, b6⟩
      have hR6 := (b6.block _ q5).trans HR5.out
      have B6 := Lib.hid (B5.out.trans (b6.mono B5.out.size))
      have t0 := blkF hR6 0; have t1 := blkF hR6 1; have t2 := blkF hR6 2; have t3 := blkF hR6 3
      have y0 := blkC hR6 0 _ rfl; have y1 := blkC hR6 1 _ rfl; have y2 := blkC hR6 2 _ rfl; have y3 := blkC hR6 3 _ rfl
      clear b6
      go_wp2
      obtain ⟨f, _, bb, _⟩ := loc_put (.string ⟨#[]⟩) (.string ⟨#[]⟩) (.slice none 0 0) (.string ⟨#[]⟩) hR6
      have BW := B6.out.trans ((bb w.heap.size (Nat.le_refl _)).mono (Nat.le_refl _))
      generalize ((((w6.setCell ⟨w.heap.size, 0, none⟩ (.string ⟨#[]⟩)).setCell ⟨w.heap.size, 1, none⟩ (.string ⟨#[]⟩)).setCell ⟨w.heap.size, 2, none⟩ (.slice none 0 0)).setCell ⟨w.heap.size, 3, none⟩ (.string ⟨#[]⟩)) = W9 at *
      have f0 := blkC f 0 _ rfl; have f1 := blkC f 1 _ rfl; have f2 := blkC f 2 _ rfl; have f3 := blkC f 3 _ rfl
      exact bodyPost_ret (v := .tuple #[zeroLoc, .bool false]) (by simp [results, Tryd.results13, go_sem, f0, f1, f2, f3, zeroLoc]) rfl ⟨.inr ⟨rfl, HNo.out⟩, BW⟩
    rw [hv] at CV
    by_cases ht : mkS (locX S0 X2 PP QQ) = s
    · have HT : Hid (locT S0 X2 PP QQ = bl s) := by rw [← ht, bl_mkS, locX_yes hv]; rfl
      have HV := Lib.hid hv
      have ez : ((mkS (locX S0 X2 PP QQ)).toList == s.toList) = true := by rw [tl_yn, decide_eq_true ht]
      have ez2 : ((mkS (locX S0 X2 PP QQ)).toList != s.toList) = false := by rw [bne, ez]; rfl
      clear hv ht
      generalize mkS (locX S0 X2 PP QQ) = X at *
      go_wp2_with fail
      rw [← HW.out]
      refine CV.out.mono ?_
      rintro e w6 ⟨rfl, b6⟩
      have hR6 := (b6.block _ q5).trans HR5.out
      have hL6 := (b6.block _ p5).trans HL5.out
      have q6 := Nat.lt_of_lt_of_le q5 b6.size
      have p6 := Nat.lt_of_lt_of_le p5 b6.size
      clear x0 x1 x2 x3
      have x0 := blkC hL6 0 _ rfl; have x1 := blkC hL6 1 _ rfl; have x2 := blkC hL6 2 _ rfl; have x3 := blkC hL6 3 _ rfl
      have B65 := Lib.hid b6
      clear b6
      go_wp2_with fail
      refine (CT.out _ B65.out).mono ?_
      rintro e w7 ⟨rfl, b7⟩
      have hR7 := (b7.block _ q6).trans hR6
      have hL7 := (b7.block _ p6).trans hL6
      have B75 := Lib.hid (B65.out.trans (b7.mono B65.out.size))
      clear b7 hR6 hL6 x0 x1 x2 x3 t0 t1 t2 t3 y0 y1 y2 y3
      have x0 := blkC hL7 0 _ rfl; have x1 := blkC hL7 1 _ rfl; have x2 := blkC hL7 2 _ rfl; have x3 := blkC hL7 3 _ rfl
      have t0 := blkF hR7 0; have t1 := blkF hR7 1; have t2 := blkF hR7 2; have t3 := blkF hR7 3
      have y0 := blkC hR7 0 _ rfl; have y1 := blkC hR7 1 _ rfl; have y2 := blkC hR7 2 _ rfl; have y3 := blkC hR7 3 _ rfl
      have HR7 := Lib.hid hR7
      clear hR7 hL7
      go_wp2
      have B7 := B5.out.trans (B75.out.mono B5.out.size)
      obtain ⟨f, gg, bb, _⟩ := loc_put (.string S0) (.string X2) (.slice (some ⟨g, 3, none⟩) (n - 3) (c - 3)) (.string QQ) HR7.out
      have BW := B7.trans ((bb w.heap.size (Nat.le_refl _)).mono (Nat.le_refl _))
      have RW := (RP5.out.below (Nat.le_refl _) B75.out).grown gg (fun j x e1 e2 => by injection e1 with e1; injection e2 with e2; rw [← e2]; show g ≠ j; rw [← e1]; exact Nat.ne_of_gt HRg.out)
      generalize ((((w7.setCell ⟨w.heap.size, 0, none⟩ (.string S0)).setCell ⟨w.heap.size, 1, none⟩ (.string X2)).setCell ⟨w.heap.size, 2, none⟩ (.slice (some ⟨g, 3, none⟩) (n - 3) (c - 3))).setCell ⟨w.heap.size, 3, none⟩ (.string QQ)) = W9 at *
      have f0 := blkC f 0 _ rfl; have f1 := blkC f 1 _ rfl; have f2 := blkC f 2 _ rfl; have f3 := blkC f 3 _ rfl
      exact bodyPost_ret (v := .tuple #[.agg #[.string S0, .string X2, .slice (some ⟨g, 3, none⟩) (n - 3) (c - 3), .string QQ], .bool true]) (by simp [results, Tryd.results13, go_sem, f0, f1, f2, f3]) rfl ⟨.inl ⟨_, _, PP, _, _, _, _, rfl, HV.out, HT.out, HNN.out, RW, (fun e => by cases e), fun x e => by injection e with e; rw [← e]; exact Nat.le_of_lt HRg.out⟩, BW⟩
    · have HNo : Hid (∀ S H P Q, locB S H P Q = true → locT S H P Q ≠ bl s) := fun S H P Q h e => by
        obtain ⟨rfl, rfl, rfl, rfl⟩ := HCand.out S H P Q h e
        exact ht (by rw [locX_yes h, e, mkS_bl])
      have ez : ((mkS (locX S0 X2 PP QQ)).toList == s.toList) = false := by rw [tl_yn, decide_eq_false ht]
      have ez2 : ((mkS (locX S0 X2 PP QQ)).toList != s.toList) = true := by rw [bne, ez]; rfl
      clear hv ht
      generalize mkS (locX S0 X2 PP QQ) = X at *
      go_wp2_with fail
      rw [← HW.out]
      refine CV.out.mono ?_
      rintro e w6 ⟨rfl, b6⟩
      have hR6 := (b6.block _ q5).trans HR5.out
      have hL6 := (b6.block _ p5).trans HL5.out
      have q6 := Nat.lt_of_lt_of_le q5 b6.size
      clear x0 x1 x2 x3 t0 t1 t2 t3 y0 y1 y2 y3
      have x0 := blkC hL6 0 _ rfl; have x1 := blkC hL6 1 _ rfl; have x2 := blkC hL6 2 _ rfl; have x3 := blkC hL6 3 _ rfl
      have B65 := Lib.hid b6
      clear b6 hL6
      go_wp2_with fail
      refine (CT.out _ B65.out).mono ?_
      rintro e w7 ⟨rfl, b7⟩
      have hR7 := (b7.block _ q6).trans hR6
      have B7 := Lib.hid (B5.out.trans ((B65.out.trans (b7.mono B65.out.size)).mono B5.out.size))
      clear b7 hR6
      have t0 := blkF hR7 0; have t1 := blkF hR7 1; have t2 := blkF hR7 2; have t3 := blkF hR7 3
      have y0 := blkC hR7 0 _ rfl; have y1 := blkC hR7 1 _ rfl; have y2 := blkC hR7 2 _ rfl; have y3 := blkC hR7 3 _ rfl
      go_wp2
      obtain ⟨f, _, bb, _⟩ := loc_put (.string ⟨#[]⟩) (.string ⟨#[]⟩) (.slice none 0 0) (.string ⟨#[]⟩) hR7
      have BW := B7.out.trans ((bb w.heap.size (Nat.le_refl _)).mono (Nat.le_refl _))
      generalize ((((w7.setCell ⟨w.heap.size, 0, none⟩ (.string ⟨#[]⟩)).setCell ⟨w.heap.size, 1, none⟩ (.string ⟨#[]⟩)).setCell ⟨w.heap.size, 2, none⟩ (.slice none 0 0)).setCell ⟨w.heap.size, 3, none⟩ (.string ⟨#[]⟩)) = W9 at *
      have f0 := blkC f 0 _ rfl; have f1 := blkC f 1 _ rfl; have f2 := blkC f 2 _ rfl; have f3 := blkC f 3 _ rfl
      exact bodyPost_ret (v := .tuple #[zeroLoc, .bool false]) (by simp [results, Tryd.results13, go_sem, f0, f1, f2, f3, zeroLoc]) rfl ⟨.inr ⟨rfl, HNo.out⟩, BW⟩
end Go.Proofs.YtmiemnhbkcmanaaDoor
