/- Tokens without attributes: compared with themselves, written over with marks, and the marks found again. -/
import Derived.Test.YtdoomfckdjjlaaaTabC
namespace Go.Proofs.Ytdoomfckdjjlaaa
open Go.RowKit

theorem eqPairS_nil (a b : Option Addr) (c d : Nat) (w : World) : Calls Try.prog 77 #[.slice a 0 c, .slice b 0 d] w fun e w' => e = .returned (.bool true) ∧ w = w' := by
  go_enter Try.func77, Try.ntmps77
  go_wp2
  go_rounds 1
  go_ret
  exact ⟨rfl, rfl⟩
theorem markPairS_nil (a : Option Addr) (c : Nat) (k : Int) (w : World) : Calls Try.prog 51 #[.slice a 0 c, .int .i64 k] w fun e w' => e = .returned (.int .i64 k) ∧ w = w' := by
  go_enter Try.func51, Try.ntmps51
  go_wp2
  go_rounds 1
  go_ret
  exact ⟨rfl, rfl⟩
theorem heldPairS_nil (a : Option Addr) (c : Nat) (k : Int) (w : World) : Calls Try.prog 52 #[.slice a 0 c, .int .i64 k] w fun e w' => e = .returned (.int .i64 k) ∧ w = w' := by
  go_enter Try.func52, Try.ntmps52
  go_wp2
  go_rounds 1
  go_ret
  exact ⟨rfl, rfl⟩
set_option maxHeartbeats 1600000 in
theorem eqToken_any (t : Tok) (pa pb : Option Addr) (c d : Nat) (w : World) (hK : t.K ≤ 4611686018427387904) : Calls Try.prog 47 #[.agg #[.int .i64 (t.K : Int), .string t.N, .string t.V, .slice pa 0 c], .agg #[.int .i64 (t.K : Int), .string t.N, .string t.V, .slice pb 0 d]] w fun e w' => e = .returned (.bool true) ∧ Below w.heap.size w w' := by
  have hal : ∀ o o2, Below w.heap.size w ((w.alloc o).alloc o2) := fun o o2 => ((Below.refl _ _).alloc (Nat.le_refl _) o).alloc (by simp) o2
  have HAL := Lib.hid hal
  clear hal
  obtain ⟨K, N, V⟩ := t
  go_enter Try.func47, Try.ntmps47
  go_wp2_with (go_at_call 77; refine (eqPairS_nil _ _ _ _ _).mono ?_; rintro e w4 ⟨rfl, rfl⟩)
  go_ret
  exact ⟨rfl, HAL.out _ _⟩
set_option maxHeartbeats 1600000 in
theorem eqTokenS_any (a1 a2 : Option Addr) (n c1 c2 : Nat) (T : List Tok) (w : World) (h1 : TokAt w a1 T) (h2 : TokAt w a2 T) (hn : T.length = n) (hn' : n ≤ 1048576) (hs : ∀ t ∈ T, t.K ≤ 4611686018427387904) :
    Calls Try.prog 23 #[.slice a1 n c1, .slice a2 n c2] w fun e w' => e = .returned (.bool true) ∧ Below w.heap.size w w' := by
  have H1 := Lib.hid h1; have H2 := Lib.hid h2; have HN := Lib.hid hn; have HS := Lib.hid hs
  clear h1 h2 hn hs
  go_enter Try.func23, Try.ntmps23
  go_wp2
  go_loopw [5] (fun t wr => ∃ k : Nat, k ≤ n ∧ t = .int .i64 k ∧ Below w.heap.size w wr) (fun t _ => n - (intOf t).toNat)
  case atStart => exact ⟨0, Nat.zero_le _, rfl, Below.refl _ _⟩
  case round =>
    obtain ⟨k, hk, rfl, hb⟩ := hrel
    by_cases hlt : k < n
    · have hks : k < T.length := by rw [HN.out]; exact hlt
      obtain ⟨b1, o1, p1, q1, rfl, hl1, x0, x1, x2, x3⟩ := H1.out.below hb k hks
      obtain ⟨b2, o2, p2, q2, rfl, hl2, y0, y1, y2, y3⟩ := H2.out.below hb k hks
      have hso := HS.out _ (List.getElem_mem hks)
      have k0 : (0 : Int) ≤ (k : Int) := by omega
      have k1 : (k : Int) < (n : Int) := by omega
      have CE := Lib.hid (fun W => eqToken_any T[k] p1 p2 q1 q2 W hso)
      clear hso
      generalize T[k] = t at *
      obtain ⟨tK, tN, tV⟩ := t
      simp only at x0 x1 x2 y0 y1 y2 CE
      have HB := Lib.hid hb
      clear hb
      go_wp2
      go_region_held3 (fun w' => w'.cell? ⟨b1, o1 + k * 4, none⟩ = some (.int .i64 (tK : Int)) ∧ w'.cell? ⟨b1, o1 + k * 4 + 1, none⟩ = some (.string tN) ∧ w'.cell? ⟨b1, o1 + k * 4 + 2, none⟩ = some (.string tV) ∧ w'.cell? ⟨b1, o1 + k * 4 + 3, none⟩ = some (.slice p1 0 q1) ∧ w'.cell? ⟨b2, o2 + k * 4, none⟩ = some (.int .i64 (tK : Int)) ∧ w'.cell? ⟨b2, o2 + k * 4 + 1, none⟩ = some (.string tN) ∧ w'.cell? ⟨b2, o2 + k * 4 + 2, none⟩ = some (.string tV) ∧ w'.cell? ⟨b2, o2 + k * 4 + 3, none⟩ = some (.slice p2 0 q2)) (go_keep) (first | (go_at_call 47; refine (CE.out _).mono ?_; rintro e w1 ⟨rfl, hb1⟩; obtain ⟨hcc, _⟩ := bcell hb1; have z0 := (hcc _ (o1 + k * 4) hl1).trans x0; have z1 := (hcc _ (o1 + k * 4 + 1) hl1).trans x1; have z2 := (hcc _ (o1 + k * 4 + 2) hl1).trans x2; have z3 := (hcc _ (o1 + k * 4 + 3) hl1).trans x3; have z4 := (hcc _ (o2 + k * 4) hl2).trans y0; have z5 := (hcc _ (o2 + k * 4 + 1) hl2).trans y1; have z6 := (hcc _ (o2 + k * 4 + 2) hl2).trans y2; have z7 := (hcc _ (o2 + k * 4 + 3) hl2).trans y3; clear hcc))
      have HB1 := Lib.hid (HB.out.drew.trans (hb1.mono HB.out.size))
      clear hb1
      go_wp2
      go_roundw
      case rel => exact ⟨k + 1, by omega, by go_num, HB1.out⟩
      case measure => simp [intOf]; omega
    · go_wp2
      go_ret
      exact ⟨rfl, hb⟩
def mkT (k n : Nat) : List Tok := (List.range n).map fun i => ⟨k + 3 * i, markT (k + 3 * i + 1), markT (k + 3 * i + 2)⟩
theorem mkT_len (k n : Nat) : (mkT k n).length = n := by simp [mkT]
theorem mkT_get (k n i : Nat) (h : i < (mkT k n).length) : (mkT k n)[i] = ⟨k + 3 * i, markT (k + 3 * i + 1), markT (k + 3 * i + 2)⟩ := by simp [mkT]
theorem tokC_set3 : ∀ (L : List Tok) (j : Nat) (_ : j < L.length) (t : Tok), (((tokC L).set (j * 4) (.int .i64 (t.K : Int))).set (j * 4 + 1) (.string t.N)).set (j * 4 + 2) (.string t.V) = tokC (L.set j t) := by
  intro L
  induction L with
  | nil => intro j h; simp at h
  | cons a L ih =>
    intro j h t
    have e : ∀ (q : Tok) (m : List Tok), tokC (q :: m) = .int .i64 (q.K : Int) :: .string q.N :: .string q.V :: .slice none 0 0 :: tokC m := fun _ _ => rfl
    rcases j with _ | j
    · rfl
    · have := ih j (by simpa using h) t
      rw [e, List.set_cons_succ, e, ← this, show (j + 1) * 4 = j * 4 + 1 + 1 + 1 + 1 by omega]
      rfl
set_option maxRecDepth 100000 in
set_option maxHeartbeats 1600000 in
theorem markTokenS_any (v : Value) (B n k : Nat) (T : List Tok) (w : World) (own : w.ownsRow B 53 4 v n (tokC T)) (hn : T.length = n) (_h0 : 0 < k) (hk : k + 3 * n ≤ 4611686018427387904) (hB : B ≤ w.heap.size) :
    Calls Try.prog 26 #[v, .int .i64 (k : Int)] w fun e w' => e = .returned (.int .i64 ((k + 3 * n : Nat) : Int)) ∧ w'.ownsRow B 53 4 v n (tokC (mkT k n)) ∧ Below B w w' := by
  have OS := Lib.hid own; have HN := Lib.hid hn
  by_cases hn0 : n = 0
  · subst hn0
    have hT : T = [] := List.eq_nil_of_length_eq_zero hn
    subst hT
    obtain ⟨a, c, rfl, _, hc, hc', _⟩ := ownN_formn own
    clear own hn
    go_enter Try.func26, Try.ntmps26
    go_wp2
    go_rounds 1
    go_ret
    exact ⟨rfl, OS.out, Below.refl _ _⟩
  obtain ⟨g, c, rfl, hBg, hgl⟩ : ∃ g c, v = .slice (some ⟨g, 0, none⟩) n c ∧ B ≤ g ∧ g < w.heap.size := by
    rcases own.2 with ⟨_, hh⟩ | ⟨g, cap, cur, hv, hB, hg, _⟩
    · omega
    · exact ⟨g, cap, hv, hB, (Array.getElem?_eq_some_iff.1 hg).1⟩
  obtain ⟨_, c2, hv2, _, hc, hc', _⟩ := ownN_formn own
  obtain rfl : c = c2 := by injection hv2
  clear own hn hv2
  go_enter Try.func26, Try.ntmps26
  go_wp2
  go_loopw [1, 5] (fun q t wr => ∃ (j : Nat) (L : List Tok), j ≤ n ∧ t = .int .i64 (j : Int) ∧ q = .int .i64 ((k + 3 * j : Nat) : Int) ∧ Hid (L.length = n) ∧ Hid (∀ i (h1 : i < L.length) (h2 : i < (mkT k n).length), i < j → L[i] = (mkT k n)[i]) ∧ wr.ownsRow B 53 4 (.slice (some ⟨g, 0, none⟩) n c) n (tokC L) ∧ Below B w wr) (fun _ t _ => n - (intOf t).toNat)
  case atStart => exact ⟨0, T, Nat.zero_le _, rfl, by simp, HN.out, (fun i _ _ h => by omega), OS.out, Below.refl _ _⟩
  case round =>
    obtain ⟨j, L, hj, rfl, rfl, HLn, HPre, ow, hb⟩ := hrel
    clear OS
    have OW := Lib.hid ow
    have BW := Lib.hid hb
    have hws := hb.size
    clear ow hb
    by_cases hjl : j < n
    · have hjL : j < L.length := by rw [HLn.out]; exact hjl
      obtain ⟨kk, hkk⟩ : ∃ kk, k + 3 * j = kk := ⟨_, rfl⟩
      have hkk2 : kk + 3 ≤ 4611686018427387904 := by omega
      rw [hkk]
      have cell : ∀ (W : World) (l : List Value), W.ownsRow B 53 4 (.slice (some ⟨g, 0, none⟩) n c) n l → ∀ i, i < n * 4 → ∃ y, W.cell? ⟨g, i, none⟩ = some y := fun W l h i hi => by
        rw [h.cellAt i hi]
        exact ⟨_, List.getElem?_eq_getElem (by rw [h.1]; exact hi)⟩
      have HCELL := Lib.hid cell
      obtain ⟨y0, hy0⟩ := cell _ _ OW.out (j * 4) (by omega)
      have f0 := OW.out.frozenAt (j * 4)
      have OW1 := Lib.hid (OW.out.stored (j * 4) (.int .i64 (kk : Int))).1
      have B1 := Lib.hid (BW.out.setCell (p := ⟨g, j * 4, none⟩) hBg (.int .i64 (kk : Int)))
      have HM1 := Lib.hid (fun W => markText_any (kk + 1) W (by omega) (by omega))
      have HM2 := Lib.hid (fun W => markText_any (kk + 2) W (by omega) (by omega))
      rw [show ((kk + 1 : Nat) : Int) = (kk : Int) + 1 by omega] at HM1
      rw [show ((kk + 2 : Nat) : Int) = (kk : Int) + 1 + 1 by omega] at HM2
      clear cell
      go_wp2_with fail
      refine (HM1.out _).mono ?_
      rintro e w2 ⟨rfl, b2⟩
      have OW2 := Lib.hid (ownN_below OW1.out b2)
      have B2 := Lib.hid (B1.out.trans (b2.mono (by have := B1.out.size; omega)))
      clear b2 OW1 B1 HM1 hy0 f0
      obtain ⟨y1, hy1⟩ := HCELL.out _ _ OW2.out (j * 4 + 1) (by omega)
      have f1 := OW2.out.frozenAt (j * 4 + 1)
      have OW3 := Lib.hid (OW2.out.stored (j * 4 + 1) (.string (markT (kk + 1)))).1
      have B3 := Lib.hid (B2.out.setCell (p := ⟨g, j * 4 + 1, none⟩) hBg (.string (markT (kk + 1))))
      go_wp2_with fail
      refine (HM2.out _).mono ?_
      rintro e w4 ⟨rfl, b4⟩
      have OW4 := Lib.hid (ownN_below OW3.out b4)
      have B4 := Lib.hid (B3.out.trans (b4.mono (by have := B3.out.size; omega)))
      clear b4 OW3 B3 HM2 hy1 f1
      obtain ⟨y2, hy2⟩ := HCELL.out _ _ OW4.out (j * 4 + 2) (by omega)
      have f2 := OW4.out.frozenAt (j * 4 + 2)
      have o5 := (OW4.out.stored (j * 4 + 2) (.string (markT (kk + 2)))).1
      rw [tokC_set3 L j hjL ⟨kk, markT (kk + 1), markT (kk + 2)⟩] at o5
      have c3 : (w4.setCell ⟨g, j * 4 + 2, none⟩ (.string (markT (kk + 2)))).cell? ⟨g, j * 4 + 3, none⟩ = some (.slice none 0 0) := by
        rw [o5.cellAt (j * 4 + 3) (by omega), tokC_get _ j 3 (by rw [List.length_set]; exact hjL) (by omega)]
        rfl
      have c4 : w4.cell? ⟨g, j * 4 + 3, none⟩ = some (.slice none 0 0) := by
        rw [← c3]
        exact (World.cell?_setCell_other _ _ _ _ (by intro e; injection e with e1 e2; omega)).symm
      have OW5 := Lib.hid o5
      have B5 := Lib.hid (B4.out.setCell (p := ⟨g, j * 4 + 2, none⟩) hBg (.string (markT (kk + 2))))
      have HLn5 : Hid ((L.set j (⟨kk, markT (kk + 1), markT (kk + 2)⟩ : Tok)).length = n) := by show _ = _; rw [List.length_set, HLn.out]
      have HPre5 : Hid (∀ i (h1 : i < (L.set j (⟨kk, markT (kk + 1), markT (kk + 2)⟩ : Tok)).length) (h2 : i < (mkT k n).length), i < j + 1 → (L.set j (⟨kk, markT (kk + 1), markT (kk + 2)⟩ : Tok))[i] = (mkT k n)[i]) := fun i h1 h2 hi => by
        by_cases hij : i = j
        · subst hij
          rw [List.getElem_set_self, mkT_get k n i h2, hkk]
        · rw [List.getElem_set_ne (Ne.symm hij)]
          exact HPre.out i (by rwa [List.length_set] at h1) h2 (by omega)
      clear o5 HCELL
      go_wp2_with (go_at_call 51; refine (markPairS_nil _ _ _ _).mono ?_; rintro e w6 ⟨rfl, rfl⟩)
      go_roundw
      case rel => exact ⟨j + 1, _, by omega, by go_num, by go_num, HLn5.out, HPre5.out, OW5.out, B5.out⟩
      case measure => simp [intOf]; omega
    · obtain rfl : j = n := by omega
      have HE : Hid (L = mkT k j) := by
        apply List.ext_getElem
        · rw [HLn.out, mkT_len]
        · intro i h1 h2
          exact HPre.out i h1 h2 (by rw [HLn.out] at h1; exact h1)
      go_wp2
      go_ret
      exact ⟨rfl, by rw [← HE.out]; exact OW.out, BW.out⟩
set_option maxRecDepth 100000 in
set_option maxHeartbeats 1600000 in
theorem heldTokenS_any (a : Option Addr) (n c k : Nat) (w : World) (h : TokAt w a (mkT k n)) (h0 : 0 < k) (hk : k + 3 * n ≤ 4611686018427387904) :
    Calls Try.prog 27 #[.slice a n c, .int .i64 (k : Int)] w fun e w' => e = .returned (.int .i64 ((k + 3 * n : Nat) : Int)) ∧ Below w.heap.size w w' := by
  have H := Lib.hid h
  clear h
  go_enter Try.func27, Try.ntmps27
  go_wp2
  go_loopw [1, 5] (fun q t wr => ∃ j : Nat, j ≤ n ∧ t = .int .i64 (j : Int) ∧ q = .int .i64 ((k + 3 * j : Nat) : Int) ∧ Below w.heap.size w wr) (fun _ t _ => n - (intOf t).toNat)
  case atStart => exact ⟨0, Nat.zero_le _, rfl, by simp, Below.refl _ _⟩
  case round =>
    obtain ⟨j, hj, rfl, rfl, hb⟩ := hrel
    by_cases hjl : j < n
    · have hjM : j < (mkT k n).length := by rw [mkT_len]; exact hjl
      obtain ⟨b, off, pa, pc, rfl, hlt, x0, x1, x2, x3⟩ := (H.out.below hb) j hjM
      rw [mkT_get k n j hjM] at x0 x1 x2
      obtain ⟨kk, hkk⟩ : ∃ kk, k + 3 * j = kk := ⟨_, rfl⟩
      have hkk2 : kk + 3 ≤ 4611686018427387904 := by omega
      simp only at x0 x1 x2
      rw [hkk] at x0 x1 x2 ⊢
      have HM1 := Lib.hid (fun W => markText_any (kk + 1) W (by omega) (by omega))
      have HM2 := Lib.hid (fun W => markText_any (kk + 2) W (by omega) (by omega))
      rw [show ((kk + 1 : Nat) : Int) = (kk : Int) + 1 by omega] at HM1
      rw [show ((kk + 2 : Nat) : Int) = (kk : Int) + 1 + 1 by omega] at HM2
      have HB := Lib.hid hb
      clear hb
      have k0 : (0 : Int) ≤ (j : Int) := by omega
      have k1 : (j : Int) < (n : Int) := by omega
      go_wp2_with fail
      go_region_held3 (fun w' => w'.cell? ⟨b, off + j * 4 + 1, none⟩ = some (.string (markT (kk + 1)))) (first | exact x1 | exact hc1) (first | (go_at_call 50; refine (HM1.out _).mono ?_; rintro e w1 ⟨rfl, hb1⟩; have hc1 : w1.cell? ⟨b, off + j * 4 + 1, none⟩ = some (.string (markT (kk + 1))) := (hb1.cell (p := ⟨b, off + j * 4 + 1, none⟩) hlt).trans x1))
      have HB1 := Lib.hid ((Below.refl wr.heap.size wr).drew.trans hb1)
      clear hb1
      have hlt1 : b < w1.heap.size := Nat.lt_of_lt_of_le hlt HB1.out.size
      have y2 := (HB1.out.cell (p := ⟨b, off + j * 4 + 2, none⟩) hlt).trans x2
      have y3 := (HB1.out.cell (p := ⟨b, off + j * 4 + 3, none⟩) hlt).trans x3
      go_wp2_with fail
      go_region_held3 (fun w' => w'.cell? ⟨b, off + j * 4 + 2, none⟩ = some (.string (markT (kk + 2)))) (first | exact y2 | exact hc2) (first | (go_at_call 50; refine (HM2.out _).mono ?_; rintro e w2 ⟨rfl, hb2⟩; have hc2 : w2.cell? ⟨b, off + j * 4 + 2, none⟩ = some (.string (markT (kk + 2))) := (hb2.cell (p := ⟨b, off + j * 4 + 2, none⟩) hlt1).trans y2))
      have HB2 := Lib.hid (HB1.out.trans (((Below.refl w1.heap.size w1).drew.trans hb2).mono HB1.out.size))
      clear hb2
      have z3 := (HB2.out.cell (p := ⟨b, off + j * 4 + 3, none⟩) hlt).trans x3
      have HB3 := Lib.hid (HB.out.trans (HB2.out.mono HB.out.size))
      have hn3 : ((kk : Int) + 1 + 1 + 1 < 0) = False := by simp; omega
      go_wp2_with (go_at_call 52; refine (heldPairS_nil _ _ _ _).mono ?_; rintro e w6 ⟨rfl, rfl⟩)
      go_roundw
      case rel => exact ⟨j + 1, by omega, by go_num, by go_num, HB3.out⟩
      case measure => simp [intOf]; omega
    · obtain rfl : j = n := by omega
      go_wp2
      go_ret
      exact ⟨rfl, hb⟩
end Go.Proofs.Ytdoomfckdjjlaaa
