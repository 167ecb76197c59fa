/- Marks written into read sources, and found there again. -/
import Derived.Test.YtpplagecancccaaDoorRdS
import Derived.Deep.RegionHeld3
namespace Go.Proofs.YtpplagecancccaaDoor
open Go.RowKit

set_option maxHeartbeats 800000 in
theorem markSub_any (b o n c k : Nat) (cur : Array Value) (w : World) (hh : w.heap[b]? = some (.cells cur 9 (0, 0))) (hs : o + n ≤ cur.size) (h0 : 0 < k) (hk : k + n ≤ 4611686018427387904) (_hnc : n ≤ c) :
    Calls Tryd.prog 30 #[.slice (some ⟨b, o, none⟩) n c, .int .i64 (k : Int)] w fun e w' => e = .returned (.int .i64 ((k + n : Nat) : Int)) ∧ w.grownBy w' (some b) ∧ ∃ cur' : Array Value, w'.heap[b]? = some (.cells cur' 9 (0, 0)) ∧ ∀ i : Nat, i < n → cur'[o + i]? = some (.string (markT (k + i))) := by
  have HH := Lib.hid hh; clear hh
  go_enter Tryd.func30, Tryd.ntmps30
  go_wp2
  go_loopw [1, 5] (fun q t wr => ∃ (j : Nat) (cu : Array Value), j ≤ n ∧ t = .int .i64 j ∧ q = .int .i64 ((k + j : Nat) : Int) ∧ Hid (wr.heap[b]? = some (.cells cu 9 (0, 0))) ∧ Hid (cu.size = cur.size) ∧ Hid (∀ i : Nat, i < j → cu[o + i]? = some (.string (markT (k + i)))) ∧ w.grownBy wr (some b)) (fun _ t _ => n - (intOf t).toNat)
  case atStart => exact ⟨0, cur, Nat.zero_le _, rfl, by simp, HH.out, rfl, (fun i hi => by omega), grown_refl _ _⟩
  case round =>
    obtain ⟨j, cu, hj, rfl, rfl, HC, HSZ, HA, hg⟩ := hrel
    clear HH
    have HG := Lib.hid hg
    by_cases hjl : j < n
    · have HM := Lib.hid (markText_any (k + j) wr (by omega) (by omega))
      clear hg
      go_wp2_with fail
      refine (HM.out).mono ?_
      rintro e w1 ⟨rfl, hb⟩
      have hblt : b < wr.heap.size := (Array.getElem?_eq_some_iff.1 HC.out).1
      have hc1 : w1.heap[b]? = some (.cells cu 9 (0, 0)) := (hb.block b hblt).trans HC.out
      have hjs : o + j < cu.size := by rw [HSZ.out]; omega
      have hcell : w1.cell? ⟨b, o + j, none⟩ = some cu[o + j] := by rw [cell_of_row w1 b (o + j) _ _ _ hc1, Array.getElem?_eq_getElem hjs]
      have hfr : w1.frozen? ⟨b, o + j, none⟩ = false := by simp [World.frozen?, hc1]
      have HC1 := Lib.hid (heap_setCell_same w1 b (o + j) _ _ (.string (markT (k + j))) hc1)
      have HG1 := Lib.hid (grown_setCell (HG.out.trans (grown_of_below hb (some b))) (o + j) (.string (markT (k + j))))
      have HA1 : Hid (∀ i : Nat, i < j + 1 → (cu.setIfInBounds (o + j) (.string (markT (k + j))))[o + i]? = some (.string (markT (k + i)))) := fun i hi => by
        by_cases h : i = j
        · subst h
          rw [Array.getElem?_setIfInBounds_self, if_pos hjs]
        · rw [Array.getElem?_setIfInBounds_ne (by omega)]
          exact HA.out i (by omega)
      have HSZ1 : Hid ((cu.setIfInBounds (o + j) (.string (markT (k + j)))).size = cur.size) := by show _ = _; rw [Array.size_setIfInBounds, HSZ.out]
      clear hb hc1 HM
      go_wp2
      go_roundw
      case rel => exact ⟨j + 1, _, by omega, by go_num, by go_num, HC1.out, HSZ1.out, HA1.out, HG1.out⟩
      case measure => simp [intOf]; omega
    · obtain rfl : j = n := by omega
      go_wp2
      go_ret
      exact ⟨by go_num, HG.out, cu, HC.out, HA.out⟩
/-- The marks of a source's strings. -/
def mF (k n : Nat) : List ByteArray := (List.range n).map fun (i : Nat) => markT (k + i)
theorem mF_len (k n : Nat) : (mF k n).length = n := by simp [mF]
theorem mF_get (k n i : Nat) (h : i < (mF k n).length) : (mF k n)[i] = markT (k + i) := by simp [mF]
theorem mF_str (k n : Nat) : (mF k n).map strV = markS k n := by simp [mF, markS, strV]
/-- The marks of sources. -/
def mkM : Nat → List Src → List Src
  | _, [] => []
  | k, s :: S => ⟨markT k, mF (k + 1) s.F.length⟩ :: mkM (k + 1 + s.F.length) S
def kAt (k : Nat) (S : List Src) (i : Nat) : Nat := k + ((S.take i).map fun s => 1 + s.F.length).sum
theorem kAt_zero (k : Nat) (S : List Src) : kAt k S 0 = k := by simp [kAt]
theorem kAt_succ {k : Nat} {S : List Src} {i : Nat} (h : i < S.length) : kAt k S (i + 1) = kAt k S i + 1 + S[i].F.length := by
  unfold kAt
  rw [List.take_succ_eq_append_getElem h, List.map_append, List.sum_append]
  simp
  omega
theorem kAt_cons (k : Nat) (s : Src) (S : List Src) (i : Nat) : kAt k (s :: S) (i + 1) = kAt (k + 1 + s.F.length) S i := by
  unfold kAt
  rw [List.take_succ_cons, List.map_cons, List.sum_cons]
  omega
theorem mkM_len : ∀ (S : List Src) (k : Nat), (mkM k S).length = S.length := by
  intro S
  induction S with
  | nil => intro k; rfl
  | cons s S ih => intro k; simp [mkM, ih]
theorem mkM_get : ∀ (S : List Src) (k i : Nat) (h : i < S.length) (h' : i < (mkM k S).length), (mkM k S)[i] = ⟨markT (kAt k S i), mF (kAt k S i + 1) S[i].F.length⟩ := by
  intro S
  induction S with
  | nil => intro k i h; simp at h
  | cons s S ih =>
    intro k i h h'
    rcases i with _ | i
    · simp [mkM, kAt_zero]
    · have := ih (k + 1 + s.F.length) i (by simpa using h) (by rw [mkM_len]; simpa using h)
      rw [kAt_cons]
      simpa [mkM] using this
theorem prC_setK : ∀ (l : List (ByteArray × Value)) (i : Nat) (h : i < l.length) (K : ByteArray), (prC l).set (i * 2) (.string K) = prC (l.set i (K, l[i].2)) := by
  intro l
  induction l with
  | nil => intro i h; simp at h
  | cons p l ih =>
    intro i h K
    have e : ∀ (q : ByteArray × Value) (m : List (ByteArray × Value)), prC (q :: m) = .string q.1 :: q.2 :: prC m := fun _ _ => rfl
    rcases i with _ | i
    · rw [e]; rfl
    · have := ih i (by simpa using h) K
      rw [e, List.set_cons_succ, e, show (i + 1) * 2 = i * 2 + 1 + 1 by omega, List.set_cons_succ, List.set_cons_succ, this]
      rfl
theorem SrcD.setK {w : World} : ∀ (l : List (ByteArray × Value)) (S : List Src) (B i : Nat) (h : i < S.length) (h' : i < l.length) (K : ByteArray), SrcD w B l S → SrcD w B (l.set i (K, l[i].2)) (S.set i ⟨K, S[i].F⟩) := by
  intro l
  induction l with
  | nil => intro S B i _ h'; simp at h'
  | cons p l ih =>
    intro S B i h h' K hd
    cases S with
    | nil => exact hd.elim
    | cons s S =>
      obtain ⟨h1, b, h2, h3⟩ := hd
      rcases i with _ | i
      · exact ⟨rfl, b, h2, h3⟩
      · exact ⟨h1, b, h2, ih S (b + 1) i (by simpa using h) (by simpa using h') K h3⟩
theorem SrcD.keepFrom {w w' : World} : ∀ (l : List (ByteArray × Value)) (S : List Src) (B : Nat), (∀ b, B ≤ b → ∀ cur, w.heap[b]? = some (.cells cur 9 (0, 0)) → w'.heap[b]? = some (.cells cur 9 (0, 0))) → SrcD w B l S → SrcD w' B l S := by
  intro l
  induction l with
  | nil => intro S B hk h; cases S with
    | nil => exact True.intro
    | cons s S => exact h
  | cons p l ih =>
    intro S B hk h
    cases S with
    | nil => exact h
    | cons s S =>
      obtain ⟨h1, b, ⟨o, c, cur, g1, g2, g3, g4⟩, h3⟩ := h
      exact ⟨h1, b, ⟨o, c, cur, g1, g2, hk b g2 cur g3, g4⟩, ih S (b + 1) (fun b' hb' => hk b' (by omega)) h3⟩
/-- One source's strings, and what becomes of all if they are written anew. -/
theorem SrcD.at {w : World} : ∀ (l : List (ByteArray × Value)) (S : List Src) (B i : Nat) (h : i < S.length) (h' : i < l.length), SrcD w B l S → ∃ (b o c : Nat) (cur : Array Value), l[i].2 = .slice (some ⟨b, o, none⟩) S[i].F.length c ∧ B ≤ b ∧ w.heap[b]? = some (.cells cur 9 (0, 0)) ∧ (∀ j (hj : j < S[i].F.length), cur[o + j]? = some (.string S[i].F[j])) ∧ S[i].F.length ≤ c ∧ c ≤ 9223372036854775807 ∧
    ∀ (w' : World) (cur' : Array Value) (F' : List ByteArray), w.grownBy w' (some b) → w'.heap[b]? = some (.cells cur' 9 (0, 0)) → F'.length = S[i].F.length → (∀ j (hj : j < F'.length), cur'[o + j]? = some (.string F'[j])) → SrcD w' B l (S.set i ⟨S[i].K, F'⟩) := by
  intro l
  induction l with
  | nil => intro S B i _ h'; simp at h'
  | cons p l ih =>
    intro S B i h h' hd
    cases S with
    | nil => exact hd.elim
    | cons s S =>
      obtain ⟨h1, b, h2, h3⟩ := hd
      rcases i with _ | i
      · obtain ⟨o, c, cur, g1, g2, g3, g4, g5, g6⟩ := h2
        refine ⟨b, o, c, cur, g1, g2, g3, g4, g5, g6, fun w' cur' F' hg hb' hl hF => ?_⟩
        refine ⟨h1, b, ⟨o, c, cur', ?_, g2, hb', hF, by show F'.length ≤ c; rw [hl]; exact g5, g6⟩, ?_⟩
        · rw [g1, hl]; rfl
        · refine SrcD.keepFrom l S (b + 1) (fun b' hb2 cur2 hc2 => ?_) h3
          exact (hg.block b' (Array.getElem?_eq_some_iff.1 hc2).1 (by intro e; injection e with e; omega)).trans hc2
      · obtain ⟨bi, o, c, cur, g1, g2, g3, g4, g5, g6, g7⟩ := ih S (b + 1) i (by simpa using h) (by simpa using h') h3
        have hBb : B ≤ b := by obtain ⟨_, _, _, _, q, _⟩ := h2; exact q
        refine ⟨bi, o, c, cur, g1, by omega, g3, g4, g5, g6, fun w' cur' F' hg hb' hl hF => ?_⟩
        obtain ⟨o2, c2, cur2, q1, q2, q3, q4⟩ := h2
        refine ⟨h1, b, ⟨o2, c2, cur2, q1, q2, ?_, q4⟩, g7 w' cur' F' hg hb' hl hF⟩
        exact (hg.block b (Array.getElem?_eq_some_iff.1 q3).1 (by intro e; injection e with e; omega)).trans q3
theorem getElem_congr_list {α : Type} {a b : List α} (h : a = b) (i : Nat) (ha : i < a.length) (hb : i < b.length) : a[i] = b[i] := by subst h; rfl
set_option maxRecDepth 100000 in
set_option maxHeartbeats 1600000 in
theorem markSourceS_any (v : Value) (B n k : Nat) (l : List (ByteArray × Value)) (S : List Src) (w : World) (own : w.ownsRow B 40 2 v n (prC l)) (hd : SrcD w B l S) (hn : S.length = n) (h0 : 0 < k) (hk : ∀ i, i ≤ n → kAt k S i ≤ 4611686018427387904) (hB : B ≤ w.heap.size) (hpos : ∀ s ∈ S, 1 ≤ s.F.length) :
    Calls Tryd.prog 15 #[v, .int .i64 (k : Int)] w fun e w' => e = .returned (.int .i64 ((kAt k S n : Nat) : Int)) ∧ ∃ l', w'.ownsRow B 40 2 v n (prC l') ∧ SrcD w' B l' (mkM k S) ∧ Below B w w' := by
  have hll : l.length = n := by rw [SrcD.len l S B hd, hn]
  have HPOS := Lib.hid hpos
  clear hpos
  have OS := Lib.hid own; have HD := Lib.hid hd; have HN := Lib.hid hn; have HK := Lib.hid hk; have HLL := Lib.hid hll
  by_cases hn0 : n = 0
  · subst hn0
    have hS : S = [] := List.eq_nil_of_length_eq_zero hn
    have hl0 : l = [] := List.eq_nil_of_length_eq_zero hll
    subst hS; subst hl0
    obtain ⟨a, c, rfl, _, hc, hc', _⟩ := ownN_formn own
    clear own hd hn hk hll
    go_enter Tryd.func15, Tryd.ntmps15
    go_wp2
    go_rounds 1
    go_ret
    exact ⟨by rw [kAt_zero]; rfl, [], OS.out, True.intro, Below.refl _ _⟩
  obtain ⟨g, c, rfl, hBg, hgl⟩ := own_at0 own (by omega)
  obtain ⟨_, c2, hv2, _, hc, hc', _⟩ := ownN_formn own
  obtain rfl : c = c2 := by injection hv2
  clear own hd hn hk hll hv2
  go_enter Tryd.func15, Tryd.ntmps15
  go_wp2
  go_loopw [1, 5] (fun q t wr => ∃ (j : Nat) (L : List (ByteArray × Value)) (M : List Src), j ≤ n ∧ t = .int .i64 (j : Int) ∧ q = .int .i64 ((kAt k S j : Nat) : Int) ∧ wr.ownsRow B 40 2 (.slice (some ⟨g, 0, none⟩) n c) n (prC L) ∧ Hid (SrcD wr B L M) ∧ Hid (M.length = n) ∧ Hid (L.length = n) ∧ Hid (∀ i (h1 : i < M.length) (h2 : i < (mkM k S).length), i < j → M[i] = (mkM k S)[i]) ∧ Hid (∀ i (h1 : i < M.length) (h2 : i < S.length), j ≤ i → M[i].F.length = S[i].F.length) ∧ Below B w wr) (fun _ t _ => n - (intOf t).toNat)
  case atStart => exact ⟨0, l, S, Nat.zero_le _, rfl, by rw [kAt_zero], OS.out, HD.out, HN.out, HLL.out, (fun i _ _ h => by omega), (fun i _ _ _ => rfl), Below.refl _ _⟩
  case round =>
    obtain ⟨j, L, M, hj, rfl, rfl, ow, HDD, HML, HLn, HPre, HPost, hb⟩ := hrel
    clear OS HD HLL
    have OW := Lib.hid ow
    have BW := Lib.hid hb
    have hws := hb.size
    clear ow hb
    by_cases hjl : j < n
    · have hjM : j < M.length := by rw [HML.out]; exact hjl
      have hjL : j < L.length := by rw [HLn.out]; exact hjl
      have hjS : j < S.length := by rw [HN.out]; exact hjl
      have hk1 := HK.out (j + 1) (by omega)
      rw [kAt_succ hjS] at hk1
      have hflen := HPost.out j hjM hjS (Nat.le_refl _)
      have HKS := Lib.hid (kAt_succ (k := k) hjS)
      have hkpos : 0 < kAt k S j := by unfold kAt; omega
      obtain ⟨kk, hkk⟩ : ∃ kk, kAt k S j = kk := ⟨_, rfl⟩
      rw [hkk] at hk1 hkpos HKS ⊢
      obtain ⟨fl, hfl⟩ : ∃ fl, S[j].F.length = fl := ⟨_, rfl⟩
      rw [hfl] at hk1 hflen HKS
      have HM := Lib.hid (fun W => markText_any kk W hkpos (by omega))
      go_wp2_with fail
      refine (HM.out _).mono ?_
      rintro e w1 ⟨rfl, b1⟩
      have OW1 := Lib.hid (ownN_below OW.out b1)
      have HDD1 := Lib.hid (SrcD.keep (KeepStr.of_below b1) L M B HDD.out)
      have B1 := Lib.hid (BW.out.trans (b1.mono (by omega)))
      clear b1 OW HDD BW HM
      have hfl1 : 1 ≤ fl := by rw [← hfl]; exact HPOS.out _ (List.getElem_mem _)
      obtain ⟨y0, hy0⟩ : ∃ y, w1.cell? ⟨g, j * 2, none⟩ = some y := by
        rw [OW1.out.cellAt (j * 2) (by omega)]
        exact ⟨_, List.getElem?_eq_getElem (by rw [prC_len]; omega)⟩
      have hf0 := OW1.out.frozenAt (j * 2)
      have hs := (OW1.out.stored (j * 2) (.string (markT kk))).1
      rw [prC_setK L j hjL] at hs
      have OW2 := Lib.hid hs
      have gs : w1.grownBy (w1.setCell ⟨g, j * 2, none⟩ (.string (markT kk))) (some g) := grown_setCell (grown_refl _ _) _ _
      have HDK := SrcD.setK L M B j hjM hjL (markT kk) (SrcD.keep (KeepStr.of_src (vo := .slice (some ⟨g, 0, none⟩) n c) OW1.out gs) L M B HDD1.out)
      have B2 := Lib.hid (B1.out.setCell (p := ⟨g, j * 2, none⟩) hBg (.string (markT kk)))
      have hj1 : j < (M.set j ⟨markT kk, M[j].F⟩).length := by rw [List.length_set]; exact hjM
      have hj2 : j < (L.set j (markT kk, L[j].2)).length := by rw [List.length_set]; exact hjL
      obtain ⟨b, o, cc, cur, e1, hbB, hbh, hcells, hfc, hcc, hupd⟩ := SrcD.at _ _ B j hj1 hj2 HDK
      have eF : (M.set j (⟨markT kk, M[j].F⟩ : Src))[j].F.length = fl := by rw [List.getElem_set_self]; exact hflen
      have eK : (M.set j (⟨markT kk, M[j].F⟩ : Src))[j].K = markT kk := by rw [List.getElem_set_self]
      rw [eF] at e1 hfc hupd
      have hocs : o + fl ≤ cur.size := by
        have := hcells (fl - 1) (by rw [eF]; omega)
        have := (Array.getElem?_eq_some_iff.1 this).1
        omega
      have hcv : (w1.setCell ⟨g, j * 2, none⟩ (.string (markT kk))).cell? ⟨g, j * 2 + 1, none⟩ = some (.slice (some ⟨b, o, none⟩) fl cc) := by
        rw [hs.cellAt (j * 2 + 1) (by omega), (prC_get _ j hj2).2, e1]
      have HUPD := Lib.hid hupd
      have HBH := Lib.hid hbh
      have hbg : b ≠ g := fun e => by
        subst e
        rcases hs.2 with ⟨hh, _⟩ | ⟨g', cap, cu', hh, _, hq, _⟩
        · cases hh
        · injection hh with q1
          injection q1 with q1
          injection q1 with q1
          subst q1
          rw [hq] at hbh
          injection hbh with hbh
          injection hbh with _ ht
          exact absurd ht (by decide)
      have hy1 : w1.cell? ⟨g, j * 2 + 1, none⟩ = some (.slice (some ⟨b, o, none⟩) fl cc) := by
        rw [← hcv]
        exact (World.cell?_setCell_other _ _ _ _ (by intro e; injection e with e1 e2; omega)).symm
      have HM2 := Lib.hid (markSub_any b o fl cc (kk + 1) cur _ hbh hocs (by omega) (by omega) hfc)
      clear hs gs HDK hupd hbh hcells e1 OW1 HDD1 B1
      generalize hW2 : w1.setCell ⟨g, j * 2, none⟩ (.string (markT kk)) = w2 at *
      rw [show ((kk + 1 : Nat) : Int) = (kk : Int) + 1 by omega] at HM2
      go_wp2_with fail
      refine HM2.out.mono ?_
      rintro e w3 ⟨rfl, g3, cur', hb3, hc3⟩
      have HD3 := HUPD.out w3 cur' (mF (kk + 1) fl) g3 hb3 (mF_len _ _) (fun i hi => by rw [mF_get]; exact hc3 i (by rwa [mF_len] at hi))
      rw [List.set_set, eK] at HD3
      have HDD3 := Lib.hid HD3
      have OW3 := Lib.hid (ownN_other OW2.out g3 (fun q hq e => by
        have e1 : g = q := by simpa [Value.ownBlock] using hq
        injection e with e
        exact hbg (by omega)))
      have B3 := Lib.hid (B2.out.grown g3 (Nat.le_trans hB B2.out.size) (by intro q hq; injection hq with hq; omega))
      have HML3 : Hid ((M.set j (⟨markT kk, mF (kk + 1) fl⟩ : Src)).length = n) := by show _ = _; rw [List.length_set, HML.out]
      have HLn3 : Hid ((L.set j (markT kk, L[j].2)).length = n) := by show _ = _; rw [List.length_set, HLn.out]
      have HPre3 : Hid (∀ i (h1 : i < (M.set j (⟨markT kk, mF (kk + 1) fl⟩ : Src)).length) (h2 : i < (mkM k S).length), i < j + 1 → (M.set j (⟨markT kk, mF (kk + 1) fl⟩ : Src))[i] = (mkM k S)[i]) := fun i h1 h2 hi => by
        by_cases hij : i = j
        · subst hij
          rw [List.getElem_set_self, mkM_get S k i hjS h2, hkk, hfl]
        · rw [List.getElem_set_ne (Ne.symm hij)]
          exact HPre.out i (by rwa [List.length_set] at h1) h2 (by omega)
      have HPost3 : Hid (∀ i (h1 : i < (M.set j (⟨markT kk, mF (kk + 1) fl⟩ : Src)).length) (h2 : i < S.length), j + 1 ≤ i → (M.set j (⟨markT kk, mF (kk + 1) fl⟩ : Src))[i].F.length = S[i].F.length) := fun i h1 h2 hi => by
        rw [List.getElem_set_ne (by omega)]
        exact HPost.out i (by rwa [List.length_set] at h1) h2 (by omega)
      clear hW2 hy1 hcv hy0 hf0
      clear HD3 HUPD HM2 HPre HPost hb3 hc3 g3 HBH OW2 B2 eF eK
      go_wp2
      go_roundw
      case rel => exact ⟨j + 1, _, _, by omega, by go_num, by rw [HKS.out]; rfl, OW3.out, HDD3.out, HML3.out, HLn3.out, HPre3.out, HPost3.out, B3.out⟩
      case measure => simp [intOf]; omega
    · obtain rfl : j = n := by omega
      have HE : Hid (M = mkM k S) := by
        apply List.ext_getElem
        · rw [HML.out, mkM_len, HN.out]
        · intro i h1 h2
          exact HPre.out i h1 h2 (by rw [HML.out] at h1; exact h1)
      go_wp2
      go_ret
      exact ⟨rfl, L, OW.out, by rw [← HE.out]; exact HDD.out, BW.out⟩
set_option maxRecDepth 100000 in
set_option maxHeartbeats 1600000 in
theorem heldSourceS_any (a : Option Addr) (n c k : Nat) (S : List Src) (w : World) (h : SrcsAt w 0 a (mkM k S)) (hn : S.length = n) (h0 : 0 < k) (hk : ∀ i, i ≤ n → kAt k S i ≤ 4611686018427387904) :
    Calls Tryd.prog 16 #[.slice a n c, .int .i64 (k : Int)] w fun e w' => e = .returned (.int .i64 ((kAt k S n : Nat) : Int)) ∧ Below w.heap.size w w' := by
  have H := Lib.hid h; have HN := Lib.hid hn; have HK := Lib.hid hk
  have hn2 : n ≤ 4611686018427387904 := by
    have h1 := hk n (Nat.le_refl _)
    have h2 : ∀ l : List Src, l.length ≤ (l.map fun s => 1 + s.F.length).sum := by
      intro l
      induction l with
      | nil => exact Nat.le_refl _
      | cons s l ih => rw [List.map_cons, List.sum_cons, List.length_cons]; omega
    have h3 := h2 S
    unfold kAt at h1
    rw [List.take_of_length_le (by omega)] at h1
    omega
  clear h hn hk
  go_enter Tryd.func16, Tryd.ntmps16
  go_wp2
  go_loopw [1, 5] (fun q t wr => ∃ j : Nat, j ≤ n ∧ t = .int .i64 (j : Int) ∧ q = .int .i64 ((kAt k S j : Nat) : Int) ∧ Below w.heap.size w wr) (fun _ t _ => n - (intOf t).toNat)
  case atStart => exact ⟨0, Nat.zero_le _, rfl, by rw [kAt_zero], Below.refl _ _⟩
  case round =>
    obtain ⟨j, hj, rfl, rfl, hb⟩ := hrel
    by_cases hjl : j < n
    · have hjS : j < S.length := by rw [HN.out]; exact hjl
      have hjM : j < (mkM k S).length := by rw [mkM_len]; exact hjS
      obtain ⟨b, off, v, rfl, hlt, x0, x1, x2⟩ := (H.out.below hb) j hjM
      rw [mkM_get S k j hjS hjM] at x0 x2
      have hk1 := HK.out (j + 1) (by omega)
      rw [kAt_succ hjS] at hk1
      have HKS := Lib.hid (kAt_succ (k := k) hjS)
      have hkpos : 0 < kAt k S j := by unfold kAt; omega
      obtain ⟨kk, hkk⟩ : ∃ kk, kAt k S j = kk := ⟨_, rfl⟩
      obtain ⟨fl, hfl⟩ : ∃ fl, S[j].F.length = fl := ⟨_, rfl⟩
      rw [hkk] at hk1 hkpos HKS x0 x2 ⊢
      rw [hfl] at hk1 HKS x2
      obtain ⟨fa, fc, rfl, hrow, hf1, hf2, _⟩ := x2
      rw [mF_len] at x1 hf1
      have hrow' : RowAt wr fa (markS (kk + 1) fl) := by rw [← mF_str]; exact hrow
      have HM := Lib.hid (fun W => markText_any kk W hkpos (by omega))
      have HH2 : Hid (∀ W, Below wr.heap.size wr W → Calls Tryd.prog 31 #[.slice fa fl fc, .int .i64 ((kk : Int) + 1)] W fun e w' => e = .returned (.int .i64 ((kk + 1 + fl : Nat) : Int)) ∧ Below W.heap.size W w') := fun W h => by
        have := heldStringS_any fa fl fc (kk + 1) W (hrow'.below (Nat.le_refl _) h) (by omega) (by omega)
        rwa [show ((kk + 1 : Nat) : Int) = (kk : Int) + 1 by omega] at this
      have HB := Lib.hid hb
      clear hb hrow hrow' hfl
      have x3 : wr.cell? ⟨b, off + j * 2, none⟩ = some (.string (markT kk)) := x0
      have k0 : (0 : Int) ≤ (j : Int) := by omega
      have k1 : (j : Int) < (n : Int) := by omega
      clear x0
      go_wp2_with fail
      go_region_held3 (fun w' => w'.cell? ⟨b, off + j * 2, none⟩ = some (.string (markT kk))) (first | exact x3 | exact hc1) (first | (go_at_call 29; refine (HM.out _).mono ?_; rintro e w1 ⟨rfl, hb1⟩; have hc1 : w1.cell? ⟨b, off + j * 2, none⟩ = some (.string (markT kk)) := (hb1.cell (p := ⟨b, off + j * 2, none⟩) hlt).trans x3))
      have HB1 := Lib.hid ((Below.refl wr.heap.size wr).drew.trans hb1)
      have y1 : w1.cell? ⟨b, off + j * 2 + 1, none⟩ = some (.slice fa fl fc) := (hb1.cell (p := ⟨b, off + j * 2 + 1, none⟩) hlt).trans x1
      clear hb1
      go_wp2_with fail
      refine (HH2.out _ HB1.out).mono ?_
      rintro e w2 ⟨rfl, b2⟩
      have HB2 := Lib.hid (HB.out.trans ((HB1.out.trans (b2.mono HB1.out.size)).mono HB.out.size))
      clear b2
      go_wp2
      go_roundw
      case rel => exact ⟨j + 1, by omega, by go_num, by rw [HKS.out]; rfl, HB2.out⟩
      case measure => simp [intOf]; omega
    · obtain rfl : j = n := by omega
      go_wp2
      go_ret
      exact ⟨rfl, hb⟩
end Go.Proofs.YtpplagecancccaaDoor
