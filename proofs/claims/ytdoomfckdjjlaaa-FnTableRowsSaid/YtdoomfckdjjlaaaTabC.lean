/- Tables copied, compared with themselves, and written over with marks. -/
import Derived.Test.YtdoomfckdjjlaaaOwnRows
import Derived.Deep.RegionHeld3
namespace Go.Proofs.Ytdoomfckdjjlaaa
open Go.RowKit

theorem drop_set (vs Z : List Value) (j : Nat) (x : Value) (h : vs.length = j) (hj : j < Z.length) : (vs ++ Z.drop j).set j x = (vs ++ [x]) ++ Z.drop (j + 1) := by
  subst h
  rw [List.set_append_right _ _ (Nat.le_refl _), Nat.sub_self, List.drop_eq_getElem_cons hj, List.set_cons_zero, List.append_assoc]
  rfl
set_option maxRecDepth 100000 in
set_option maxHeartbeats 1600000 in
theorem toStringSS_any (a : Option Addr) (n c : Nat) (T : List (List ByteArray)) (w : World) (h : TabsAt w 0 a T) (hn : T.length = n) (hn' : n ≤ 1048576) (hs : TabOkN 1048576 T) :
    Calls Try.prog 22 #[.slice a n c] w fun e w' => ∃ v vs, e = .returned v ∧ w'.ownsRow w.heap.size 31 1 v n vs ∧ OwnLs w' w.heap.size vs T ∧ Below w.heap.size w w' := by
  obtain ⟨i0, hi, hz0, hz1, hz2⟩ := info_parts info_row
  have H := Lib.hid h; have HN := Lib.hid hn; have HS := Lib.hid hs.2
  clear h hn hs
  go_enter Try.func22, Try.ntmps22
  go_wp2_with (at_make; refine wpList_make_full _ rfl _ _ _ rfl w.heap.size 31 i0 _ 1 Try.underlying23 hi hz0 hz1 .i64 .i64 n n n rfl rfl rfl rfl (by rw [hz2]; omega) (by simp only [maxLen]; omega) (Nat.le_refl _) ?_; intro w1 hown hgrow)
  obtain ⟨Z, hZ⟩ : ∃ Z, Z = (madeCells (Value.slice none 0 0).cells (n * 1)).toList := ⟨_, rfl⟩
  rw [← hZ] at hown
  have hZl : Z.length = n := own_len hown
  have HZ := Lib.hid hZl
  have hbel : Below w.heap.size w w1 := below_of_grown hgrow (Nat.le_refl _) (by intro k hk; cases hk)
  clear hZ hZl hgrow
  go_loopw [4] (fun t wr => ∃ (j : Nat) (vs : List Value), j ≤ n ∧ t = .int .i64 j ∧ Hid (vs.length = j) ∧ wr.ownsRow w.heap.size 31 1 (.slice (some ⟨w.heap.size, 0, none⟩) n n) n (vs ++ Z.drop j) ∧ Hid (OwnLs wr w.heap.size vs (T.take j)) ∧ Below w.heap.size w wr) (fun t _ => n - (intOf t).toNat)
  case atStart => exact ⟨0, [], Nat.zero_le _, rfl, rfl, hown, True.intro, hbel⟩
  case round =>
    clear hown hbel
    obtain ⟨j, vs, hj, rfl, HVL, hown, HL, hbel⟩ := hrel
    by_cases hjl : j < n
    · have hjT : j < T.length := by rw [HN.out]; exact hjl
      obtain ⟨b, off, v, rfl, hlt, x0, x1⟩ := H.out.below hbel j hjT
      obtain ⟨fa, fc, rfl, hrow, hf1, hf2, _⟩ := x1
      have hrs := HS.out _ (List.getElem_mem hjT)
      have HTK : Hid (T.take (j + 1) = T.take j ++ [T[j]]) := List.take_succ_eq_append_getElem hjT
      have CT := Lib.hid (toStringS_any fa _ fc T[j] wr hrow rfl (by omega))
      generalize T[j] = F at *
      have HO := Lib.hid hown
      have HB := Lib.hid hbel
      have hws := hbel.size
      clear hown hbel hrow
      obtain ⟨fl, hfl⟩ : ∃ fl, F.length = fl := ⟨_, rfl⟩
      have HFL := Lib.hid hfl
      rw [hfl] at x0 CT hf1
      clear hrs hfl
      go_wp2_with fail
      refine (CT.out).mono ?_
      rintro e w2 ⟨v2, rfl, o2, b2⟩
      have HO2 := Lib.hid (ownN_below HO.out b2)
      obtain ⟨y0, hy0⟩ : ∃ y, w2.cell? ⟨w.heap.size, j, none⟩ = some y := by
        rw [HO2.out.cellAt j (by omega)]
        exact ⟨_, List.getElem?_eq_getElem (by rw [List.length_append, List.length_drop, HVL.out, HZ.out]; omega)⟩
      have hf0 := HO2.out.frozenAt j
      have hst := (HO2.out.stored j v2).1
      rw [drop_set vs Z j v2 HVL.out (by rw [HZ.out]; exact hjl)] at hst
      have gs : w2.grownBy (w2.setCell ⟨w.heap.size, j, none⟩ v2) (some w.heap.size) := grown_setCell (grown_refl _ _) _ _
      have k2 := strs_keep (vo := .slice (some ⟨w.heap.size, 0, none⟩) n n) HO2.out gs
      have HL2 : Hid (OwnLs (w2.setCell ⟨w.heap.size, j, none⟩ v2) w.heap.size (vs ++ [v2]) (T.take (j + 1))) := by
        show OwnLs _ _ _ _
        rw [HTK.out]
        refine OwnLs.snoc (w := wr) (fun B v F h => k2 B v F (strs_below b2 B v F h)) (by have := b2.size; simpa using this) (k2 _ _ _ ?_) vs (T.take j) w.heap.size hws HL.out
        rw [HFL.out]; exact o2
      have HVL2 : Hid ((vs ++ [v2]).length = j + 1) := by show _ = _; rw [List.length_append, HVL.out]; rfl
      have HST := Lib.hid hst
      have HB2 := Lib.hid ((HB.out.trans (b2.mono hws)).setCell (p := ⟨w.heap.size, j, none⟩) (Nat.le_refl _) v2)
      obtain ⟨a2, c2, rfl, _⟩ := ownN_formn o2
      clear hst gs k2 o2 b2 HO HB HL
      go_wp2
      go_roundw
      case rel => exact ⟨j + 1, _, by omega, by go_num, HVL2.out, HST.out, HL2, HB2.out⟩
      case measure => simp [intOf]; omega
    · obtain rfl : j = n := by omega
      have HO := Lib.hid hown; clear hown
      have hTk : T.take j = T := List.take_of_length_le (by rw [HN.out]; exact Nat.le_refl _)
      rw [hTk] at HL
      go_wp2
      go_ret
      have h1 := HO.out
      rw [List.drop_eq_nil_of_le (by rw [HZ.out]; exact Nat.le_refl _), List.append_nil] at h1
      exact ⟨_, vs, rfl, h1, HL.out, hbel⟩
set_option maxHeartbeats 800000 in
theorem eqStringSS_any (a1 a2 : Option Addr) (n c1 c2 : Nat) (T : List (List ByteArray)) (w : World) (h1 : TabsAt w 0 a1 T) (h2 : TabsAt w 0 a2 T) (hn : T.length = n) (hn' : n ≤ 1048576) (hs : TabOkN 1048576 T) :
    Calls Try.prog 24 #[.slice a1 n c1, .slice a2 n c2] w fun e w' => e = .returned (.bool true) ∧ Below w.heap.size w w' := by
  have H1 := Lib.hid h1; have H2 := Lib.hid h2; have HN := Lib.hid hn; have HS := Lib.hid hs.2
  clear h1 h2 hn hs
  go_enter Try.func24, Try.ntmps24
  go_wp2
  go_loopw [5] (fun t wr => ∃ k : Nat, k ≤ n ∧ t = .int .i64 k ∧ Below w.heap.size w wr) (fun t _ => n - (intOf t).toNat)
  case atStart => exact ⟨0, Nat.zero_le _, rfl, Below.refl _ _⟩
  case round =>
    obtain ⟨k, hk, rfl, hb⟩ := hrel
    by_cases hlt : k < n
    · have hks : k < T.length := by rw [HN.out]; exact hlt
      obtain ⟨b1, o1, v1, rfl, hl1, x0, x1⟩ := H1.out.below hb k hks
      obtain ⟨b2, o2, v2, rfl, hl2, y0, y1⟩ := H2.out.below hb k hks
      obtain ⟨f1, d1, rfl, r1, q1, q1', _⟩ := x1
      obtain ⟨f2, d2, rfl, r2, q2, q2', _⟩ := y1
      have hrs := HS.out _ (List.getElem_mem hks)
      have k0 : (0 : Int) ≤ (k : Int) := by omega
      have k1 : (k : Int) < (n : Int) := by omega
      have CE : Hid (∀ W, Below wr.heap.size wr W → Calls Try.prog 48 #[.slice f1 T[k].length d1, .slice f2 T[k].length d2] W fun e w' => e = .returned (.bool true) ∧ Below W.heap.size W w') := fun W h => by
        have := eqStringS_any f1 f2 T[k].length T[k].length d1 d2 T[k] T[k] W (r1.below (Nat.le_refl _) h) (r2.below (Nat.le_refl _) h) rfl rfl (by omega)
        rwa [decide_eq_true rfl] at this
      clear r1 r2 hrs
      generalize T[k].length = fl at *
      have HB := Lib.hid hb
      clear hb
      go_wp2
      go_region_held3 (fun w' => w'.cell? ⟨b1, o1 + k, none⟩ = some (.slice f1 fl d1) ∧ w'.cell? ⟨b2, o2 + k, none⟩ = some (.slice f2 fl d2)) (go_keep) (first | (go_at_call 48; refine (CE.out _ (by first | exact (Below.refl _ _).drew | exact Below.refl _ _)).mono ?_; rintro e w1 ⟨rfl, hb1⟩; obtain ⟨hcc, _⟩ := bcell hb1; have z0 := (hcc _ (o1 + k) hl1).trans x0; have z1 := (hcc _ (o2 + k) hl2).trans y0; clear hcc))
      have HB1 := Lib.hid (HB.out.drew.trans (hb1.mono HB.out.size))
      clear hb1
      go_wp2
      go_roundw
      case rel => exact ⟨k + 1, by omega, by go_num, HB1.out⟩
      case measure => simp [intOf]; omega
    · go_wp2
      go_ret
      exact ⟨rfl, hb⟩
/-- How many strings a table has, up to a row. -/
def cAt (k : Nat) (T : List (List ByteArray)) (i : Nat) : Nat := k + ((T.take i).map List.length).sum
theorem cAt_succ {k : Nat} {T : List (List ByteArray)} {i : Nat} (h : i < T.length) : cAt k T (i + 1) = cAt k T i + T[i].length := by
  unfold cAt
  rw [List.take_succ_eq_append_getElem h, List.map_append, List.sum_append]
  simp
  omega
theorem OwnLs.keepU {w w' : World} : ∀ (vs : List Value) (T : List (List ByteArray)) (U : Nat), OwnLs w U vs T → KeepFrom U w w' → OwnLs w' U vs T := by
  intro vs
  induction vs with
  | nil => intro T U h _; cases T with
    | nil => exact True.intro
    | cons F T => exact h
  | cons v vs ih => intro T U h hk; cases T with
    | nil => exact h
    | cons F T =>
      obtain ⟨V, h0, h1, h2, h3⟩ := h
      refine ⟨V, h0, ?_, h2, ih T V h3 (fun b o hb hc => hk b o (by omega) hc)⟩
      obtain ⟨hl, hh⟩ := h1
      refine ⟨hl, ?_⟩
      rcases hh with hh | ⟨g, cap, cur, hv, hg, hq, rest⟩
      · exact .inl hh
      · exact .inr ⟨g, cap, cur, hv, hg, hk g _ hg hq, rest⟩
theorem cAt_zero (k : Nat) (T : List (List ByteArray)) : cAt k T 0 = k := by simp [cAt]
/-- Rows of tokens stay. -/
def KeepTok (w w' : World) : Prop := ∀ (B n : Nat) (v : Value) (l : List Value), w.ownsRow B 53 4 v n l → w'.ownsRow B 53 4 v n l
set_option maxRecDepth 100000 in
set_option maxHeartbeats 1600000 in
theorem markStringSS_any (v : Value) (B n k : Nat) (vs : List Value) (T : List (List ByteArray)) (w : World) (own : w.ownsRow B 31 1 v n vs) (hd : OwnLs w B vs T) (hn : T.length = n) (h0 : 0 < k) (hk : ∀ i, i ≤ n → cAt k T i ≤ 4611686018427387904) (hB : B ≤ w.heap.size) :
    Calls Try.prog 25 #[v, .int .i64 (k : Int)] w fun e w' => e = .returned (.int .i64 ((cAt k T n : Nat) : Int)) ∧ KeepTok w w' ∧ Below B w w' := by
  have hvl : vs.length = n := by rw [OwnLs.len vs T B hd, hn]
  have OS := Lib.hid own; have HD := Lib.hid hd; have HN := Lib.hid hn; have HK := Lib.hid hk; have HVL := Lib.hid hvl
  obtain ⟨a, c, rfl, _, hc, hc', _, _⟩ := ownN_formn own
  clear own hd hn hk hvl
  go_enter Try.func25, Try.ntmps25
  go_wp2
  go_loopw [1, 5] (fun q t wr => ∃ (j U : Nat), j ≤ n ∧ t = .int .i64 (j : Int) ∧ q = .int .i64 ((cAt k T j : Nat) : Int) ∧ B ≤ U ∧ wr.ownsRow B 31 1 (.slice a n c) n vs ∧ Hid (OwnLs wr U (vs.drop j) (T.drop j)) ∧ Hid (KeepTok w wr) ∧ Below B w wr) (fun _ t _ => n - (intOf t).toNat)
  case atStart => exact ⟨0, B, Nat.zero_le _, rfl, by rw [cAt_zero], Nat.le_refl _, OS.out, HD.out, (fun _ _ _ _ h => h), Below.refl _ _⟩
  case round =>
    obtain ⟨j, U, hj, rfl, rfl, hU, ow, HL, HKT, hb⟩ := hrel
    clear OS HD
    have OW := Lib.hid ow
    have BW := Lib.hid hb
    have hws := hb.size
    clear ow hb
    by_cases hjl : j < n
    · have hjT : j < T.length := by rw [HN.out]; exact hjl
      have hjV : j < vs.length := by rw [HVL.out]; exact hjl
      have hl := HL.out
      rw [List.drop_eq_getElem_cons hjV, List.drop_eq_getElem_cons hjT] at hl
      obtain ⟨V, hUV, h1, h2, h3⟩ := hl
      have hk1 := HK.out (j + 1) (by omega)
      have HKS := Lib.hid (cAt_succ (k := k) hjT)
      rw [cAt_succ hjT] at hk1
      have hkpos : 0 < cAt k T j := by unfold cAt; omega
      obtain ⟨b, off, ha, hlt, hc0⟩ := (own_formn_row OW.out) j hjV
      subst ha
      obtain ⟨fa, fc, hfv, _⟩ := ownN_formn h1
      rw [hfv] at hc0 h1 h2
      obtain ⟨kk, hkk⟩ : ∃ kk, cAt k T j = kk := ⟨_, rfl⟩
      rw [hkk] at hk1 hkpos HKS ⊢
      have HM := Lib.hid (markStringS_any (.slice fa T[j].length fc) U (T[j].map strV) T[j].length kk wr h1 (by simp) hkpos (by omega))
      have H1 := Lib.hid h1; have H2 := Lib.hid h2; have H3 := Lib.hid h3
      clear h1 h2 h3 HL hfv
      generalize T[j].length = fl at *
      go_wp2_with fail
      refine HM.out.mono ?_
      rintro e w1 ⟨rfl, _, g1⟩
      have OW1 := Lib.hid (ownN_other OW.out g1 (fun q hq e => ownN_types_ne H1.out OW.out (by decide) q e hq))
      have HL1 : Hid (OwnLs w1 V (vs.drop (j + 1)) (T.drop (j + 1))) := OwnLs.keepU _ _ V H3.out (KeepFrom.of_grown g1 H2.out)
      have HKT1 : Hid (KeepTok w w1) := fun B' n' v' l' h' => ownN_other (HKT.out _ _ _ _ h') g1 (fun q hq e => ownN_types_ne H1.out (HKT.out _ _ _ _ h') (by decide) q e hq)
      have B1 := Lib.hid (BW.out.grown g1 (by omega) (fun q hq => Nat.le_trans hU (ownN_ge H1.out q hq).1))
      clear g1
      go_wp2
      go_roundw
      case rel => exact ⟨j + 1, V, by omega, by go_num, by rw [HKS.out]; rfl, by omega, OW1.out, HL1, HKT1, B1.out⟩
      case measure => simp [intOf]; omega
    · obtain rfl : j = n := by omega
      go_wp2
      go_ret
      exact ⟨rfl, HKT.out, BW.out⟩
end Go.Proofs.Ytdoomfckdjjlaaa
