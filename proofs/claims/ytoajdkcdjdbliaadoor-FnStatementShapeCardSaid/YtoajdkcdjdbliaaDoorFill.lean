/- FillStatement, of the program and of the reference: both return the statement with the quoted texts in it. -/
import Derived.Test.YtoajdkcdjdbliaaDoorFillP
import Derived.Test.YtoajdkcdjdbliaaDoorQText
import Derived.Test.YtoajdkcdjdbliaaDoorShp
import Derived.Deep.RegionHeld3
namespace Go.Proofs.YtoajdkcdjdbliaaDoor
open Go.RowKit

def TupOk (w : World) (r : ByteArray × Bool) (e : Ending) (w' : World) : Prop := e = .returned (.tuple #[.string r.1, .bool r.2]) ∧ Below w.heap.size w w'
theorem MaxOk.drew {w : World} (h : MaxOk w) : MaxOk w.drew := h.below ((Below.refl _ _).drew)
theorem hasB_any (l : List UInt8) : hasB l 39 = l.any fun x => decide (x = 39) := by
  unfold hasB
  induction l with
  | nil => rfl
  | cons x l ih =>
    rw [List.contains_cons, ih, List.any_cons]
    congr 1
    by_cases h : x = 39
    · subst h; rfl
    · simp [h, Ne.symm h]
theorem contains_two (s : ByteArray) (w : World) (hm : MaxOk w) (hs : s.size ≤ 1048576) :
    Calls Tryd.prog 31 #[.string s, .string ⟨#[63, 63]⟩] w fun e w' => e = .returned (.bool (has2 (bl s))) ∧ w = w' := by
  obtain ⟨m, hm⟩ := hm
  refine (Tryd.strings_Contains s ⟨#[63, 63]⟩ m w (by omega) hm).mono ?_
  rintro e w' ⟨rfl, rfl⟩
  refine ⟨?_, rfl⟩
  rw [has2_index]
  have hge := Lib.index_ge (bl s) [63, 63]
  have e1 : Lib.contains s.data.toList (⟨#[63, 63]⟩ : ByteArray).data.toList = (Lib.index (bl s) [63, 63] != -1) := by
    show decide (0 ≤ Lib.index (bl s) [63, 63]) = _
    by_cases h : Lib.index (bl s) [63, 63] = -1
    · rw [h]; rfl
    · have h1 : (Lib.index (bl s) [63, 63] != -1) = true := by rw [bne_iff_ne]; exact h
      rw [h1, decide_eq_true_iff]; omega
  rw [e1]
theorem split_any (s : ByteArray) (c : UInt8) (w : World) (hm : MaxOk w) (hs : s.size ≤ 1048576) :
    Calls Tryd.prog 32 #[.string s, .string ⟨#[c]⟩] w fun e w' => ∃ v, e = .returned v ∧ w'.ownsRow w.heap.size 9 1 v (cutAt c (bl s)).length (((cutAt c (bl s)).map mkS).map strV) ∧ Below w.heap.size w w' := by
  obtain ⟨m, hm⟩ := hm
  refine (Tryd.strings_Split s ⟨#[c]⟩ m w (by omega) hm (Nat.le_refl 1)).mono ?_
  rintro e w' ⟨rfl, rfl⟩
  have hc := countB_le1 s c
  have hl := Lib.splitB_all ⟨#[c]⟩ (Nat.le_refl 1) 0 _ s rfl
  have hd := Lib.splitB_data ⟨#[c]⟩ 0 (Lib.countB s ⟨#[c]⟩) s
  have e1 : Lib.splitK [c] 0 (Lib.countB s ⟨#[c]⟩) (bl s) = cutAt c (bl s) := split_one c (bl s)
  have e2 : (Lib.splitB ⟨#[c]⟩ 0 (Lib.countB s ⟨#[c]⟩) s) = (cutAt c (bl s)).map mkS := by
    rw [← e1]
    have : (Lib.splitK [c] 0 (Lib.countB s ⟨#[c]⟩) (bl s)) = (Lib.splitB ⟨#[c]⟩ 0 (Lib.countB s ⟨#[c]⟩) s).map bl := hd.symm
    rw [this, List.map_map]
    conv => lhs; rw [← List.map_id (Lib.splitB _ _ _ _)]
    exact List.map_congr_left fun t _ => (mkS_bl t).symm
  have e3 : (cutAt c (bl s)).length = Lib.countB s ⟨#[c]⟩ + 1 := by rw [← hl, e2, List.length_map]
  refine ⟨_, rfl, ?_, (Below.refl _ _).alloc (Nat.le_refl _) _⟩
  rw [e2, e3]
  exact own_new w _ _ _ (by rw [← e3]; simp) (by omega)
theorem fill_bad {l : List UInt8} {T : List (List UInt8)} (h : textB l = false ∨ (l.any fun x => decide (x = 39)) = true ∨ has2 l = true ∨ ¬ l.count 63 = T.length ∨ 6 < T.length ∨ T.all textB = false ∨ textB (fillL l T) = false) : fillR l T = (⟨#[]⟩, false) := by
  refine fillR_no (fillOk_no ?_)
  rintro ⟨h1, h2, h3, h4, h5, h6, h7⟩
  rcases h with h | h | h | h | h | h | h
  · rw [h1] at h; cases h
  · rw [h2] at h; cases h
  · rw [h3] at h; cases h
  · exact h h4
  · omega
  · rw [h6] at h; cases h
  · rw [h7] at h; cases h
theorem all_bad {T : List (List UInt8)} {k : Nat} (h : k < T.length) (hb : textB T[k] = false) : T.all textB = false := by
  rcases ht : T.all textB with _ | _
  · rfl
  · rw [List.all_eq_true] at ht
    have := ht T[k] (List.getElem_mem _)
    rw [this] at hb
    cases hb
theorem all_snoc (T : List (List UInt8)) (k : Nat) (h : k < T.length) : (T.take (k + 1)).all textB = ((T.take k).all textB && textB T[k]) := by
  rw [List.take_succ_eq_append_getElem h, List.all_append]
  simp

set_option maxRecDepth 100000 in
set_option maxHeartbeats 800000 in
theorem impl_FillStatement (s : ByteArray) (a : Option Addr) (n c : Nat) (T : List ByteArray) (w : World) (h : RowAt w a (T.map strV)) (e : T.length = n) (hn : n ≤ 1048576) (hs : s.size ≤ 1048576) (hT : ∀ t ∈ T, t.size ≤ 1048576) (hm : MaxOk w) :
    Calls Tryd.prog 18 #[.string s, .slice a n c] w (TupOk w (fillR (bl s) (T.map bl))) := by
  have CT : Hid (∀ W, Calls Tryd.prog 11 #[.string s] W fun e w' => e = .returned (.bool (textB (bl s))) ∧ W = w') := fun W => impl_TextValid s W (by omega)
  have CH : Hid (∀ W, Calls Tryd.prog 30 #[.string s, .int .u8 39] W fun e w' => e = .returned (.bool ((bl s).any fun x => decide (x = 39))) ∧ W = w') := fun W => by rw [← hasB_any]; exact impl_hasByte s 39 W (by omega)
  have CC : Hid (∀ W, MaxOk W → Calls Tryd.prog 31 #[.string s, .string ⟨#[63, 63]⟩] W fun e w' => e = .returned (.bool (has2 (bl s))) ∧ W = w') := fun W h => contains_two s W h hs
  have CS : Hid (∀ W, MaxOk W → Calls Tryd.prog 32 #[.string s, .string ⟨#[63]⟩] W fun e w' => ∃ v, e = .returned v ∧ w'.ownsRow W.heap.size 9 1 v (cutAt 63 (bl s)).length (((cutAt 63 (bl s)).map mkS).map strV) ∧ Below W.heap.size W w') := fun W h => split_any s 63 W h hs
  have HB := Lib.hid (@fill_bad (bl s) (T.map bl))
  have HY := Lib.hid (@fillR_yes (bl s) (T.map bl))
  have HO := Lib.hid (@fillOk_iff (bl s) (T.map bl))
  have hcl := cutAt_len 63 (bl s)
  have hfc := Lib.hid (fill_cut (bl s) (T.map bl))
  have hft := Lib.hid (@textB_fill (bl s) (T.map bl))
  have hbs : textB (bl s) = true → (bl s).length ≤ 600 := fun h => by unfold textB at h; rw [Bool.and_eq_true, decide_eq_true_iff] at h; exact h.1
  have hcle := cutAt_le 63 (bl s)
  have HM := Lib.hid hm
  have HT := Lib.hid hT
  have H := Lib.hid h
  have E := Lib.hid e
  clear hm hT h e
  have hcs : (bl s).count 63 ≤ s.size := by rw [← bl_len]; exact List.count_le_length
  generalize hg1 : textB (bl s) = t1 at *
  generalize hg2 : ((bl s).any fun x => decide (x = 39)) = t2 at *
  generalize hg3 : has2 (bl s) = t3 at *
  generalize cutAt 63 (bl s) = P at *
  generalize (bl s).count 63 = m at *
  generalize fillL (bl s) (T.map bl) = F at *
  generalize fillR (bl s) (T.map bl) = R at *
  generalize fillOk (bl s) (T.map bl) = ok at *
  clear hg1 hg2 hg3
  have hml : (T.map bl).length = n := by rw [List.length_map]; exact E.out
  rw [hml] at HB HO hfc hft
  go_enter Tryd.func18, Tryd.ntmps18
  cases t1
  · have HR : Hid (R = (⟨#[]⟩, false)) := HB.out (.inl rfl)
    go_wp2_with fail
    refine (CT.out _).mono ?_
    rintro e w1 ⟨rfl, rfl⟩
    go_wp2
    go_ret2
    exact ⟨by rw [HR.out]; rfl, Below.refl _ _⟩
  have hP6 : ∀ p ∈ P, p.length ≤ 600 := fun p hp => Nat.le_trans (hcle p hp) (hbs rfl)
  have HP6 := Lib.hid hP6
  clear hP6 hbs hcle
  cases t2
  case true =>
    have HR : Hid (R = (⟨#[]⟩, false)) := HB.out (.inr (.inl rfl))
    go_wp2_with fail
    refine (CT.out _).mono ?_
    rintro e w1 ⟨rfl, rfl⟩
    go_wp2_with fail
    refine (CH.out _).mono ?_
    rintro e w1 ⟨rfl, rfl⟩
    go_wp2
    go_ret2
    exact ⟨by rw [HR.out]; rfl, Below.refl _ _⟩
  cases t3
  case true =>
    have HR : Hid (R = (⟨#[]⟩, false)) := HB.out (.inr (.inr (.inl rfl)))
    go_wp2_with fail
    refine (CT.out _).mono ?_
    rintro e w1 ⟨rfl, rfl⟩
    go_wp2_with fail
    refine (CH.out _).mono ?_
    rintro e w1 ⟨rfl, rfl⟩
    go_wp2_with fail
    refine (CC.out _ HM.out).mono ?_
    rintro e w1 ⟨rfl, rfl⟩
    go_wp2
    go_ret2
    exact ⟨by rw [HR.out]; rfl, Below.refl _ _⟩
  go_wp2_with fail
  refine (CT.out _).mono ?_
  rintro e w1 ⟨rfl, rfl⟩
  go_wp2_with fail
  refine (CH.out _).mono ?_
  rintro e w1 ⟨rfl, rfl⟩
  go_wp2_with fail
  refine (CC.out _ HM.out).mono ?_
  rintro e w1 ⟨rfl, rfl⟩
  go_wp2_with fail
  refine (CS.out _ HM.out).mono ?_
  rintro e w1 ⟨v1, rfl, o1, b1⟩
  clear CT CH CC CS
  have hPl : 0 < P.length := by omega
  obtain ⟨g, cp, rfl, hgB, hgl, hgc, hgc2, hcell⟩ := own_at o1 hPl
  have HC := Lib.hid hcell
  have B1 := Lib.hid b1
  have HM1 := Lib.hid (HM.out.below b1)
  clear o1 b1 hcell
  by_cases h6 : 6 < m
  · have HR : Hid (R = (⟨#[]⟩, false)) := by
      by_cases hmn : m = n
      · exact HB.out (.inr (.inr (.inr (.inr (.inl (by omega))))))
      · exact HB.out (.inr (.inr (.inr (.inl hmn))))
    have hd : decide ((6 : Int) < (m : Int)) = true := by simp; omega
    go_wp2
    go_ret2
    exact ⟨by rw [HR.out]; rfl, B1.out⟩
  have hd : decide ((6 : Int) < (m : Int)) = false := by simp; omega
  by_cases hmn : m = n
  case neg =>
    have HR : Hid (R = (⟨#[]⟩, false)) := HB.out (.inr (.inr (.inr (.inl hmn))))
    have hd2 : ((n : Int) != (m : Int)) = true := by rw [bne_iff_ne]; omega
    go_wp2
    go_ret2
    exact ⟨by rw [HR.out]; rfl, B1.out⟩
  subst hmn
  have hFC : F = fillP P (T.map bl) := hfc.out rfl
  have c0 : w1.cell? ⟨g, 0, none⟩ = some (.string (mkS P[0])) := HC.out 0 _ (by simp [hPl, strV])
  have HF0 : Hid (mkS P[0] = mkS (fillP (P.take 1) ((T.map bl).take 0))) := by
    show _ = _
    rw [fillP_one]
    rcases P with _ | ⟨p, P⟩
    · simp at hPl
    · rfl
  have hp0 : P[0].length ≤ 600 := HP6.out _ (List.getElem_mem _)
  have hp0s : (mkS P[0]).size ≤ 600 := by rw [mkS_size]; exact hp0
  generalize mkS P[0] = p0 at *
  clear hp0
  go_wp2
  go_loopw [7, 40] (fun o t wr => ∃ (k : Nat) (x : ByteArray), k ≤ m ∧ t = .int .i64 (k : Int) ∧ o = .string x ∧ x.size ≤ 600 + 2000 * k ∧ Hid (x = mkS (fillP (P.take (k + 1)) ((T.map bl).take k))) ∧ Hid (((T.map bl).take k).all textB = true) ∧ Below w.heap.size w wr ∧ Below w1.heap.size w1 wr) (fun _ t _ => m - (intOf t).toNat)
  case atStart => exact ⟨0, p0, Nat.zero_le _, rfl, rfl, by omega, HF0, by show _ = _; simp, B1.out, Below.refl _ _⟩
  case round =>
    clear HF0 hp0s c0
    obtain ⟨k, x, hk, rfl, rfl, hxs, HX, HK, hbel, hbel1⟩ := hrel
    have hwr := hbel.size
    have hwr1 := hbel1.size
    have hw1l := B1.out.size
    by_cases hkl : k < m
    · have k1 : k < T.length := by rw [E.out]; exact hkl
      obtain ⟨b, off, rfl, hlt, hc⟩ := row_str (H.out.below (Nat.le_refl _) hbel) k k1
      rw [getD_at k1] at hc
      have hts : T[k].size ≤ 1048576 := HT.out _ (List.getElem_mem _)
      have CT : Hid (∀ W', Calls Tryd.prog 11 #[.string T[k]] W' fun e w' => e = .returned (.bool (textB (bl T[k]))) ∧ W' = w') := fun W' => impl_TextValid T[k] W' (by omega)
      have CQ : Hid (∀ W', MaxOk W' → Calls Tryd.prog 9 #[.string T[k]] W' fun e w' => e = .returned (.string (mkS (qtR (bl T[k])))) ∧ Below W'.heap.size W' w') := fun W' h => impl_QuoteText T[k] W' (by omega) h
      have hgk : (T.map bl)[k]'(by rw [hml]; exact hkl) = bl T[k] := by simp
      have HAN := all_snoc (T.map bl) k (by rw [hml]; exact hkl)
      rw [HK.out, Bool.true_and, hgk] at HAN
      have HBD : Hid (textB (bl T[k]) = false → R = (⟨#[]⟩, false)) := fun h => HB.out (.inr (.inr (.inr (.inr (.inr (.inl (all_bad (k := k) (by rw [hml]; exact hkl) (by rw [hgk]; exact h))))))))
      have hkp : k + 1 < P.length := by omega
      have HFT := fillP_take (P := P) (T := T.map bl) (k := k) (by rw [hml]; exact hkl) hkp
      rw [hgk] at HFT
      have c1 : w1.cell? ⟨g, k + 1, none⟩ = some (.string (mkS P[k + 1])) := HC.out (k + 1) _ (by simp [hkp, strV])
      have c2 : ∀ W, Below w1.heap.size w1 W → W.cell? ⟨g, k + 1, none⟩ = some (.string (mkS P[k + 1])) := fun W h => (h.cell (p := ⟨g, k + 1, none⟩) hgl).trans c1
      have hpk : (mkS P[k + 1]).size ≤ 600 := by rw [mkS_size]; exact HP6.out _ (List.getElem_mem _)
      have hql := qtR_len (bl T[k])
      have hqs : textB (bl T[k]) = true → (mkS (qtR (bl T[k]))).size ≤ 1202 := fun h => by
        have := textB_size h
        rw [mkS_size]
        rw [bl_len] at hql
        omega
      have HX2 : Hid (x ++ (mkS (qtR (bl T[k])) ++ mkS P[k + 1]) = mkS (fillP (P.take (k + 2)) ((T.map bl).take (k + 1)))) := by
        show _ = _
        rw [HFT, HX.out]
        apply bl_inj
        rw [bl_app, bl_app, bl_mkS, bl_mkS, bl_mkS, bl_mkS, List.append_assoc]
      have HAN' := Lib.hid HAN
      have HC2 := Lib.hid c2
      clear HFT HAN hql hgk HX HK c1 c2
      generalize textB (bl T[k]) = tv at *
      generalize mkS (qtR (bl T[k])) = q at *
      generalize mkS P[k + 1] = p at *
      generalize T[k] = t at *
      have HBL := Lib.hid hbel
      have HBL1 := Lib.hid hbel1
      clear hbel hbel1
      cases tv
      · have HR := Lib.hid (HBD.out rfl)
        go_wp2_with fail
        refine (CT.out _).mono ?_
        rintro e w2 ⟨rfl, rfl⟩
        go_wp2
        go_ret2
        exact ⟨by rw [HR.out]; rfl, HBL.out⟩
      · have hqs' := hqs rfl
        have HA2 : Hid (((T.map bl).take (k + 1)).all textB = true) := HAN'.out
        have hsz : (x ++ (q ++ p)).size ≤ 600 + 2000 * (k + 1) := by rw [ByteArray.size_append, ByteArray.size_append]; omega
        have hsz2 : (q ++ p).size ≤ 1802 := by rw [ByteArray.size_append]; omega
        have HSZ := Lib.hid hsz
        have HMr := Lib.hid (HM.out.below HBL.out)
        clear hqs
        go_wp2_with fail
        refine (CT.out _).mono ?_
        rintro e w2 ⟨rfl, rfl⟩
        have hw2 : IntKind.i64.wrap ((k : Int) + 1) = (k : Int) + 1 := IntWalk.i64_in _ (by omega)
        have hi0 : (0 : Int) ≤ (k : Int) + 1 := by omega
        have hi1 : (k : Int) + 1 < (m : Int) + 1 := by omega
        have z1 := HC2.out _ HBL1.out
        have y1 : q.size + p.size ≤ 9223372036854775807 := by omega
        have y2 : x.size + (q.size + p.size) ≤ 9223372036854775807 := by omega
        have y3 : ¬ 9223372036854775807 < q.size + p.size := by omega
        have y4 : ¬ 9223372036854775807 < x.size + (q.size + p.size) := by omega
        clear hfc hft HO HY HBD HB hcl hgB hgc hwr hwr1 hw1l hPl hml hFC hd hcs h6 hkp k1 CT HAN' hc hlt
        go_wp2
        go_region_held3 (fun w' => w'.cell? ⟨g, k + 1, none⟩ = some (.string p)) (go_keep) (first | (go_at_call 9; refine (CQ.out _ (by first | exact HMr.out | exact HMr.out.drew)).mono ?_; rintro e w3 ⟨rfl, hb3⟩; have z0 := HC2.out _ (by first | exact HBL1.out.trans (hb3.mono HBL1.out.size) | exact HBL1.out.drew.trans (hb3.mono HBL1.out.size))))
        have HB4 := Lib.hid (HBL.out.drew.trans (hb3.mono HBL.out.size))
        have HB5 := Lib.hid (HBL1.out.drew.trans (hb3.mono HBL1.out.size))
        clear hb3
        go_wp2
        go_roundw
        case rel => exact ⟨k + 1, _, by omega, by go_num, rfl, HSZ.out, HX2, HA2, HB4.out, HB5.out⟩
        case measure => simp [intOf]; omega
    · obtain rfl : k = m := by omega
      have hT' : (T.map bl).take k = T.map bl := List.take_of_length_le (by omega)
      have hPt : P.take (k + 1) = P := List.take_of_length_le (by omega)
      have HX1 := HX.out
      have HK1 := HK.out
      rw [hT'] at HX1 HK1
      rw [hPt, ← hFC] at HX1
      have hft2 := hft.out trivial trivial HK1
      have hxF : x.size = F.length := by rw [HX1, mkS_size]
      have hx1 : x.size ≤ 1048576 := by omega
      by_cases h600 : 600 < x.size
      · have HR : Hid (R = (⟨#[]⟩, false)) := HB.out (.inr (.inr (.inr (.inr (.inr (.inr (by rw [hft2]; simp; omega)))))))
        clear hxF HX1 HK1 hft2 hT' hPt hFC
        go_wp2
        go_ret2
        exact ⟨by rw [HR.out]; rfl, hbel⟩
      · have HR : Hid (R = (x, true)) := by
          show _ = _
          rw [HX1]
          exact HY.out (HO.out.2 ⟨trivial, trivial, trivial, trivial, by omega, HK1, by rw [hft2]; simp; omega⟩)
        clear hxF HX1 HK1 hft2 hT' hPt hFC
        go_wp2
        go_ret2
        exact ⟨by rw [HR.out]; rfl, hbel⟩

end Go.Proofs.YtoajdkcdjdbliaaDoor
