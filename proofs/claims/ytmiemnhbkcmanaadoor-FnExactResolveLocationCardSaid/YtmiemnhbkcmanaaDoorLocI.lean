/- Locations: which are valid, by the program. -/
import Derived.Test.YtmiemnhbkcmanaaDoorLoc
namespace Go.Proofs.YtmiemnhbkcmanaaDoor
open Go.RowKit

theorem locB_no {S H : ByteArray} {P : List ByteArray} {Q : ByteArray} (h : schB (bl S) = false ∨ hostB (bl H) = false ∨ ¬ P.length ≤ 6) : locB S H P Q = false := by
  unfold locB
  rcases h with h | h | h
  · rw [h]; simp
  · rw [h]; simp
  · rw [decide_eq_false h]; simp
theorem locB_last {S H : ByteArray} {P : List ByteArray} {Q : ByteArray} (h1 : schB (bl S) = true) (h2 : hostB (bl H) = true) (h3 : P.length ≤ 6) (h4 : P.all (fun x => stepB (bl x)) = true) : locB S H P Q = askB (bl Q) := by
  unfold locB
  rw [h1, h2, h4, decide_eq_true h3]; simp

set_option maxRecDepth 100000 in
set_option maxHeartbeats 3200000 in
theorem impl_LocationValid (S H : ByteArray) (a : Option Addr) (n c : Nat) (P : List ByteArray) (Q : ByteArray) (w : World) (hm : MaxOk w) (hrow : RowAt w a (P.map strV)) (hn : P.length = n) (hn' : n ≤ 4294967296) (hH : H.size ≤ 4294967296) (hQ : Q.size ≤ 1048576) (hP : ∀ x ∈ P, x.size ≤ 4294967296) :
    Calls Tryd.prog 18 #[.agg #[.string S, .string H, .slice a n c, .string Q]] w fun e w' => e = .returned (.bool (locB S H P Q)) ∧ Below w.heap.size w w' := by
  have HRow := Lib.hid hrow; have HN := Lib.hid hn; have HPS := Lib.hid hP; have HMx := Lib.hid hm
  clear hrow hn hP hm
  have CH := Lib.hid (fun W => impl_hostOk H W (by omega))
  have x1 := tl_litP S httpL
  have x2 := tl_litP S httpsL
  rcases hsc : schB (bl S) with _ | _
  · have HR : Hid (locB S H P Q = false) := locB_no (.inl hsc)
    have hs1 : decide (bl S = httpL) = false := by unfold schB at hsc; exact (Bool.or_eq_false_iff.1 hsc).1
    have hs2 : decide (bl S = httpsL) = false := by unfold schB at hsc; exact (Bool.or_eq_false_iff.1 hsc).2
    rw [hs1] at x1
    rw [hs2] at x2
    unfold httpL at x1
    unfold httpsL at x2
    clear hsc hs1 hs2
    go_enter Tryd.func18, Tryd.ntmps18
    go_wp2
    go_ret
    exact ⟨ret_bool HR.out.symm, (Below.refl _ _).alloc (Nat.le_refl _) _⟩
  have HSC := Lib.hid hsc
  have hx : (decide (bl S = httpL) = true) ∨ (decide (bl S = httpL) = false ∧ decide (bl S = httpsL) = true) := by
    unfold schB at hsc
    rcases h : decide (bl S = httpL) with _ | _
    · rw [h] at hsc; exact .inr ⟨rfl, hsc⟩
    · exact .inl rfl
  clear hsc
  rcases hh : hostB (bl H) with _ | _
  · rw [hh] at CH
    have HR : Hid (locB S H P Q = false) := locB_no (.inr (.inl hh))
    clear hh
    rcases hx with hx | ⟨hx, hx2⟩
    · rw [hx] at x1
      unfold httpL at x1
      clear hx x2
      go_enter Tryd.func18, Tryd.ntmps18
      go_wp2_with fail
      refine (CH.out _).mono ?_
      rintro e w3 ⟨rfl, rfl⟩
      go_wp2
      go_ret
      exact ⟨ret_bool HR.out.symm, (Below.refl _ _).alloc (Nat.le_refl _) _⟩
    · rw [hx] at x1
      rw [hx2] at x2
      unfold httpL at x1
      unfold httpsL at x2
      clear hx hx2
      go_enter Tryd.func18, Tryd.ntmps18
      go_wp2_with fail
      refine (CH.out _).mono ?_
      rintro e w3 ⟨rfl, rfl⟩
      go_wp2
      go_ret
      exact ⟨ret_bool HR.out.symm, (Below.refl _ _).alloc (Nat.le_refl _) _⟩
  rw [hh] at CH
  have HH := Lib.hid hh
  clear hh
  by_cases h6 : 6 < n
  · have HR : Hid (locB S H P Q = false) := locB_no (.inr (.inr (by rw [HN.out]; omega)))
    rcases hx with hx | ⟨hx, hx2⟩
    · rw [hx] at x1
      unfold httpL at x1
      clear hx x2
      go_enter Tryd.func18, Tryd.ntmps18
      go_wp2_with fail
      refine (CH.out _).mono ?_
      rintro e w3 ⟨rfl, rfl⟩
      go_wp2
      go_ret
      exact ⟨ret_bool HR.out.symm, (Below.refl _ _).alloc (Nat.le_refl _) _⟩
    · rw [hx] at x1
      rw [hx2] at x2
      unfold httpL at x1
      unfold httpsL at x2
      clear hx hx2
      go_enter Tryd.func18, Tryd.ntmps18
      go_wp2_with fail
      refine (CH.out _).mono ?_
      rintro e w3 ⟨rfl, rfl⟩
      go_wp2
      go_ret
      exact ⟨ret_bool HR.out.symm, (Below.refl _ _).alloc (Nat.le_refl _) _⟩
  have HLast : Hid (P.all (fun x => stepB (bl x)) = true → locB S H P Q = askB (bl Q)) := fun h => locB_last HSC.out HH.out (by rw [HN.out]; omega) h
  have x3 : (S.toList == httpL) = true ∨ ((S.toList == httpL) = false ∧ (S.toList == httpsL) = true) := by
    rcases hx with hx | ⟨hx, hx2⟩
    · exact .inl (by rw [x1, hx])
    · exact .inr ⟨by rw [x1, hx], by rw [x2, hx2]⟩
  clear x1 x2 hx
  unfold httpL httpsL at x3
  rcases x3 with x1 | ⟨x1, x2⟩
  all_goals
    go_enter Tryd.func18, Tryd.ntmps18
    go_wp2_with fail
    refine (CH.out _).mono ?_
    rintro e w0 ⟨rfl, rfl⟩
    go_wp2
    generalize hw1 : w.alloc (.cells #[.string S, .string H, .slice a n c, .string Q] 26 (0, 0)) = w1
    have c3 : w1.cell? ⟨w.heap.size, 3, none⟩ = some (.string Q) := by rw [← hw1]; exact (World.cell?_alloc_mark _ _ _ _ _).trans rfl
    have b1 : Below w.heap.size w w1 := by rw [← hw1]; exact (Below.refl _ _).alloc (Nat.le_refl _) _
    have hz1 : w.heap.size < w1.heap.size := by rw [← hw1]; simp
    clear hw1
    have HR1 := Lib.hid (HRow.out.below (Nat.le_refl _) b1)
    have B1 := Lib.hid b1
    have CQ := Lib.hid (impl_ReadAsked Q w1 (HMx.out.below b1) hQ)
    clear b1
    go_loop [31] (fun t => ∃ k : Nat, k ≤ n ∧ t = .int .i64 (k : Int) ∧ Hid ((P.take k).all (fun x => stepB (bl x)) = true)) (fun t => n - (intOf t).toNat)
    case atStart => exact ⟨0, Nat.zero_le _, rfl, rfl⟩
    case round =>
      obtain ⟨k, hk, rfl, HK⟩ := hrel
      by_cases hkn : k < n
      case neg =>
        have HA : Hid (P.all (fun x => stepB (bl x)) = true) := by have := HK.out; rwa [List.take_of_length_le (by rw [HN.out]; omega)] at this
        have HR := Lib.hid (HLast.out HA.out)
        go_wp2_with fail
        refine CQ.out.mono ?_
        rintro e w2 ⟨⟨v, rfl⟩, b2⟩
        have B2 := Lib.hid (B1.out.trans (b2.mono (Nat.le_of_lt hz1)))
        clear b2
        go_wp2
        go_ret
        exact ⟨ret_bool HR.out.symm, B2.out⟩
      have hkP : k < P.length := by rw [HN.out]; exact hkn
      obtain ⟨b, off, rfl, hlt, hcb⟩ := row_str HR1.out k hkP
      rw [getD_strP hkP] at hcb
      have hz := HPS.out _ (List.getElem_mem hkP)
      have HB := Lib.hid (fun h => locB_step (S := S) (H := H) (Q := Q) k hkP h)
      have HG := Lib.hid (fun h => all_takeP (fun x => stepB (bl x)) P k hkP HK.out h)
      generalize P[k] = x at hcb hz HB HG
      have hbl := Lib.hid (bl_len x)
      have y1 := tl_litP x [46]
      have y2 := tl_litP x [46, 46]
      by_cases hl1 : x.size < 1
      · have HR := Lib.hid (HB.out (stepB_bad (.inr (.inl (by rw [hbl.out]; omega)))))
        clear y1 y2
        go_wp2
        go_ret
        exact ⟨ret_bool HR.out.symm, B1.out⟩
      by_cases hl2 : 40 < x.size
      · have HR := Lib.hid (HB.out (stepB_bad (.inr (.inl (by rw [hbl.out]; omega)))))
        clear y1 y2
        go_wp2
        go_ret
        exact ⟨ret_bool HR.out.symm, B1.out⟩
      by_cases hp1 : bl x = [46]
      · have HR := Lib.hid (HB.out (stepB_bad (.inr (.inr (.inl hp1)))))
        rw [decide_eq_true hp1] at y1
        clear y2 hp1
        go_wp2
        go_ret
        exact ⟨ret_bool HR.out.symm, B1.out⟩
      by_cases hp2 : bl x = [46, 46]
      · have HR := Lib.hid (HB.out (stepB_bad (.inr (.inr (.inr hp2)))))
        rw [decide_eq_false hp1] at y1
        rw [decide_eq_true hp2] at y2
        clear hp1 hp2
        go_wp2
        go_ret
        exact ⟨ret_bool HR.out.symm, B1.out⟩
      have HGood : Hid ((bl x).all partC = true → (P.take (k + 1)).all (fun x => stepB (bl x)) = true) := fun h => HG.out (stepB_good h (by rw [hbl.out]; omega) hp1 hp2)
      have HBad : Hid ((bl x).all partC = false → locB S H P Q = false) := fun h => HB.out (stepB_bad (.inl h))
      rw [decide_eq_false hp1] at y1
      rw [decide_eq_false hp2] at y2
      clear hp1 hp2 HG HB
      go_wp2
      go_loop [5] (fun t => ∃ i : Nat, i ≤ x.size ∧ t = .int .i64 (i : Int) ∧ Hid (((bl x).take i).all partC = true)) (fun t => x.size - (intOf t).toNat)
      case atStart => exact ⟨0, Nat.zero_le _, rfl, rfl⟩
      case round =>
        obtain ⟨i, hi, rfl, HI⟩ := hrel
        by_cases hix : i < x.size
        case neg =>
          have HA : Hid ((bl x).all partC = true) := by have := HI.out; rwa [List.take_of_length_le (by rw [bl_len]; omega)] at this
          have HK2 := Lib.hid (HGood.out HA.out)
          go_wp2
          go_round
          case rel => exact ⟨k + 1, by omega, by go_num, HK2⟩
          case measure => simp [intOf]; omega
        have HKP := Lib.hid (partC_keep x[i])
        have HST : Hid (partC x[i] = true → ((bl x).take (i + 1)).all partC = true) := fun h => all_stepB _ x i hix HI.out h
        have HBD : Hid (partC x[i] = false → locB S H P Q = false) := fun h => HBad.out (all_badB _ x i hix h)
        rcases d1 : letB x[i] with _ | _
        case true =>
          have HI2 : Hid (((bl x).take (i + 1)).all partC = true) := HST.out (by rw [HKP.out, d1]; rfl)
          have C0 : Hid (∀ W, Calls Tryd.prog 31 #[.int .u8 (x[i].toNat : Int)] W fun e w' => e = .returned (.bool true) ∧ W = w') := fun W => by rw [← d1]; exact impl_isLetter x[i] W
          clear d1
          go_wp2_with fail
          refine (C0.out _).mono ?_
          rintro e v0 ⟨rfl, rfl⟩
          go_wp2
          go_round
          case rel => exact ⟨i + 1, by omega, by go_num, HI2⟩
          case measure => simp [intOf]; omega
        have C0 : Hid (∀ W, Calls Tryd.prog 31 #[.int .u8 (x[i].toNat : Int)] W fun e w' => e = .returned (.bool false) ∧ W = w') := fun W => by rw [← d1]; exact impl_isLetter x[i] W
        rcases d2 : digB x[i] with _ | _
        case true =>
          have HI2 : Hid (((bl x).take (i + 1)).all partC = true) := HST.out (by rw [HKP.out, d1, d2]; rfl)
          have C1 : Hid (∀ W, Calls Tryd.prog 32 #[.int .u8 (x[i].toNat : Int)] W fun e w' => e = .returned (.bool true) ∧ W = w') := fun W => by rw [← d2]; exact impl_isDigit x[i] W
          clear d1 d2
          go_wp2_with fail
          refine (C0.out _).mono ?_
          rintro e v0 ⟨rfl, rfl⟩
          go_wp2_with fail
          refine (C1.out _).mono ?_
          rintro e v0 ⟨rfl, rfl⟩
          go_wp2
          go_round
          case rel => exact ⟨i + 1, by omega, by go_num, HI2⟩
          case measure => simp [intOf]; omega
        have C1 : Hid (∀ W, Calls Tryd.prog 32 #[.int .u8 (x[i].toNat : Int)] W fun e w' => e = .returned (.bool false) ∧ W = w') := fun W => by rw [← d2]; exact impl_isDigit x[i] W
        rcases d3 : hasB [45, 95, 46, 126] x[i] with _ | _
        case true =>
          have HI2 : Hid (((bl x).take (i + 1)).all partC = true) := HST.out (by rw [HKP.out, d1, d2, d3]; rfl)
          have C2 : Hid (∀ W, Calls Tryd.prog 33 #[.string ⟨#[45, 95, 46, 126]⟩, .int .u8 (x[i].toNat : Int)] W fun e w' => e = .returned (.bool true) ∧ W = w') := fun W => by rw [← d3]; exact impl_hasByte ⟨#[45, 95, 46, 126]⟩ x[i] W (by decide)
          clear d1 d2 d3
          go_wp2_with fail
          refine (C0.out _).mono ?_
          rintro e v0 ⟨rfl, rfl⟩
          go_wp2_with fail
          refine (C1.out _).mono ?_
          rintro e v0 ⟨rfl, rfl⟩
          go_wp2_with fail
          refine (C2.out _).mono ?_
          rintro e v0 ⟨rfl, rfl⟩
          go_wp2
          go_round
          case rel => exact ⟨i + 1, by omega, by go_num, HI2⟩
          case measure => simp [intOf]; omega
        have HR : Hid (locB S H P Q = false) := HBD.out (by rw [HKP.out, d1, d2, d3]; rfl)
        have C2 : Hid (∀ W, Calls Tryd.prog 33 #[.string ⟨#[45, 95, 46, 126]⟩, .int .u8 (x[i].toNat : Int)] W fun e w' => e = .returned (.bool false) ∧ W = w') := fun W => by rw [← d3]; exact impl_hasByte ⟨#[45, 95, 46, 126]⟩ x[i] W (by decide)
        clear d1 d2 d3
        go_wp2_with fail
        refine (C0.out _).mono ?_
        rintro e v0 ⟨rfl, rfl⟩
        go_wp2_with fail
        refine (C1.out _).mono ?_
        rintro e v0 ⟨rfl, rfl⟩
        go_wp2_with fail
        refine (C2.out _).mono ?_
        rintro e v0 ⟨rfl, rfl⟩
        go_wp2
        go_ret
        exact ⟨ret_bool HR.out.symm, B1.out⟩
end Go.Proofs.YtmiemnhbkcmanaaDoor
