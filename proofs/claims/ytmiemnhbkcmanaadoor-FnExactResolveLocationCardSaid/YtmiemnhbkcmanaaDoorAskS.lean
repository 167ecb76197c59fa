/- The text of a list of pairs, of the reference. -/
import Derived.Test.YtmiemnhbkcmanaaDoorAsk
namespace Go.Proofs.YtmiemnhbkcmanaaDoor
open Go.RowKit

theorem askJ_next {P : List (ByteArray × ByteArray)} {k : Nat} (h0 : 0 < k) (h : k < P.length) : mkS (askJ (P.take k)) ++ ⟨#[38]⟩ ++ P[k].1 ++ ⟨#[61]⟩ ++ mkS (escP (bl P[k].2)) = mkS (askJ (P.take (k + 1))) := by
  apply bl_inj
  rw [take_snocP h, askJ_snoc (by intro e; have := congrArg List.length e; rw [List.length_take, List.length_nil] at this; omega), pieceP]
  simp only [bl_app, bl_mkS, List.append_assoc]
  rfl
theorem askJ_first {P : List (ByteArray × ByteArray)} (h : 0 < P.length) : mkS [] ++ P[0].1 ++ ⟨#[61]⟩ ++ mkS (escP (bl P[0].2)) = mkS (askJ (P.take (0 + 1))) := by
  apply bl_inj
  rw [take_snocP h, List.take_zero, List.nil_append, askJ_one, pieceP]
  simp only [bl_app, bl_mkS, List.append_assoc]
  rfl
set_option maxRecDepth 100000 in
set_option maxHeartbeats 3200000 in
theorem spec_AskedText (v : Value) (B n : Nat) (P : List (ByteArray × ByteArray)) (w : World) (own : w.ownsRow B 60 2 v n (pairC P)) (hn : P.length = n) (hn' : n ≤ 2097152) (hsz : ∀ x ∈ P, x.1.size ≤ 1048576 ∧ x.2.size ≤ 1048576) :
    Calls Tryd.prog 45 #[v] w fun e w' => e = .returned (.string (mkS (askT P))) ∧ Below w.heap.size w w' := by
  have O := Lib.hid own; have HN := Lib.hid hn
  have CV : Hid (∀ W, Below w.heap.size w W → Calls Tryd.prog 44 #[v] W fun e w' => e = .returned (.bool (askV P)) ∧ W = w') := fun W hW => spec_AskedValid v B n P W (ownN_below own hW) hn hn' hsz
  obtain ⟨a0, c0, rfl, _, kc, kc', _⟩ := ownN_formn own
  clear own hn hsz
  rcases hv : askV P with _ | _
  · rw [hv] at CV
    have HR : Hid (askT P = []) := askT_no hv
    have hn0 : 0 < n := by
      rcases Nat.eq_zero_or_pos n with h0 | h0
      · have : P = [] := List.eq_nil_of_length_eq_zero (by rw [HN.out]; exact h0)
        rw [this] at hv
        cases hv
      · exact h0
    clear hv
    go_enter Tryd.func45, Tryd.ntmps45
    go_wp2
    go_loopw [3, 4] (fun o t wr => t = .int .i64 0 ∧ o = .string ⟨#[]⟩ ∧ Below w.heap.size w wr) (fun _ t _ => 0)
    case atStart => exact ⟨rfl, rfl, Below.refl _ _⟩
    case round =>
      obtain ⟨rfl, rfl, hb⟩ := hrel
      have BW := Lib.hid hb
      clear hb
      go_wp2_with fail
      refine (CV.out _ BW.out).mono ?_
      rintro e w1 ⟨rfl, rfl⟩
      go_wp2
      go_ret
      exact ⟨by rw [HR.out]; rfl, BW.out⟩
  rw [hv] at CV
  have HR : Hid (askT P = askJ P) := askT_yes hv
  obtain ⟨h6, hel⟩ := askV_len hv
  rw [HN.out] at h6
  have HEL := Lib.hid hel
  have HJL : Hid (∀ k, (askJ (P.take k)).length ≤ 1000) := fun k => askJ_len (by rw [List.length_take, HN.out]; omega) (fun x hx => hel x (List.mem_of_mem_take hx))
  clear hv hel
  go_enter Tryd.func45, Tryd.ntmps45
  go_wp2
  go_loopw [3, 4] (fun o t wr => ∃ k : Nat, k ≤ n ∧ t = .int .i64 (k : Int) ∧ o = .string (mkS (askJ (P.take k))) ∧ Below w.heap.size w wr) (fun _ t _ => n - (intOf t).toNat)
  case atStart => exact ⟨0, Nat.zero_le _, rfl, rfl, Below.refl _ _⟩
  case round =>
    obtain ⟨k, hk, rfl, rfl, hb⟩ := hrel
    have HB := Lib.hid hb
    have hww := hb.size
    clear hb
    by_cases hkn : k < n
    · have hkP : k < P.length := by rw [HN.out]; exact hkn
      obtain ⟨g, c, hv, _, hlt, _, _, _, hcell⟩ := pair_at (ownN_below O.out HB.out) HN.out (by omega)
      injection hv with hv1 hv2 hv3
      subst hv1; subst hv3
      obtain ⟨hc1, hc2⟩ := hcell k hkP
      have hz := HEL.out _ (List.getElem_mem hkP)
      have HN0 : Hid (0 < k → mkS (askJ (P.take k)) ++ ⟨#[38]⟩ ++ P[k].1 ++ ⟨#[61]⟩ ++ mkS (escP (bl P[k].2)) = mkS (askJ (P.take (k + 1)))) := fun h => askJ_next h hkP
      have HN1 : Hid (k = 0 → mkS [] ++ P[k].1 ++ ⟨#[61]⟩ ++ mkS (escP (bl P[k].2)) = mkS (askJ (P.take (k + 1)))) := fun h => by subst h; exact askJ_first hkP
      have hJL : (mkS (askJ (P.take k))).size ≤ 1000 := by rw [mkS_size]; exact HJL.out k
      have HE0 : Hid (k = 0 → mkS (askJ (P.take k)) = mkS []) := fun h => by rw [h]; rfl
      generalize mkS (askJ (P.take k)) = A at *
      generalize P[k].1 = x1 at hc1 hz HN0 HN1
      generalize P[k].2 = x2 at hc2 hz HN0 HN1
      obtain ⟨hz1, hz2⟩ := hz
      have CE := Lib.hid (fun W => spec_EscapePart x2 W (by omega))
      have hE : (mkS (escP (bl x2))).size ≤ 120 := by have := escP_len (bl x2); rw [bl_len] at this; rw [mkS_size]; omega
      generalize mkS (escP (bl x2)) = J at *
      clear hcell
      by_cases h0 : k = 0
      · have hA := HE0.out h0
        have HG := Lib.hid (HN1.out h0)
        have HA0 : Hid (A = mkS []) := hA
        subst h0
        generalize hD : A = D at *
        clear hD
        have hDs : D.size ≤ 1000 := hJL
        have z1 : D.size + x1.size ≤ 9223372036854775807 := by omega
        have z2 : D.size + x1.size + 1 ≤ 9223372036854775807 := by omega
        have z3 : D.size + x1.size + (⟨#[61]⟩ : ByteArray).size ≤ 9223372036854775807 := by show D.size + x1.size + 1 ≤ _; omega
        have z4 : D.size + x1.size + 1 + J.size ≤ 9223372036854775807 := by omega
        have z5 : D.size + x1.size + (⟨#[61]⟩ : ByteArray).size + J.size ≤ 9223372036854775807 := by show D.size + x1.size + 1 + J.size ≤ _; omega
        have z6 : (D ++ x1 : ByteArray).size ≤ 9223372036854775807 := by rw [ByteArray.size_append]; omega
        have z7 : (D ++ x1 : ByteArray).size + (⟨#[61]⟩ : ByteArray).size ≤ 9223372036854775807 := by rw [ByteArray.size_append]; exact z3
        have z8 : (D ++ x1 ++ ⟨#[61]⟩ : ByteArray).size ≤ 9223372036854775807 := by rw [ByteArray.size_append]; exact z7
        have z9 : (D ++ x1 ++ ⟨#[61]⟩ : ByteArray).size + J.size ≤ 9223372036854775807 := by rw [ByteArray.size_append, ByteArray.size_append]; exact z5
        have v1 : ¬ 9223372036854775807 < D.size + x1.size := by omega
        have v2 : ¬ 9223372036854775807 < D.size + x1.size + 1 := by omega
        have v4 : ¬ 9223372036854775807 < D.size + x1.size + 1 + J.size := by omega
        clear hA HE0 HN0 HN1
        go_wp2_with fail
        refine (CV.out _ HB.out).mono ?_
        rintro e w1 ⟨rfl, rfl⟩
        go_wp2_with fail
        go_region_held3 (fun w' => w'.cell? ⟨g, 0 * 2, none⟩ = some (.string x1) ∧ w'.cell? ⟨g, 0 * 2 + 1, none⟩ = some (.string x2)) (go_keep) (first | (go_at_call 60; refine (CE.out _).mono ?_; rintro e w3 ⟨rfl, b3⟩; obtain ⟨hcc, _⟩ := bcell b3; have z0 := (hcc _ (0 * 2) hlt).trans hc1; have z1 := (hcc _ (0 * 2 + 1) hlt).trans hc2; clear hcc))
        all_goals
          have B4 := Lib.hid (HB.out.drew.trans (b3.mono hww))
          clear b3
          go_wp2
          go_roundw
          case rel => exact ⟨0 + 1, by omega, by go_num, by rw [← HG.out, HA0.out], B4.out⟩
          case measure => simp [intOf]; omega
      · have HG := Lib.hid (HN0.out (by omega))
        have k0 : decide ((0 : Int) < (k : Int)) = true := by simp; omega
        have y2 : (A ++ ⟨#[38]⟩ : ByteArray).size ≤ 1001 := by rw [ByteArray.size_append]; show _ + 1 ≤ _; omega
        have y3 : A.size + 1 ≤ 9223372036854775807 := by omega
        have y4 : A.size + (⟨#[38]⟩ : ByteArray).size ≤ 9223372036854775807 := y3
        clear HE0 HN0 HN1
        go_wp2_with fail
        refine (CV.out _ HB.out).mono ?_
        rintro e w1 ⟨rfl, rfl⟩
        go_wp2_with fail
        generalize A ++ ⟨#[38]⟩ = D at *
        have hDs : D.size ≤ 1001 := y2
        have z1 : D.size + x1.size ≤ 9223372036854775807 := by omega
        have z2 : D.size + x1.size + 1 ≤ 9223372036854775807 := by omega
        have z3 : D.size + x1.size + (⟨#[61]⟩ : ByteArray).size ≤ 9223372036854775807 := by show D.size + x1.size + 1 ≤ _; omega
        have z4 : D.size + x1.size + 1 + J.size ≤ 9223372036854775807 := by omega
        have z5 : D.size + x1.size + (⟨#[61]⟩ : ByteArray).size + J.size ≤ 9223372036854775807 := by show D.size + x1.size + 1 + J.size ≤ _; omega
        have z6 : (D ++ x1 : ByteArray).size ≤ 9223372036854775807 := by rw [ByteArray.size_append]; omega
        have z7 : (D ++ x1 : ByteArray).size + (⟨#[61]⟩ : ByteArray).size ≤ 9223372036854775807 := by rw [ByteArray.size_append]; exact z3
        have z8 : (D ++ x1 ++ ⟨#[61]⟩ : ByteArray).size ≤ 9223372036854775807 := by rw [ByteArray.size_append]; exact z7
        have z9 : (D ++ x1 ++ ⟨#[61]⟩ : ByteArray).size + J.size ≤ 9223372036854775807 := by rw [ByteArray.size_append, ByteArray.size_append]; exact z5
        have v1 : ¬ 9223372036854775807 < D.size + x1.size := by omega
        have v2 : ¬ 9223372036854775807 < D.size + x1.size + 1 := by omega
        have v4 : ¬ 9223372036854775807 < D.size + x1.size + 1 + J.size := by omega
        go_region_held3 (fun w' => w'.cell? ⟨g, k * 2, none⟩ = some (.string x1) ∧ w'.cell? ⟨g, k * 2 + 1, none⟩ = some (.string x2)) (go_keep) (first | (go_at_call 60; refine (CE.out _).mono ?_; rintro e w3 ⟨rfl, b3⟩; obtain ⟨hcc, _⟩ := bcell b3; have z0 := (hcc _ (k * 2) hlt).trans hc1; have z1 := (hcc _ (k * 2 + 1) hlt).trans hc2; clear hcc))
        all_goals
          have B4 := Lib.hid (HB.out.drew.trans (b3.mono hww))
          clear b3
          go_wp2
          go_roundw
          case rel => exact ⟨k + 1, by omega, by go_num, by rw [← HG.out], B4.out⟩
          case measure => simp [intOf]; omega
    · obtain rfl : k = n := by omega
      have HA : Hid (mkS (askJ (P.take k)) = mkS (askT P)) := by
        show _ = _
        rw [HR.out, List.take_of_length_le (by rw [HN.out]; exact Nat.le_refl _)]
      generalize mkS (askJ (P.take k)) = A at *
      go_wp2
      go_ret
      exact ⟨ret_strP HA.out, HB.out⟩
end Go.Proofs.YtmiemnhbkcmanaaDoor
