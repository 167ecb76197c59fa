/- The reference's TokensValid and PrintTokens on tokens as tables have them. -/
import Derived.Test.YtdoomfckdjjlaaaPrint
import Derived.Deep.RegionHeld3
namespace Go.Proofs.Ytdoomfckdjjlaaa
open Go.RowKit

/-- What the token before may be. -/
def PrevF (K : Nat) (pK : Nat) (pN : ByteArray) : Prop := ((pK : Int) != 5) = true ∧ (((pK : Int) == 2) = true ∧ (pN.toList == [115, 99, 114, 105, 112, 116]) = false ∨ ((pK : Int) == 2) = false) ∧ (K = 1 → ((pK : Int) != 1) = true)
set_option maxRecDepth 100000 in
set_option maxHeartbeats 3200000 in
theorem spec_l6Token (tK pK : Nat) (tN tV pN pV : ByteArray) (pa qa : Option Addr) (pc qc : Nat) (w : World) (hF : TokF ⟨tK, tN, tV⟩) (hNs : tN.size ≤ 10) (hVs : tV.size ≤ 600) (hP : PrevF tK pK pN) :
    Calls Try.prog 81 #[.agg #[.int .i64 (tK : Int), .string tN, .string tV, .slice pa 0 pc], .agg #[.int .i64 (pK : Int), .string pN, .string pV, .slice qa 0 qc]] w fun e w' => e = .returned (.bool true) ∧ Below w.heap.size w w' := by
  have hal : ∀ o o2, Below w.heap.size w ((w.alloc o).alloc o2) := fun o o2 => ((Below.refl _ _).alloc (Nat.le_refl _) o).alloc (by simp) o2
  have HAL := Lib.hid hal
  clear hal
  obtain ⟨p5, p2, p1⟩ := hP
  unfold TokF at hF
  simp only at hF
  have CT := fun W => spec_TextValid tV W (by omega)
  have CN := fun W => spec_NameValid tN W (by omega)
  rcases hF with ⟨rfl, h1, h2, hv⟩ | ⟨rfl, hnm, h2, h3, hv⟩ | ⟨rfl, hnm, h3, hv⟩
  · have q1 := p1 rfl
    rw [hv] at CT
    have CT2 := Lib.hid CT
    clear CT CN hv p1
    rcases p2 with ⟨p2, ps⟩ | p2
    · go_enter Try.func81, Try.ntmps81
      go_wp2_with fail
      refine (CT2.out _).mono ?_
      rintro e w1 ⟨rfl, rfl⟩
      go_wp2
      go_ret
      exact ⟨rfl, HAL.out _ _⟩
    · go_enter Try.func81, Try.ntmps81
      go_wp2_with fail
      refine (CT2.out _).mono ?_
      rintro e w1 ⟨rfl, rfl⟩
      go_wp2
      go_ret
      exact ⟨rfl, HAL.out _ _⟩
  · rw [hnm] at CN
    have CN2 := Lib.hid CN
    clear CT CN hv hnm p1
    rcases p2 with ⟨p2, ps⟩ | p2
    · go_enter Try.func81, Try.ntmps81
      go_wp2
      refine wp_loop_rounds 1 ?_
      rw [rounds_succ]
      go_wp2_with fail
      refine (CN2.out _).mono ?_
      rintro e w1 ⟨rfl, rfl⟩
      go_wp2
      go_ret
      exact ⟨rfl, HAL.out _ _⟩
    · go_enter Try.func81, Try.ntmps81
      go_wp2
      refine wp_loop_rounds 1 ?_
      rw [rounds_succ]
      go_wp2_with fail
      refine (CN2.out _).mono ?_
      rintro e w1 ⟨rfl, rfl⟩
      go_wp2
      go_ret
      exact ⟨rfl, HAL.out _ _⟩
  · rw [hnm] at CN
    have CN2 := Lib.hid CN
    clear CT CN hv hnm p1
    rcases p2 with ⟨p2, ps⟩ | p2
    · go_enter Try.func81, Try.ntmps81
      go_wp2_with fail
      refine (CN2.out _).mono ?_
      rintro e w1 ⟨rfl, rfl⟩
      go_wp2
      go_ret
      exact ⟨rfl, HAL.out _ _⟩
    · go_enter Try.func81, Try.ntmps81
      go_wp2_with fail
      refine (CN2.out _).mono ?_
      rintro e w1 ⟨rfl, rfl⟩
      go_wp2
      go_ret
      exact ⟨rfl, HAL.out _ _⟩
set_option maxRecDepth 100000 in
set_option maxHeartbeats 1600000 in
theorem spec_l7Token (tK : Nat) (tN tV : ByteArray) (pa : Option Addr) (pc : Nat) (w : World) (hF : TokF ⟨tK, tN, tV⟩) (hNs : tN.size ≤ 10) (hVs : tV.size ≤ 600) :
    Calls Try.prog 62 #[.agg #[.int .i64 (tK : Int), .string tN, .string tV, .slice pa 0 pc]] w fun e w' => e = .returned (.string (mkS (printT ⟨tK, tN, tV⟩))) ∧ Below w.heap.size w w' := by
  have hal : ∀ o, Below w.heap.size w (w.alloc o) := fun o => (Below.refl _ _).alloc (Nat.le_refl _) o
  have HAL := Lib.hid hal
  clear hal
  unfold TokF at hF
  simp only at hF
  rcases hF with ⟨rfl, _⟩ | ⟨rfl, _⟩ | ⟨rfl, _⟩
  · have CE := Lib.hid (fun W => spec_EscapeText tV W (by omega))
    have HP : Hid (printT ⟨1, tN, tV⟩ = escR (bl tV)) := rfl
    go_enter Try.func62, Try.ntmps62
    go_wp2_with fail
    refine (CE.out _).mono ?_
    rintro e w1 ⟨rfl, b1⟩
    go_wp2
    go_ret
    exact ⟨by rw [HP.out]; rfl, (HAL.out _).trans (b1.mono (by simp))⟩
  · have HP : Hid (mkS (printT ⟨2, tN, tV⟩) = ⟨#[60]⟩ ++ tN ++ ⟨#[62]⟩) := bl_inj (by rw [bl_mkS, bl_app, bl_app]; rfl)
    have hsz : (1 : Int) + (tN.size : Int) ≤ 9223372036854775807 := by omega
    have hsz2 : (⟨#[60]⟩ ++ tN : ByteArray).size + 1 ≤ 9223372036854775807 := by rw [ByteArray.size_append]; show 1 + tN.size + 1 ≤ _; omega
    go_enter Try.func62, Try.ntmps62
    go_wp2
    go_rounds 1
    go_ret
    exact ⟨by rw [HP.out]; rfl, HAL.out _⟩
  · have HP : Hid (mkS (printT ⟨3, tN, tV⟩) = ⟨#[60, 47]⟩ ++ tN ++ ⟨#[62]⟩) := bl_inj (by rw [bl_mkS, bl_app, bl_app]; rfl)
    have hsz : (2 : Int) + (tN.size : Int) ≤ 9223372036854775807 := by omega
    have hsz2 : (⟨#[60, 47]⟩ ++ tN : ByteArray).size + 1 ≤ 9223372036854775807 := by rw [ByteArray.size_append]; show 2 + tN.size + 1 ≤ _; omega
    go_enter Try.func62, Try.ntmps62
    go_wp2
    go_ret
    exact ⟨by rw [HP.out]; rfl, HAL.out _⟩
end Go.Proofs.Ytdoomfckdjjlaaa
