/- QuoteText, by the program; the law that asks for the same answers. -/
import Derived.Test.YtdoomfckdjjlaaaDoorWord
import Derived.Test.YtdoomfckdjjlaaaDoorMax
namespace Go.Proofs.YtdoomfckdjjlaaaDoor
open Go.RowKit

set_option maxHeartbeats 800000 in
theorem impl_QuoteText (s : ByteArray) (w : World) (hs : s.size ≤ 1099511627776) (hm : MaxOk w) :
    Calls Tryd.prog 5 #[.string s] w fun e w' => e = .returned (.string (mkS (qtR (bl s)))) ∧ Below w.heap.size w w' := by
  have CT := fun W' => impl_TextValid s W' (by omega)
  rcases ht : textB (bl s) with _ | _
  · have HR : Hid (mkS (qtR (bl s)) = ⟨#[]⟩) := by rw [qtR_no ht]; rfl
    rw [ht] at CT
    have CT2 := Lib.hid CT
    clear CT ht hm
    go_enter Tryd.func5, Tryd.ntmps5
    go_wp2_with fail
    refine (CT2.out _).mono ?_
    rintro e w1 ⟨rfl, rfl⟩
    go_wp2
    go_ret
    exact ⟨ret_strW HR.out.symm, Below.refl _ _⟩
  · have hsz := textB_size ht
    have HR : Hid (qtR (bl s) = 39 :: (qL (bl s) ++ [39])) := qtR_yes ht
    have hql := qL_len (bl s)
    rw [bl_len] at hql
    have CR : Hid (∀ W, MaxOk W → Calls Tryd.prog 13 #[.string s, .string ⟨#[39]⟩, .string ⟨#[39, 39]⟩] W fun e w' => e = .returned (.string (mkS (qL (bl s)))) ∧ Below W.heap.size W w') := fun W h => replaceAll_any s ⟨#[39, 39]⟩ 39 W h (by omega) (by decide) (by decide)
    have hqs : (mkS (qL (bl s))).size ≤ 3000 := by rw [mkS_size]; omega
    have HX2 : Hid (⟨#[39]⟩ ++ mkS (qL (bl s)) ++ ⟨#[39]⟩ = mkS (qtR (bl s))) := by
      rw [HR.out]
      exact bl_inj (by rw [bl_app, bl_app, bl_mkS, bl_mkS]; rfl)
    generalize mkS (qL (bl s)) = y at *
    rw [ht] at CT
    have CT2 := Lib.hid CT
    have HM := Lib.hid hm
    clear CT ht hm hql HR
    go_enter Tryd.func5, Tryd.ntmps5
    go_wp2_with fail
    refine (CT2.out _).mono ?_
    rintro e w1 ⟨rfl, rfl⟩
    go_wp2_with fail
    refine (CR.out _ HM.out).mono ?_
    rintro e w1 ⟨rfl, b1⟩
    go_wp2
    go_ret
    exact ⟨ret_strW HX2.out, b1⟩

end Go.Proofs.YtdoomfckdjjlaaaDoor
