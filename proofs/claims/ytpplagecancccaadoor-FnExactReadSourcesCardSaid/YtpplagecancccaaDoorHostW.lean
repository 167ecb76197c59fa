/- The words of sources: what the reference's test of one returns; the program's test, plainly. -/
import Derived.Test.YtpplagecancccaaDoorHost
namespace Go.Proofs.YtpplagecancccaaDoor
open Go.RowKit

def selfL : List UInt8 := [115, 101, 108, 102]
def noneL : List UInt8 := [110, 111, 110, 101]
def starL : List UInt8 := [42, 46]
/-- A host, or one for all hosts below it. -/
def wordB (l : List UInt8) : Bool :=
  if 2 < l.length ∧ l.take 2 = starL then hostB (l.drop 2) && decide (¬ l = starL ++ selfL) && decide (¬ l = starL ++ noneL) else hostB l && decide (¬ l = noneL)
def cutW (l : List UInt8) : List UInt8 := if l.take 2 = starL then l.drop 2 else l
def wordI (l : List UInt8) : Bool := decide (l = selfL) || (hostB (cutW l) && decide (¬ cutW l = selfL) && decide (¬ cutW l = noneL))
theorem hostB_self : hostB selfL = true := by decide +kernel
theorem hostB_star {l : List UInt8} (h : l.take 2 = starL) : hostB l = false := by
  refine hostB_no (.inl ?_)
  rcases l with _ | ⟨x, l⟩
  · simp [starL] at h
  · have hx : x = 42 := by
      rcases l with _ | ⟨y, l⟩
      · simp [starL] at h
      · simp [starL] at h; exact h.1
    subst hx
    rw [List.all_cons, show hostC 42 = false by decide +kernel]; rfl
theorem wordI_eq (l : List UInt8) : wordI l = wordB l := by
  unfold wordI wordB cutW
  by_cases h : l.take 2 = starL
  · rw [if_pos h]
    have hl : l = starL ++ l.drop 2 := by rw [← h, List.take_append_drop]
    have hns : ¬ l = selfL := by
      intro e; rw [e] at h; exact absurd h (by decide)
    rw [decide_eq_false hns, Bool.false_or]
    by_cases h2 : 2 < l.length
    · rw [if_pos ⟨h2, h⟩]
      have e1 : (l = starL ++ selfL) ↔ l.drop 2 = selfL := ⟨fun e => by rw [e]; rfl, fun e => by rw [hl, e]⟩
      have e2 : (l = starL ++ noneL) ↔ l.drop 2 = noneL := ⟨fun e => by rw [e]; rfl, fun e => by rw [hl, e]⟩
      simp only [e1, e2]
    · rw [if_neg (fun e => h2 e.1), hostB_star h]
      have : l.drop 2 = [] := List.drop_eq_nil_of_le (by omega)
      rw [this]; rfl
  · rw [if_neg h, if_neg (fun e => h e.2)]
    by_cases hs : l = selfL
    · subst hs
      rw [hostB_self]; decide +kernel
    · rw [decide_eq_false hs, Bool.false_or, decide_eq_true hs, Bool.and_true]
theorem bl_eq {s : ByteArray} {l : List UInt8} : s = ⟨⟨l⟩⟩ ↔ bl s = l := ⟨fun e => by subst e; rfl, fun e => bl_inj e⟩

theorem tl_lit (s : ByteArray) (l : List UInt8) : (s.toList == l) = decide (bl s = l) := by
  rw [ByteArray.toList_eq]
  show (bl s == l) = _
  by_cases h : bl s = l
  · rw [decide_eq_true h, h]; simp
  · rw [decide_eq_false h, beq_eq_false_iff_ne]; exact h

set_option maxHeartbeats 1600000 in
theorem spec_l38Host (s : ByteArray) (w : World) (hs : s.size ≤ 9223372036854775806) : Calls Tryd.prog 24 #[.string s] w fun e w' => e = .returned (.bool (wordB (bl s))) ∧ w = w' := by
  have CH : Hid (∀ (t : ByteArray) (W : World), t.size ≤ 9223372036854775806 → Calls Tryd.prog 41 #[.string t] W fun e w' => e = .returned (.bool (hostB (bl t))) ∧ W = w') := fun t W h => spec_l32Host t W h
  by_cases hc : 2 < s.size ∧ (bl s).take 2 = starL
  · obtain ⟨h2, hp⟩ := hc
    have hd : bl (s.extract 2 s.size) = (bl s).drop 2 := by rw [bl_ext, List.take_of_length_le (by rw [bl_len]; exact Nat.le_refl _)]
    have hds : (s.extract 2 s.size).size ≤ 9223372036854775806 := by simp; omega
    have b1 : ((s.extract 0 2).toList == [42, 46]) = true := by
      rw [tl_lit, decide_eq_true_iff, bl_ext, List.drop_zero]; exact hp
    have b2 : (s.toList == [42, 46, 115, 101, 108, 102]) = decide (bl s = starL ++ selfL) := tl_lit s _
    have b3 : (s.toList == [42, 46, 110, 111, 110, 101]) = decide (bl s = starL ++ noneL) := tl_lit s _
    have CH2 : ∀ W, Calls Tryd.prog 41 #[.string (s.extract 2 s.size)] W fun e w' => e = .returned (.bool (hostB ((bl s).drop 2))) ∧ W = w' := fun W => by rw [← hd]; exact CH.out _ W hds
    have HW : wordB (bl s) = (hostB ((bl s).drop 2) && decide (¬ bl s = starL ++ selfL) && decide (¬ bl s = starL ++ noneL)) := by
      unfold wordB; rw [if_pos ⟨by rw [bl_len]; exact h2, hp⟩]
    rw [decide_not, decide_not] at HW
    generalize hostB ((bl s).drop 2) = hb at *
    generalize decide (bl s = starL ++ selfL) = x1 at *
    generalize decide (bl s = starL ++ noneL) = x2 at *
    generalize wordB (bl s) = r at *
    have h20 : (2 : Int) < (s.size : Int) := by omega
    clear hd hds hp CH
    cases hb <;> cases x1 <;> cases x2
    all_goals
      have CH3 := Lib.hid CH2
      have HW2 := Lib.hid HW
      clear CH2 HW
      go_enter Tryd.func24, Tryd.ntmps24
      go_wp2_with fail
      refine (CH3.out _).mono ?_
      rintro e w1 ⟨rfl, rfl⟩
      go_wp2
      go_ret
      exact ⟨ret_bool HW2.out.symm, rfl⟩
  · have HW : wordB (bl s) = (hostB (bl s) && decide (¬ bl s = noneL)) := by
      unfold wordB; rw [if_neg (by rw [bl_len]; exact hc)]
    rw [decide_not] at HW
    have CH2 : ∀ W, Calls Tryd.prog 41 #[.string s] W fun e w' => e = .returned (.bool (hostB (bl s))) ∧ W = w' := fun W => CH.out _ W hs
    have b3 : (s.toList == [110, 111, 110, 101]) = decide (bl s = noneL) := tl_lit s _
    by_cases h2 : 2 < s.size
    · have b1 : ((s.extract 0 2).toList == [42, 46]) = false := by
        rw [tl_lit, decide_eq_false_iff_not, bl_ext, List.drop_zero]; exact fun e => hc ⟨h2, e⟩
      generalize hostB (bl s) = hb at *
      generalize decide (bl s = noneL) = x2 at *
      generalize wordB (bl s) = r at *
      clear CH hc
      cases hb <;> cases x2
      all_goals
        have CH3 := Lib.hid CH2
        have HW2 := Lib.hid HW
        clear CH2 HW
        go_enter Tryd.func24, Tryd.ntmps24
        go_wp2_with fail
        refine (CH3.out _).mono ?_
        rintro e w1 ⟨rfl, rfl⟩
        go_wp2
        go_ret
        exact ⟨ret_bool HW2.out.symm, rfl⟩
    · generalize hostB (bl s) = hb at *
      generalize decide (bl s = noneL) = x2 at *
      generalize wordB (bl s) = r at *
      clear CH hc
      cases hb <;> cases x2
      all_goals
        have CH3 := Lib.hid CH2
        have HW2 := Lib.hid HW
        clear CH2 HW
        go_enter Tryd.func24, Tryd.ntmps24
        go_wp2_with fail
        refine (CH3.out _).mono ?_
        rintro e w1 ⟨rfl, rfl⟩
        go_wp2
        go_ret
        exact ⟨ret_bool HW2.out.symm, rfl⟩
end Go.Proofs.YtpplagecancccaaDoor
