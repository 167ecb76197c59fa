/- The laws' helper sameInts: what it answers, for every two slices. -/
import Derived.Test.YtfefgnehbpfonaaInts
namespace Go.Proofs.Ytfefgnehbpfonaa
open Go.RowKit

set_option maxHeartbeats 400000 in
theorem sameIntS_core (a1 a2 : Option Addr) (n c1 c2 : Nat) (l1 l2 : List Int) (w : World) (h1 : RowAt w a1 (l1.map intV)) (h2 : RowAt w a2 (l2.map intV)) (e1 : l1.length = n) (e2 : l2.length = n) (hn : n ≤ 9223372036854775807) :
    Calls Try.prog 39 #[.slice a1 n c1, .slice a2 n c2] w fun e w' => (∃ b, e = .returned (.bool b) ∧ (b = true ↔ ∀ i, i < n → l1.getD i 0 = l2.getD i 0)) ∧ Below w.heap.size w w' := by
  go_enter Try.func39, Try.ntmps39
  go_wp2
  have H1 := Lib.hid h1; have H2 := Lib.hid h2; have E1 := Lib.hid e1; have E2 := Lib.hid e2
  clear h1 h2 e1 e2
  go_loopw [5] (fun t wr => ∃ k : Nat, k ≤ n ∧ t = .int .i64 k ∧ (∀ i, i < k → l1.getD i 0 = l2.getD i 0) ∧ Below w.heap.size w wr) (fun t _ => n - (intOf t).toNat)
  case atStart => exact ⟨0, Nat.zero_le _, rfl, by intro i hi; omega, Below.refl _ _⟩
  case round =>
    obtain ⟨k, hk, rfl, heq, hb⟩ := hrel
    by_cases hlt : k < n
    · obtain ⟨b1, o1, rfl, hl1, hc1⟩ := row_int (H1.out.below (Nat.le_refl _) hb) k (by rw [E1.out]; exact hlt)
      obtain ⟨b2, o2, rfl, hl2, hc2⟩ := row_int (H2.out.below (Nat.le_refl _) hb) k (by rw [E2.out]; exact hlt)
      have k0 : (0 : Int) ≤ (k : Int) := by omega
      have k1 : (k : Int) < (n : Int) := by omega
      by_cases he : l1.getD k 0 = l2.getD k 0
      · rw [← he] at hc2
        have HE := Lib.hid he; have HQ := Lib.hid heq; clear he heq
        generalize l1.getD k 0 = z at hc1 hc2
        go_wp2
        go_quiet (fail)
        go_wp2
        go_roundw
        case rel => exact ⟨k + 1, by omega, by go_num, upto_succ HQ.out HE.out, below_drewN hb _⟩
        case measure => simp [intOf]; omega
      · have hne : (l1.getD k 0 != l2.getD k 0) = true := by rw [bne_iff_ne]; exact he
        have HE := Lib.hid he; clear he heq
        generalize l1.getD k 0 = z1 at hc1 hne
        generalize l2.getD k 0 = z2 at hc2 hne
        go_wp2
        go_quiet (fail)
        go_wp2
        go_ret
        exact ⟨⟨false, rfl, by simp; exact ⟨k, hlt, by simpa using HE.out⟩⟩, below_drewN hb _⟩
    · have HQ := Lib.hid heq; clear heq
      go_wp2
      go_ret
      exact ⟨⟨true, rfl, by simp; intro i hi; simpa using HQ.out i (by omega)⟩, hb⟩

/-- Two slices of numbers are equal: what the helper answers. -/
theorem sameIntS_any (a1 a2 : Option Addr) (n1 n2 c1 c2 : Nat) (l1 l2 : List Int) (w : World) (h1 : RowAt w a1 (l1.map intV)) (h2 : RowAt w a2 (l2.map intV)) (e1 : l1.length = n1) (e2 : l2.length = n2) (hn : n1 ≤ 9223372036854775807) :
    Calls Try.prog 39 #[.slice a1 n1 c1, .slice a2 n2 c2] w fun e w' => e = .returned (.bool (decide (l1 = l2))) ∧ Below w.heap.size w w' := by
  by_cases h : n1 = n2
  · subst h
    refine (sameIntS_core a1 a2 n1 c1 c2 l1 l2 w h1 h2 e1 e2 hn).mono ?_
    rintro e w' ⟨⟨b, rfl, hb⟩, hw⟩
    refine ⟨?_, hw⟩
    have : b = decide (l1 = l2) := by
      rw [Bool.eq_iff_iff, hb, decide_eq_true_iff]
      constructor
      · intro hi
        apply List.ext_getElem (by omega)
        intro i h3 h4
        have := hi i (by omega)
        simpa [h3, h4] using this
      · rintro rfl i hi
        rfl
    rw [this]
  · have hne : ¬ l1 = l2 := by rintro rfl; omega
    have hd : decide (l1 = l2) = false := by simp [hne]
    have hb : (((n1 : Nat) : Int) != ((n2 : Nat) : Int)) = true := by rw [bne_iff_ne]; omega
    rw [hd]
    clear h1 h2 hd hne
    go_enter Try.func39, Try.ntmps39
    go_wp2
    go_ret
    exact ⟨rfl, Below.refl _ _⟩
end Go.Proofs.Ytfefgnehbpfonaa
