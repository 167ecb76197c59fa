/- Slices of bytes made into strings; bytes.Equal. -/
import Derived.Test.YtgbdkajnlemblaaBytes
namespace Go.Proofs.Ytgbdkajnlemblaa
open Go.RowKit

theorem conv_row (w : World) (a : Option Addr) (n c : Nat) (l : List UInt8) (h : RowAt w a (l.map byteV)) (hn : l.length = n) :
    (convert 22 9 (.slice a n c)).run Try.prog w = .ok (.string ⟨l.toArray⟩) w := by
  subst hn
  rcases a with _ | ad
  · have : l = [] := by
      rcases l with _ | ⟨x, l⟩
      · rfl
      · obtain ⟨b, off, ha, _⟩ := h 0 (by simp)
        cases ha
    subst this
    exact run_convert_bytes_nil (P := Try.prog) (w := w) 22 5 Try.underlying22 Try.underlying5 0 c 9 Try.underlying9
  · refine run_convert_bytes_back (P := Try.prog) w 22 9 5 ad c l Try.underlying22 Try.underlying5 Try.underlying9 (fun j hj => ?_)
    obtain ⟨b, off, ha, _, hc⟩ := row_byte h j hj
    injection ha with ha
    subst ha
    have e : (⟨b, off, none⟩ : Addr).add j = ⟨b, off + j, none⟩ := by unfold Addr.add; split <;> simp_all
    rw [e, hc]

theorem bytes_Equal (a1 a2 : Option Addr) (n1 n2 c1 c2 : Nat) (l1 l2 : List UInt8) (w : World) (h1 : RowAt w a1 (l1.map byteV)) (h2 : RowAt w a2 (l2.map byteV)) (e1 : l1.length = n1) (e2 : l2.length = n2) :
    Calls Try.prog 12 #[.slice a1 n1 c1, .slice a2 n2 c2] w fun e w' => e = .returned (.bool (l1 == l2)) ∧ w = w' := by
  have k1 := conv_row w a1 n1 c1 l1 h1 e1
  have k2 := conv_row w a2 n2 c2 l2 h2 e2
  clear h1 h2 e1 e2
  go_enter Try.func12, Try.ntmps12
  go_wp2
  go_ret
  exact ⟨rfl, rfl⟩
end Go.Proofs.Ytgbdkajnlemblaa
