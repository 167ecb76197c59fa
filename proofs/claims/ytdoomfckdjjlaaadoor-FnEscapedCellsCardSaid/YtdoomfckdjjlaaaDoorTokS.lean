/- TableTokens of the reference (printed by gen_toks.py). -/
import Derived.Test.YtdoomfckdjjlaaaDoorTokI
import Derived.Test.YtdoomfckdjjlaaaDoorOwnRows
namespace Go.Proofs.YtdoomfckdjjlaaaDoor
open Go.RowKit

theorem nopostS {w w' : World} {T : List (List ByteArray)} (hb : Below w.heap.size w w') (h : tabB T = false) : TokPost w (tokR T) (.returned (.slice (some ⟨w'.heap.size, 0, none⟩) 0 0)) (w'.alloc (.cells #[] 45 (0, 0))) := by
  rw [tokR_no h]
  exact ⟨_, rfl, ownN_mono (ownN_new w' #[] 45 4 0 rfl (by omega)) hb.size, hb.alloc hb.size _⟩
theorem flat_len2 {r : List ByteArray} : ∀ j, ((r.take j).flatMap cellToks).length ≤ 3 * j := by
  intro j
  have := flat_len cellToks 3 (r.take j) (fun x _ => (cellToks_len x).2)
  rw [List.length_take] at this
  have h2 : min j r.length * 3 ≤ j * 3 := Nat.mul_le_mul (Nat.min_le_left _ _) (Nat.le_refl _)
  omega

end Go.Proofs.YtdoomfckdjjlaaaDoor
