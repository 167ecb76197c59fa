/- The library's table of powers of ten, which the rows list: carried over what a call leaves; strconv.Itoa. -/
import Derived.Test.YtfidcfjmmhghjaaDoorHas
import Derived.Test.YtfidcfjmmhghjaaDoorShelf
import Derived.Lib.LaidTab
import Derived.Lib.AppendIntMem
import Derived.HandedShaped
namespace Go.Proofs.YtfidcfjmmhghjaaDoor
open Go.RowKit

def TabOk (w : World) : Prop := Lib.TabIs Tryd.prog w "internal/strconv.uint64pow10" .u64 Lib.pow10Tab
theorem TabOk.below {w w' : World} (h : TabOk w) (hb : Below w.heap.size w w') : TabOk w' := Lib.tabBelow_of_tabIs h w' hb
theorem tab_third {W : World} {n1 n2 : String} {d1 d2 : DataW Unit} {rest : List (String × DataW Unit)} {ps : List MemPlace}
    (h : DataW.LaidVars Tryd.prog W ((n1, d1) :: (n2, d2) :: ("internal/strconv.uint64pow10", Lib.tabData .u64 Lib.pow10Tab) :: rest) ps) : TabOk W := by
  obtain ⟨_, _, _, _, _, q1, _, _, _, _, h1, _⟩ := h
  obtain ⟨_, _, _, _, _, q2, _, _, _, _, h2, _⟩ := h1
  obtain ⟨g, t, cs, fuel, p, q, hg, ht, hvar, hd, _, _⟩ := h2
  have hg' : g = 2 := Option.some.inj (hg.symm.trans (by kernel_rfl))
  subst hg'
  have ht' : t = 84 := Option.some.inj (ht.symm.trans (by kernel_rfl))
  subst ht'
  unfold TabOk Lib.TabIs
  rw [hvar, ← Lib.cells_of_tab Tryd.underlying84 Tryd.underlying69 (by kernel_rfl) (by kernel_rfl) hd]
theorem itoa_any (u : Nat) (w : World) (hu : u ≤ 999999) (hm : TabOk w) :
    Calls Tryd.prog 16 #[.int .i64 (u : Int)] w fun e w' => e = .returned (.string (mkS (Lib.decDigits u))) ∧ Below w.heap.size w w' := by
  refine (Tryd.strconv_Itoa (u : Int) (by omega) (by omega) w hm).mono ?_
  rintro e w' ⟨rfl, k, os, rfl⟩
  refine ⟨?_, Lib.below_grow _ _ (Nat.le_refl _) k os⟩
  rw [Lib.itoa, if_neg (by omega)]
  rfl
end Go.Proofs.YtfidcfjmmhghjaaDoor
