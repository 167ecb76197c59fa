/- What a text means, seen from a location: plainly. -/
import Derived.Test.YtmiemnhbkcmanaaDoorLocP
namespace Go.Proofs.YtmiemnhbkcmanaaDoor
open Go.RowKit

/-- One word more. -/
def stepW (last : Bool) (R : List ByteArray) (x : List UInt8) : List ByteArray :=
  if x = [46] ∨ (x = [] ∧ last = true) then R else if x = [46, 46] then R.dropLast else R ++ [mkS x]
def foldW : List (List UInt8) → List ByteArray → List ByteArray
  | [], R => R
  | x :: r, R => foldW r (stepW r.isEmpty R x)
theorem foldW_at {W : List (List UInt8)} {k : Nat} {R : List ByteArray} (h : k < W.length) : foldW (W.drop k) R = foldW (W.drop (k + 1)) (stepW (decide (k + 1 = W.length)) R W[k]) := by
  rw [List.drop_eq_getElem_cons h, foldW]
  have e : (W.drop (k + 1)).isEmpty = decide (k + 1 = W.length) := by
    rw [Bool.eq_iff_iff, List.isEmpty_iff, decide_eq_true_iff, List.drop_eq_nil_iff]
    omega
  rw [e]
theorem foldW_end {W : List (List UInt8)} {k : Nat} {R : List ByteArray} (h : W.length ≤ k) : foldW (W.drop k) R = R := by
  rw [List.drop_eq_nil_of_le h, foldW]
theorem stepW_dot {b : Bool} {R : List ByteArray} {x : List UInt8} (h : x = [46]) : stepW b R x = R := by unfold stepW; rw [if_pos (.inl h)]
theorem stepW_last {R : List ByteArray} {x : List UInt8} (h : x = []) : stepW true R x = R := by unfold stepW; rw [if_pos (.inr ⟨h, rfl⟩)]
theorem stepW_up {b : Bool} {R : List ByteArray} {x : List UInt8} (h : x = [46, 46]) : stepW b R x = R.dropLast := by
  unfold stepW
  rw [if_neg (by rw [h]; rintro (h | ⟨h, _⟩) <;> cases h), if_pos h]
theorem stepW_push {b : Bool} {R : List ByteArray} {x : List UInt8} (h1 : ¬ x = [46]) (h2 : ¬ (x = [] ∧ b = true)) (h3 : ¬ x = [46, 46]) : stepW b R x = R ++ [mkS x] := by
  unfold stepW
  rw [if_neg (by rintro (h | h); exact h1 h; exact h2 h), if_neg h3]
/-- The words behind the first slash, if the text begins with one. -/
def pathOf (bf : List UInt8) : List UInt8 := if bf.head? = some 47 then bf.tail else bf
/-- The path that the words begin with. -/
def startR (bf : List UInt8) (P : List ByteArray) : List ByteArray := if bf.head? = some 47 then [] else if bf = [] then P else P.dropLast
def resP (s : List UInt8) (P : List ByteArray) : List ByteArray := foldW (cutAt 47 (pathOf (Lib.cut s [63]).1)) (startR (Lib.cut s [63]).1 P)
abbrev Loc5 := ByteArray × ByteArray × List ByteArray × ByteArray × Bool
def zeroT : Loc5 := (⟨#[]⟩, ⟨#[]⟩, [], ⟨#[]⟩, false)
def hasL (s : List UInt8) : Prop := ∃ t : ByteArray × ByteArray × List ByteArray × ByteArray, locB t.1 t.2.1 t.2.2.1 t.2.2.2 = true ∧ locT t.1 t.2.1 t.2.2.1 t.2.2.2 = s
open Classical in
/-- The answer. -/
noncomputable def resT (S H : ByteArray) (P : List ByteArray) (Q : ByteArray) (s : List UInt8) : Loc5 :=
  if locB S H P Q = true then
    if s = [] then (S, H, P, ⟨#[]⟩, true)
    else if h : hasL s then ((Classical.choose h).1, (Classical.choose h).2.1, (Classical.choose h).2.2.1, (Classical.choose h).2.2.2, true)
    else if locB S H (resP s P) (mkS (Lib.cut s [63]).2.1) = true then (S, H, resP s P, mkS (Lib.cut s [63]).2.1, true)
    else zeroT
  else zeroT
theorem resT_bad {S H : ByteArray} {P : List ByteArray} {Q : ByteArray} {s : List UInt8} (h : locB S H P Q = false) : resT S H P Q s = zeroT := by
  unfold resT; rw [if_neg (by rw [h]; intro e; cases e)]
theorem resT_nil {S H : ByteArray} {P : List ByteArray} {Q : ByteArray} {s : List UInt8} (h : locB S H P Q = true) (h2 : s = []) : resT S H P Q s = (S, H, P, ⟨#[]⟩, true) := by
  unfold resT; rw [if_pos h, if_pos h2]
theorem locT_ne (S H : ByteArray) (P : List ByteArray) (Q : ByteArray) : locT S H P Q ≠ [] := by
  unfold locT
  intro e
  have := congrArg List.length e
  simp at this
theorem resT_read {S H : ByteArray} {P : List ByteArray} {Q : ByteArray} {s : List UInt8} {S' H' : ByteArray} {P' : List ByteArray} {Q' : ByteArray} (h : locB S H P Q = true) (h1 : locB S' H' P' Q' = true) (h2 : locT S' H' P' Q' = s) : resT S H P Q s = (S', H', P', Q', true) := by
  have hn : ¬ s = [] := by rw [← h2]; exact locT_ne _ _ _ _
  have hl : hasL s := ⟨(S', H', P', Q'), h1, h2⟩
  unfold resT
  rw [if_pos h, if_neg hn, dif_pos hl]
  have hc := Classical.choose_spec hl
  obtain ⟨e1, e2, e3, e4⟩ := locT_inj hc.1 h1 (hc.2.trans h2.symm)
  rw [e1, e2, e3, e4]
theorem no_hasL {s : List UInt8} (h : ∀ S H P Q, locB S H P Q = true → locT S H P Q ≠ s) : ¬ hasL s := by
  rintro ⟨t, h1, h2⟩
  exact h _ _ _ _ h1 h2
theorem resT_out {S H : ByteArray} {P : List ByteArray} {Q : ByteArray} {s : List UInt8} (h : locB S H P Q = true) (hs : ¬ s = []) (hn : ∀ S H P Q, locB S H P Q = true → locT S H P Q ≠ s) (h2 : locB S H (resP s P) (mkS (Lib.cut s [63]).2.1) = true) : resT S H P Q s = (S, H, resP s P, mkS (Lib.cut s [63]).2.1, true) := by
  unfold resT
  rw [if_pos h, if_neg hs, dif_neg (no_hasL hn), if_pos h2]
theorem resT_none {S H : ByteArray} {P : List ByteArray} {Q : ByteArray} {s : List UInt8} (hs : ¬ s = []) (hn : ∀ S H P Q, locB S H P Q = true → locT S H P Q ≠ s) (h2 : locB S H (resP s P) (mkS (Lib.cut s [63]).2.1) = false) : resT S H P Q s = zeroT := by
  unfold resT
  by_cases h : locB S H P Q = true
  · rw [if_pos h, if_neg hs, dif_neg (no_hasL hn), if_neg (by rw [h2]; intro e; cases e)]
  · rw [if_neg h]
theorem locB_noq {S H : ByteArray} {P : List ByteArray} {Q : ByteArray} (h : locB S H P Q = true) : locB S H P ⟨#[]⟩ = true := by
  unfold locB at h ⊢
  rw [Bool.and_eq_true, Bool.and_eq_true] at h ⊢
  exact ⟨h.1, askB_yes (Q := []) rfl rfl, h.2.2⟩
/-- The reference's words: those of the whole text, without the first one if the text begins with a slash. -/
theorem words_slash (t : List UInt8) : cutAt 47 (47 :: t) = [] :: cutAt 47 t := by rw [cutAt, if_pos rfl]
theorem foldW_none (R : List ByteArray) : foldW (cutAt 47 []) R = R := by
  rw [cutAt, foldW, foldW]
  exact stepW_last rfl
end Go.Proofs.YtmiemnhbkcmanaaDoor
