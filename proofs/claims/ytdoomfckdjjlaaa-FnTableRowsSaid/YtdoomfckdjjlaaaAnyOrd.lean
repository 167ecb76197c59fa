/- Every order of a drawn region at once: an invariant that speaks of which operations are done. -/
import Derived.Orders
namespace Go.Proofs.Ytdoomfckdjjlaaa
open Go

theorem wpAny_inv {P : Program} {md : Region.Mode} {ops : Array Oper} {Q : Exit → Act → World → Prop} (I : Array Bool → Act → World → Prop)
    (hstep : ∀ listed a w i, I listed a w → i ∈ Region.ready md ops listed → wpOp P ops Q i (fun a' w' => I (listed.setIfInBounds i true) a' w') a w)
    (hdone : ∀ listed a w, I listed a w → Region.ready md ops listed = [] → Q .normal a w) :
    ∀ (fuel : Nat) (listed : Array Bool) (a : Act) (w : World), listed.toList.count false ≤ fuel → I listed a w → wpAny P md ops Q fuel listed a w := by
  intro fuel
  induction fuel with
  | zero =>
    intro listed a w hf h
    have hr : Region.ready md ops listed = [] := by
      rw [List.eq_nil_iff_forall_not_mem]
      intro i hi
      rw [mem_ready] at hi
      obtain ⟨h0, _⟩ := hi
      have : false ∈ listed.toList := by
        rw [Array.getD_eq_getD_getElem?] at h0
        cases hx : listed[i]? with
        | none => rw [hx] at h0; cases h0
        | some b => rw [hx] at h0; simp at h0; subst h0; exact Array.mem_toList_iff.2 (Array.mem_of_getElem? hx)
      have := List.count_pos_iff.2 this
      omega
    exact ⟨hr, hdone listed a w h hr⟩
  | succ fuel ih =>
    intro listed a w hf h
    refine ⟨hdone listed a w h, fun i hi => wpOp_mono (fun a' w' h' => ih _ _ _ ?_ h') (hstep listed a w i h hi)⟩
    rw [mem_ready] at hi
    obtain ⟨h0, _⟩ := hi
    rw [Array.getD_eq_getD_getElem?] at h0
    cases hx : listed[i]? with
    | none => rw [hx] at h0; cases h0
    | some b =>
      rw [hx] at h0
      simp at h0
      subst h0
      obtain ⟨hlt, hx'⟩ := Array.getElem?_eq_some_iff.1 hx
      have hx2 : listed.toList[i]'(by simpa using hlt) = false := by simpa using hx'
      rw [Array.toList_setIfInBounds, List.count_set (by simpa using hlt)]
      rw [Array.count_toList] at hf
      simp [hx2]
      omega
end Go.Proofs.Ytdoomfckdjjlaaa
