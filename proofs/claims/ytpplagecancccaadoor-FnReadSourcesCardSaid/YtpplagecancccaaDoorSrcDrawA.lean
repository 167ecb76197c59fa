/- Drawn sources (printed by gen_srcdraw.py). -/
import Derived.Test.YtpplagecancccaaDoorSrcReg
import Derived.Test.YtpplagecancccaaDoorDrawS
namespace Go.Proofs.YtpplagecancccaaDoor
open Go.RowKit

def srcLits : Array Value := #[.string ⟨#[115, 101, 108, 102]⟩, .string ⟨#[100, 46, 101]⟩, .string ⟨#[42, 46, 98, 46, 99]⟩, .string ⟨#[120]⟩]
theorem srcLits_all : ∀ x ∈ srcLits.toList, ∃ q : ByteArray, x = .string q ∧ q.size ≤ 10 := by
  intro x hx
  simp only [srcLits, List.mem_cons, List.not_mem_nil, or_false] at hx
  rcases hx with rfl | rfl | rfl | rfl
  · exact ⟨_, rfl, by decide⟩
  · exact ⟨_, rfl, by decide⟩
  · exact ⟨_, rfl, by decide⟩
  · exact ⟨_, rfl, by decide⟩
def kindsL : List ByteArray := [⟨#[100, 101, 102, 97, 117, 108, 116]⟩, ⟨#[115, 99, 114, 105, 112, 116]⟩, ⟨#[105, 109, 97, 103, 101]⟩, ⟨#[115, 116, 121, 108, 101]⟩]
theorem kindsL_small : ∀ q ∈ kindsL, q.size ≤ 10 := by
  intro q hq
  simp only [kindsL, List.mem_cons, List.not_mem_nil, or_false] at hq
  rcases hq with rfl | rfl | rfl | rfl <;> decide
def srcSlot (H R g Hit m : Nat) (vF : Value) (F : List ByteArray) : Nat → World → Value → Prop
  | 0, _, v => v = .pointer (some ⟨g, 1, none⟩)
  | 1, _, v => v = vF
  | 2, w, v => LitSl H srcLits 9 w v
  | 3, _, v => v = .pointer (some ⟨R, 0, none⟩)
  | 4, _, v => PickIn 4 v
  | 5, w, v => LitPt H srcLits 9 w v
  | 6, _, v => ∃ q : ByteArray, v = .string q ∧ q.size ≤ 10
  | 7, w, v => ∃ (b : Nat) (q : ByteArray), H ≤ b ∧ q.size ≤ 10 ∧ v = .slice (some ⟨b, 0, none⟩) 1 1 ∧ w.heap[b]? = some (.cells #[.string q] 9 (0, 0))
  | 8, w, v => ∃ q : ByteArray, q.size ≤ 10 ∧ w.ownsRow Hit 9 1 v (m + 1) ((F ++ [q]).map strV)
  | 9, _, v => v = .pointer (some ⟨g, 1, none⟩)
  | _, _, _ => True
def srcWt : Nat → Nat := fun i => if i = 4 then 1 else 0
theorem src_kept {H R g Hit m : Nat} {vF : Value} {F : List ByteArray} {w w' : World} (hk : KeepFrom H w w') (ho : ∀ v n l, w.ownsRow Hit 9 1 v n l → w'.ownsRow Hit 9 1 v n l) (j : Nat) (v : Value) (h : srcSlot H R g Hit m vF F j w v) : srcSlot H R g Hit m vF F j w' v := by
  unfold srcSlot at h ⊢
  split at h
  all_goals first
    | exact h
    | exact LitSl.kept hk h
    | exact LitPt.kept hk h
    | (obtain ⟨b, q, hb, hq, hv, hc⟩ := h; exact ⟨b, q, hb, hq, hv, hk b _ hb hc⟩)
    | (obtain ⟨q, hq, hc⟩ := h; exact ⟨q, hq, ho _ _ _ hc⟩)
theorem src_kept8 {H R g Hit m : Nat} {vF : Value} {F : List ByteArray} {w w' : World} (hk : KeepFrom H w w') (j : Nat) (v : Value) (hj : j ≠ 8) (h : srcSlot H R g Hit m vF F j w v) : srcSlot H R g Hit m vF F j w' v := by
  unfold srcSlot at h ⊢
  split at h
  all_goals first
    | exact h
    | exact LitSl.kept hk h
    | exact LitPt.kept hk h
    | (obtain ⟨b, q, hb, hq, hv, hc⟩ := h; exact ⟨b, q, hb, hq, hv, hk b _ hb hc⟩)
    | exact absurd rfl hj
theorem own_ne_src {w : World} {B g n : Nat} {v : Value} {l : List Value} {C : Array Value} (h : w.ownsRow B 9 1 v n l) (hg : w.heap[g]? = some (.cells C 40 (0, 0))) (e : v.ownBlock = some g) : False := by
  rcases h.2 with ⟨rfl, _⟩ | ⟨g', cap, cur, rfl, _, hh, _⟩
  · simp [Value.ownBlock] at e
  · have e1 : g' = g := by simpa [Value.ownBlock] using e
    subst e1
    rw [hh] at hg
    injection hg with hg
    injection hg with _ ht
    exact absurd ht (by decide)
/-- What is known of the world in the region that puts a host behind a source's hosts. -/
def G12 (H R g Hit m : Nat) (vF : Value) (F : List ByteArray) (K : ByteArray) (wit : World) (listed : Array Bool) (w : World) : Prop :=
  wit.grownBy w (some R) ∧ H ≤ w.heap.size ∧ (listed.getD 8 true = true → listed.getD 1 true = true) ∧ (listed.getD 10 true = true → listed.getD 8 true = true) ∧
  (listed.getD 8 true = false → w.ownsRow Hit 9 1 vF m (F.map strV)) ∧
  (listed.getD 10 true = false → w.heap[g]? = some (.cells #[.string K, vF] 40 (0, 0))) ∧
  (listed.getD 10 true = true → ∃ (v : Value) (q : ByteArray), q.size ≤ 10 ∧ w.heap[g]? = some (.cells #[.string K, v] 40 (0, 0)) ∧ w.ownsRow Hit 9 1 v (m + 1) ((F ++ [q]).map strV))
section
variable {H R g Hit m : Nat} {vF : Value} {F : List ByteArray} {K : ByteArray} {wit w w' : World} {listed : Array Bool}
theorem bool_no {b : Bool} (h : ¬ b = true) : b = false := by simpa using h
theorem G12.no10 (h : G12 H R g Hit m vF F K wit listed w) (h0 : listed.getD 1 true = false ∨ listed.getD 8 true = false) : listed.getD 10 true = false := by
  refine bool_no fun e => ?_
  have h8 := h.2.2.2.1 e
  have h1 := h.2.2.1 h8
  rcases h0 with h0 | h0
  · rw [h0] at h1; cases h1
  · rw [h0] at h8; cases h8
theorem G12.keep {i : Nat} (h : G12 H R g Hit m vF F K wit listed w) (h8 : i ≠ 8) (h10 : i ≠ 10) (hg : w.grownBy w' (some R)) (hs : w.heap.size ≤ w'.heap.size) (hR : R < Hit) (hH : Hit ≤ g) : G12 H R g Hit m vF F K wit (listed.setIfInBounds i true) w' := by
  obtain ⟨a1, a2, a3, a4, a5, a6, a7⟩ := h
  have hgR : ∀ o, w.heap[g]? = some o → w'.heap[g]? = some o := fun o ho => heap_row_kept hg (by omega) ho
  refine ⟨a1.trans hg, by omega, ?_, ?_, ?_, ?_, ?_⟩
  · rw [listed_keep h8]
    intro e
    by_cases h1 : i = 1
    · subst h1; exact getDset_eq
    · rw [listed_keep h1]; exact a3 e
  · rw [listed_keep h8, listed_keep h10]; exact a4
  · rw [listed_keep h8]; exact fun e => ownN_R (a5 e) hg hR
  · rw [listed_keep h10]; exact fun e => hgR _ (a6 e)
  · rw [listed_keep h10]
    intro e
    obtain ⟨v, q, hq, hc, ho⟩ := a7 e
    exact ⟨v, q, hq, hgR _ hc, ownN_R ho hg hR⟩
theorem G12.push (h : G12 H R g Hit m vF F K wit listed w) (h8 : listed.getD 8 true = false) (h1 : listed.getD 1 true = true) (hg : w.grownBy w' vF.ownBlock) (hwit : wit.grownBy w' (some R)) (hne : ∀ {C : Array Value}, w.heap[g]? = some (.cells C 40 (0, 0)) → vF.ownBlock ≠ some g) : G12 H R g Hit m vF F K wit (listed.setIfInBounds 8 true) w' := by
  have h10 := h.no10 (.inr h8)
  obtain ⟨a1, a2, a3, a4, a5, a6, a7⟩ := h
  refine ⟨hwit, Nat.le_trans a2 hg.size, ?_, ?_, ?_, ?_, ?_⟩
  · intro _; rw [listed_keep (by decide)]; exact h1
  · intro _; exact getDset_eq
  · rw [getDset_eq]; intro e; cases e
  · intro _
    have hc := a6 h10
    exact (hg.block g (Array.getElem?_eq_some_iff.1 hc).1 (fun e => hne hc e.symm)).trans hc
  · rw [listed_keep (by decide), h10]; intro e; cases e
theorem G12.store {fa : Option Addr} {fc : Nat} {q : ByteArray} (h : G12 H R g Hit m vF F K wit listed w) (h8 : listed.getD 8 true = true) (h1 : listed.getD 1 true = true) (hq : q.size ≤ 10) (own : w.ownsRow Hit 9 1 (.slice fa (m + 1) fc) (m + 1) ((F ++ [q]).map strV)) (hc : w.heap[g]? = some (.cells #[.string K, vF] 40 (0, 0))) (hwit : wit.heap.size ≤ g) : G12 H R g Hit m vF F K wit (listed.setIfInBounds 10 true) (w.setCell ⟨g, 1, none⟩ (.slice fa (m + 1) fc)) := by
  obtain ⟨a1, a2, a3, a4, a5, a6, a7⟩ := h
  have hgs := grown_setCell (grown_refl w (some g)) 1 (.slice fa (m + 1) fc)
  refine ⟨grow_row a1 hgs (by intro q hq; injection hq with hq; omega), Nat.le_trans a2 hgs.size, ?_, ?_, ?_, ?_, ?_⟩
  · intro _; rw [listed_keep (by decide)]; exact h1
  · intro _; rw [listed_keep (by decide)]; exact h8
  · rw [listed_keep (by decide), h8]; intro e; cases e
  · rw [getDset_eq]; intro e; cases e
  · intro _
    exact ⟨_, q, hq, heap_setCell_same w g 1 _ _ _ hc, ownN_other own hgs (fun j hj e => by injection e with e; subst e; exact own_ne_src own hc hj)⟩
end
end Go.Proofs.YtpplagecancccaaDoor
