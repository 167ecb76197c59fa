/- Sources read: plain lemmas for the region that puts one source more behind the others (printed by gen_rdreg.py). -/
import Derived.Test.YtpplagecancccaaDoorRdP
import Derived.Test.YtpplagecancccaaDoorSrcReg
namespace Go.Proofs.YtpplagecancccaaDoor
open Go.RowKit

/-- A slice without its first element. -/
def tail1 (b n c : Nat) : Value := if c = 1 then .slice (some ⟨b, 0, none⟩) (n - 1) 0 else .slice (some ⟨b, 1, none⟩) (n - 1) (c - 1)
theorem bel_new {w : World} (o : Obj) : Below w.heap.size w (w.alloc o) := (Below.refl _ _).alloc (Nat.le_refl _) o
theorem prC_one2 (K : ByteArray) (a : Option Addr) (n c : Nat) : ∀ u ∈ prC [(K, .slice a n c)], u.oneCell' = true := by
  intro u hu
  simp only [prC, List.flatMap_cons, List.flatMap_nil, List.append_nil, List.mem_cons, List.not_mem_nil, or_false] at hu
  rcases hu with rfl | rfl <;> rfl
theorem oper_pushSrc2 {o : Oper} {a : Act} {w : World} {K : Act → World → Prop} {Q : Exit → Act → World → Prop} (s x : Operand) (B : Nat) (v : Value) (n : Nat) (l : List (ByteArray × Value)) (k : ByteArray) (fa : Option Addr) (fn fc : Nat)
    (own : w.ownsRow B 40 2 v n (prC l)) (hB : B ≤ w.heap.size) (hn : n ≤ 1048576) (H : Nat) (hc : w.heap[H]? = some (.cells #[.string k, .slice fa fn fc] 40 (0, 0)))
    (ho : o.op = .call { callee := .builtin .append, args := #[s, x], argTypes := #[23, 23] }) (hs : a.eval s = v) (hx : a.eval x = .slice (some ⟨H, 0, none⟩) 1 1)
    (h : ∀ v' w', w'.ownsRow B 40 2 v' (n + 1) (prC (l ++ [(k, .slice fa fn fc)])) → w.grownBy w' v.ownBlock → K (a.put o.dst v') w') : o.wp Tryd.prog a w K Q := by
  obtain ⟨i0, hi, hz0, hz1, hz2⟩ := info_parts info_src2
  refine oper_push s x _ ho B 40 i0 _ 2 40 Tryd.underlying23 hi hz0 hz1 hz2 rfl (by omega) v n (prC l) hs own ⟨H, 0, none⟩ 1 1 (prC [(k, .slice fa fn fc)]) hx rfl (prC_cells hc) (prC_one2 k fa fn fc) (by simp only [maxLen]; omega) (by omega) hB ?_
  intro v' w' o' g'
  exact h v' w' (by rw [prC_app]; exact o') g'

def putSlot (H B nn bw nw cw : Nat) (vo : Value) (l : List (ByteArray × Value)) (K : ByteArray) (fa : Option Addr) (fn fc : Nat) : Nat → World → Value → Prop
  | 0, _, v => v = vo
  | 1, _, v => v = .slice (some ⟨bw, 0, none⟩) nw cw
  | 2, _, v => v = .pointer (some ⟨bw, 0, none⟩)
  | 3, _, v => v = .string K
  | 4, _, v => v = .slice (some ⟨bw, 0, none⟩) nw cw
  | 5, _, v => v = .slice fa fn fc
  | 6, _, v => v = .agg #[.string K, .slice fa fn fc]
  | 7, w, v => ∃ b : Nat, H ≤ b ∧ v = .slice (some ⟨b, 0, none⟩) 1 1 ∧ w.heap[b]? = some (.cells #[.string K, .slice fa fn fc] 40 (0, 0))
  | 8, w, v => w.ownsRow B 40 2 v (nn + 1) (prC (l ++ [(K, .slice fa fn fc)]))
  | 9, w, v => w.ownsRow B 40 2 v (nn + 1) (prC (l ++ [(K, .slice fa fn fc)]))
  | _, _, _ => True
section
variable {H B nn bw nw cw : Nat} {vo : Value} {l : List (ByteArray × Value)} {K : ByteArray} {fa : Option Addr} {fn fc : Nat} {w0 w w' : World} {listed : Array Bool}
theorem put_kept (hk : KeepFrom H w w') (hO : ∀ v n l, w.ownsRow B 40 2 v n l → w'.ownsRow B 40 2 v n l) (j : Nat) (v : Value) (h : putSlot H B nn bw nw cw vo l K fa fn fc j w v) : putSlot H B nn bw nw cw vo l K fa fn fc j w' v := by
  unfold putSlot at h ⊢
  split at h
  all_goals first
    | exact h
    | (obtain ⟨b, hb, hv, hc⟩ := h; exact ⟨b, hb, hv, hk b _ hb hc⟩)
    | exact hO _ _ _ h
theorem put_kept8 (hk : KeepFrom H w w') (j : Nat) (v : Value) (h8 : j ≠ 8) (h9 : j ≠ 9) (h : putSlot H B nn bw nw cw vo l K fa fn fc j w v) : putSlot H B nn bw nw cw vo l K fa fn fc j w' v := by
  unfold putSlot at h ⊢
  split at h
  all_goals first
    | exact h
    | (obtain ⟨b, hb, hv, hc⟩ := h; exact ⟨b, hb, hv, hk b _ hb hc⟩)
    | exact absurd rfl h8
    | exact absurd rfl h9
/-- What is known of the world in this region. -/
def GPut (H B nn : Nat) (vo : Value) (l : List (ByteArray × Value)) (w0 : World) (listed : Array Bool) (w : World) : Prop :=
  w0.grownBy w vo.ownBlock ∧ H ≤ w.heap.size ∧ (listed.getD 8 true = false → w.ownsRow B 40 2 vo nn (prC l)) ∧ (listed.getD 9 true = true → listed.getD 8 true = true)
theorem grow_none {row : Option Nat} (h : w.grownBy w' none) : w.grownBy w' row := ⟨h.os, h.tape, h.output, h.size, fun i hi _ => h.block i hi (by simp)⟩
theorem GPut.keep {i : Nat} (h : GPut H B nn vo l w0 listed w) (hi : i ≠ 8 ∧ i ≠ 9) (hg : w.grownBy w' none) : GPut H B nn vo l w0 (listed.setIfInBounds i true) w' := by
  obtain ⟨a1, a2, a3, a4⟩ := h
  refine ⟨a1.trans (grow_none hg), Nat.le_trans a2 hg.size, ?_, ?_⟩
  · rw [listed_keep hi.1]; exact fun e => ownN_other (a3 e) hg (by simp)
  · rw [listed_keep hi.1, listed_keep hi.2]; exact a4
theorem GPut.push (h : GPut H B nn vo l w0 listed w) (hg : w.grownBy w' vo.ownBlock) : GPut H B nn vo l w0 (listed.setIfInBounds 8 true) w' := by
  obtain ⟨a1, a2, a3, a4⟩ := h
  refine ⟨a1.trans hg, Nat.le_trans a2 hg.size, ?_, fun _ => getDset_eq⟩
  rw [getDset_eq]; intro e; cases e
theorem GPut.last (h : GPut H B nn vo l w0 listed w) (h8 : listed.getD 8 true = true) : GPut H B nn vo l w0 (listed.setIfInBounds 9 true) w := by
  obtain ⟨a1, a2, a3, a4⟩ := h
  refine ⟨a1, a2, ?_, ?_⟩
  · rw [listed_keep (by decide)]; exact a3
  · intro _; rw [listed_keep (by decide)]; exact h8
theorem GPut.word (h : GPut H B nn vo l w0 listed w) (hb : vo.ownBlock ≠ some bw) (hc : w0.cell? ⟨bw, 0, none⟩ = some (.string K)) : w.cell? ⟨bw, 0, none⟩ = some (.string K) :=
  h.1.cell hc (fun e => hb e.symm)
end
end Go.Proofs.YtpplagecancccaaDoor
