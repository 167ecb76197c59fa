/- Rows of strings that share no block; an append that keeps them apart. -/
import Derived.Test.YtmiemnhbkcmanaaDoorStrs
import Derived.Test.YtmiemnhbkcmanaaDoorPush
import Derived.Maps.AppendAt
import Derived.Laws.AppendOwnNone
import Derived.RegionTactic
namespace Go.Proofs.YtmiemnhbkcmanaaDoor
open Go.RowKit

theorem wpList_pushS3 {wr : World} {ops : Array Oper} {rest : List Oper} {o : Oper} {a : Act} {Q : Exit → Act → World → Prop} (s x : Operand) (B : Nat) (b : ByteArray) (v : Value) (n : Nat) (acc : List ByteArray)
    (own : wr.ownsRow B 9 1 v n (acc.map strV)) (hB : B ≤ wr.heap.size) (hsz : n ≤ 4611686018427387904 / 1048576) (hgd : o.guard = none)
    (ho : o.op = .call { callee := .builtin .append, args := #[s, x], argTypes := #[22, 22] }) (hs : a.eval s = v) (H : Nat) (hH : wr.heap.size = H) (hx : a.eval x = .slice (some ⟨H, 0, none⟩) 1 1)
    (h : ∀ v' w', w'.ownsRow B 9 1 v' (n + 1) ((acc ++ [b]).map strV) → wr.grownBy w' v.ownBlock → Below B wr w' → (v'.ownBlock = v.ownBlock ∨ v'.ownBlock = some (wr.heap.size + 1)) → wpList Tryd.prog ops Q rest (a.put o.dst v') w') :
    wpList Tryd.prog ops Q (o :: rest) a (wr.alloc (.cells #[.string b] 9 (0, 0))) := by
  subst hH
  obtain ⟨i0, hi, hz0, hz1, hz2⟩ := info_parts info_str
  have hal : Below wr.heap.size wr (wr.alloc (.cells #[.string b] 9 (0, 0))) := (Below.refl _ _).alloc (Nat.le_refl _) _
  refine wpList_append_row hgd s x _ ho B 9 i0 _ 16 Tryd.underlying22 hi hz0 hz1 hz2 rfl v n (acc.map strV) hs (own_below own hal) (some ⟨wr.heap.size, 0, none⟩) 1 1 ([b].map strV) hx (by intro e; cases e)
    (own_formn_row (own_new wr #[.string b] 9 1 rfl (by omega))) rfl (strs_one [b]) (by omega) (by omega) (by simp; omega) ?_
  intro v' w' o' g' e'
  refine h v' w' ?_ ((World.grownBy_alloc _ _ _).trans g') ?_ (by simpa only [World.size_alloc] using e')
  · rw [List.map_append]
    exact o'
  · exact (((Below.refl B wr).alloc hB _)).grown g' (by simp; omega) (fun q hq => (own_ge own q hq).1)
/-- Two rows do not share a block. -/
def Apart (v v' : Value) : Prop := ∀ k, v.ownBlock = some k → v'.ownBlock ≠ some k
theorem Apart.symm {v v' : Value} (h : Apart v v') : Apart v' v := fun k h1 h2 => h k h2 h1
theorem Apart.push {w : World} {B : Nat} {e : TypeId} {v v' u : Value} {n : Nat} {l : List Value} (h : Apart v u) (ho : w.ownsRow B e 1 u n l) (he : v'.ownBlock = v.ownBlock ∨ v'.ownBlock = some (w.heap.size + 1)) : Apart v' u := by
  intro k h1 h2
  rcases he with he | he
  · exact h k (by rw [← he]; exact h1) h2
  · rw [he] at h1
    injection h1 with h1
    have := own_ge ho k h2
    omega
theorem Apart.len {a : Option Addr} {n m c : Nat} {u : Value} (h : Apart (.slice a n c) u) : Apart (.slice a m c) u := by
  cases a with
  | none => intro k hk; simp [Value.ownBlock] at hk
  | some a => exact h
/-- A row without its last element. -/
theorem own_pop {w : World} {B : Nat} {e : TypeId} {a : Option Addr} {n c : Nat} {l : List Value} (h : w.ownsRow B e 1 (.slice a n c) n l) (hn : 0 < n) : w.ownsRow B e 1 (.slice a (n - 1) c) (n - 1) l.dropLast := by
  obtain ⟨hl, h⟩ := h
  refine ⟨by rw [List.length_dropLast, hl]; omega, ?_⟩
  rcases h with ⟨hv, h0⟩ | ⟨g, cap, cur, hv, hB, hg, hn1, hm, hs, ht⟩
  · omega
  · refine .inr ⟨g, cap, cur, ?_, hB, hg, by omega, hm, hs, ?_⟩
    · injection hv with h1 h2 h3
      rw [h1, h3]
    · rw [Nat.mul_one] at ht ⊢
      rw [List.dropLast_eq_take, ← ht, List.length_take, Array.length_toList, List.take_take]
      congr 1
      injection hv with h1 h2 h3
      omega
/-- append of a row that can be read, at a step of a region that draws its order. -/
theorem step_row (w : World) {ops : Array Oper} {o : Oper} {a : Act} {K : Act → World → Prop} {Q : Exit → Act → World → Prop} {E : Prop} (s x : Operand) (B : Nat) (v : Value) (n : Nat) (xs : List Value) (own : w.ownsRow B 9 1 v n xs) (hB : B ≤ w.heap.size)
    (ad : Option Addr) (m c : Nat) (P : List ByteArray) (hn0 : ad = none → c = 0) (hr : RowAt w ad (P.map strV)) (hm : P.length = m) (hnm : n + m ≤ 4398046511104)
    (hgd : o.guard = none) (ho : o.op = .call { callee := .builtin .append, args := #[s, x], argTypes := #[22, 22] }) (hs : a.eval s = v) (hx : a.eval x = .slice ad m c)
    (h : ∀ v' w', w'.ownsRow B 9 1 v' (n + m) (xs ++ P.map strV) → w.grownBy w' v.ownBlock → (v'.ownBlock = v.ownBlock ∨ v'.ownBlock = some w.heap.size) → K (a.put o.dst v') w') :
    if Region.wanted o (yielded ops a.tmps) = true then Oper.wp Tryd.prog o a w K Q else E := by
  obtain ⟨i0, hi, hz0, hz1, hz2⟩ := info_parts info_str
  have hw : Region.wanted o (yielded ops a.tmps) = true := by simp [Region.wanted, hgd]
  rw [if_pos hw]
  rcases ad with _ | ad
  · have hnil := row_none hr
    have hP : P = [] := by simpa using hnil
    subst hP
    have hc := hn0 rfl
    subst hc
    have hm0 : m = 0 := by simpa using hm.symm
    subst hm0
    have hrun := run_append_owned_none (P := Tryd.prog) (w := w) B 22 o.type 9 i0 1 Tryd.underlying22 hi v n xs own
    unfold Oper.wp execOp
    simp only [ho, resolve, invoke, builtin, Sem.run_bind, Sem.run_pure, Result.andThen_ok, List.map_toArray, List.map_cons, List.map_nil, hs, hx, hrun]
    exact h v w (by simpa using own) (World.grownBy.refl w _) (.inl rfl)
  · obtain ⟨v', w', hrun, h2, h3, _, h4⟩ := run_append_own_at (P := Tryd.prog) (w := w) B 22 o.type 9 i0 _ 1 16 Tryd.underlying22 hi hz0 hz1 hz2 rfl (by omega) v n xs own ad m c (P.map strV) (by rw [List.length_map]; omega) (row_cells hr) (strs_one P) (by simp only [maxLen]; omega) (by omega) hB
    unfold Oper.wp execOp
    simp only [ho, resolve, invoke, builtin, Sem.run_bind, Sem.run_pure, Result.andThen_ok, List.map_toArray, List.map_cons, List.map_nil, hs, hx, hrun]
    exact h v' w' h2 h3 h4
end Go.Proofs.YtmiemnhbkcmanaaDoor
