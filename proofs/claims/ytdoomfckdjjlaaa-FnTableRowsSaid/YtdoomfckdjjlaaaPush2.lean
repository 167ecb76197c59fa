/- One element more behind an owned row, with the frame that keeps other rows. -/
import Derived.Test.YtdoomfckdjjlaaaPush
namespace Go.Proofs.Ytdoomfckdjjlaaa
open Go.RowKit

theorem own_types_ne {w : World} {B B' : Nat} {e e' : TypeId} {v v' : Value} {n n' : Nat} {l l' : List Value} (h : w.ownsRow B e 1 v n l) (h' : w.ownsRow B' e' 1 v' n' l') (hne : e ≠ e') : ∀ k, v.ownBlock = some k → v'.ownBlock ≠ some k := by
  rcases h.2 with ⟨rfl, _⟩ | ⟨g, cap, cur, rfl, _, hh, _⟩
  · intro k hk; simp [Value.ownBlock] at hk
  · rcases h'.2 with ⟨rfl, _⟩ | ⟨g', cap', cur', rfl, _, hh', _⟩
    · intro k _; simp [Value.ownBlock]
    · intro k hk hk'
      have e1 : g = k := by simpa [Value.ownBlock] using hk
      have e2 : g' = k := by simpa [Value.ownBlock] using hk'
      subst e1; subst e2
      rw [hh] at hh'
      injection hh' with hh'
      injection hh' with _ ht
      exact hne ht

theorem wpList_pushS2 {wr : World} {ops : Array Oper} {rest : List Oper} {o : Oper} {a : Act} {Q : Exit → Act → World → Prop} (s x : Operand) (B : Nat) (b : ByteArray) (v : Value) (n : Nat) (acc : List ByteArray)
    (own : wr.ownsRow B 9 1 v n (acc.map strV)) (hB : B ≤ wr.heap.size) (hsz : n ≤ 4611686018427387904 / 1048576) (hgd : o.guard = none)
    (ho : o.op = .call { callee := .builtin .append, args := #[s, x], argTypes := #[31, 31] }) (hs : a.eval s = v) (H : Nat) (hH : wr.heap.size = H) (hx : a.eval x = .slice (some ⟨H, 0, none⟩) 1 1)
    (h : ∀ v' w', w'.ownsRow B 9 1 v' (n + 1) ((acc ++ [b]).map strV) → wr.grownBy w' v.ownBlock → Below B wr w' → wpList Try.prog ops Q rest (a.put o.dst v') w') :
    wpList Try.prog ops Q (o :: rest) a (wr.alloc (.cells #[.string b] 9 (0, 0))) := by
  subst hH
  obtain ⟨i0, hi, hz0, hz1, hz2⟩ := info_parts info_str
  have hal : Below wr.heap.size wr (wr.alloc (.cells #[.string b] 9 (0, 0))) := (Below.refl _ _).alloc (Nat.le_refl _) _
  refine wpList_append_row hgd s x _ ho B 9 i0 _ 16 Try.underlying31 hi hz0 hz1 hz2 rfl v n (acc.map strV) hs (own_below own hal) (some ⟨wr.heap.size, 0, none⟩) 1 1 ([b].map strV) hx (by intro e; cases e)
    (own_formn_row (own_new wr #[.string b] 9 1 rfl (by omega))) rfl (strs_one [b]) (by omega) (by omega) (by simp; omega) ?_
  intro v' w' o' g' _
  refine h v' w' ?_ ((World.grownBy_alloc _ _ _).trans g') ?_
  · rw [List.map_append]
    exact o'
  · exact (((Below.refl B wr).alloc hB _)).grown g' (by simp; omega) (fun q hq => (own_ge own q hq).1)
theorem wpList_pushB2 {wr : World} {ops : Array Oper} {rest : List Oper} {o : Oper} {a : Act} {Q : Exit → Act → World → Prop} (s x : Operand) (B : Nat) (b : UInt8) (v : Value) (n : Nat) (acc : List UInt8)
    (own : wr.ownsRow B 5 1 v n (acc.map byteV)) (hB : B ≤ wr.heap.size) (hsz : n ≤ 4611686018427387904 / 65536) (hgd : o.guard = none)
    (ho : o.op = .call { callee := .builtin .append, args := #[s, x], argTypes := #[22, 22] }) (hs : a.eval s = v) (H : Nat) (hH : wr.heap.size = H) (hx : a.eval x = .slice (some ⟨H, 0, none⟩) 1 1)
    (h : ∀ v' w', w'.ownsRow B 5 1 v' (n + 1) ((acc ++ [b]).map byteV) → wr.grownBy w' v.ownBlock → Below B wr w' → wpList Try.prog ops Q rest (a.put o.dst v') w') :
    wpList Try.prog ops Q (o :: rest) a (wr.alloc (.cells #[.int .u8 (b.toNat : Int)] 5 (0, 0))) := by
  subst hH
  obtain ⟨i0, hi, hz0, hz1, hz2⟩ := info_parts info_u8
  have hal : Below wr.heap.size wr (wr.alloc (.cells #[.int .u8 (b.toNat : Int)] 5 (0, 0))) := (Below.refl _ _).alloc (Nat.le_refl _) _
  refine wpList_append_row hgd s x _ ho B 5 i0 _ 1 Try.underlying22 hi hz0 hz1 hz2 rfl v n (acc.map byteV) hs (own_below own hal) (some ⟨wr.heap.size, 0, none⟩) 1 1 ([b].map byteV) hx (by intro e; cases e)
    (own_formn_row (own_new wr #[.int .u8 (b.toNat : Int)] 5 1 rfl (by omega))) rfl (bytes_one [b]) (by omega) (by omega) (by simp; omega) ?_
  intro v' w' o' g' _
  refine h v' w' ?_ ((World.grownBy_alloc _ _ _).trans g') ?_
  · rw [List.map_append]
    exact o'
  · exact (((Below.refl B wr).alloc hB _)).grown g' (by simp; omega) (fun q hq => (own_ge own q hq).1)
end Go.Proofs.Ytdoomfckdjjlaaa
