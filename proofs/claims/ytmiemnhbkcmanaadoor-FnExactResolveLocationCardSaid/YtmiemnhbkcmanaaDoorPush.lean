/- One element more behind an owned row, at a step of a region that draws its order: bytes and strings. -/
import Derived.Test.YtmiemnhbkcmanaaDoorStrs
import Derived.RegionTactic
import Derived.OwnWalk
namespace Go.Proofs.YtmiemnhbkcmanaaDoor
open Go.RowKit

theorem cell_new1 (w : World) (x : Value) (t : TypeId) : (w.alloc (.cells #[x] t (0, 0))).cell? ⟨w.heap.size, 0, none⟩ = some x := (World.cell?_alloc_mark _ _ _ _ _).trans rfl
section
variable {P : Program}
theorem run_push1 (w : World) (base : Nat) (t ty e : TypeId) (i : TypeInfo) (z : Value) (bytes : Nat) (ht : P.underlying t = some (.slice e)) (hi : P.info? e = some i) (hz : i.zero = some z) (hsize : i.size = 1) (hby : i.bytes = bytes) (hzs : z.cells.size = 1)
    (v : Value) (n : Nat) (xs : List Value) (hown : w.ownsRow base e 1 v n xs) (H c : Nat) (x : Value) (hc : w.cell? ⟨H, 0, none⟩ = some x) (h1 : x.oneCell' = true) (h63 : n + 1 ≤ 9223372036854775807) (hbytes : (n + 1) * bytes ≤ 140737488355328) (hbase : base ≤ w.heap.size) :
    ∃ v' w', (Builtin.append_ #[t, t] ty #[v, .slice (some ⟨H, 0, none⟩) 1 c]).run P w = .ok v' w' ∧ w'.ownsRow base e 1 v' (n + 1) (xs ++ [x]) ∧ w.grownBy w' v.ownBlock := by
  obtain ⟨v', w', hr, h2, h3, _, _⟩ := run_append_own_at (P := P) w base t ty e i z 1 bytes ht hi hz hsize hby hzs (by omega) v n xs hown ⟨H, 0, none⟩ 1 c [x] rfl (fun j u hu => by
    rcases j with _ | j
    · simp at hu; subst hu; exact hc
    · simp at hu) (fun u hu => by simp at hu; subst hu; exact h1) (by simpa [maxLen] using h63) hbytes hbase
  exact ⟨v', w', hr, h2, h3⟩

theorem step_push1 (w : World) {ops : Array Oper} {o : Oper} {a : Act} {K : Act → World → Prop} {Q : Exit → Act → World → Prop} {E : Prop} (hgd : o.guard = none) (s x : Operand) (t : TypeId)
    (ho : o.op = .call { callee := .builtin .append, args := #[s, x], argTypes := #[t, t] })
    (base : Nat) (e : TypeId) (i : TypeInfo) (z : Value) (bytes : Nat) (ht : P.underlying t = some (.slice e)) (hi : P.info? e = some i) (hz : i.zero = some z) (hsize : i.size = 1) (hby : i.bytes = bytes) (hzs : z.cells.size = 1)
    (v : Value) (n : Nat) (xs : List Value) (hs : a.eval s = v) (hown : w.ownsRow base e 1 v n xs) (H c : Nat) (y : Value) (hx : a.eval x = .slice (some ⟨H, 0, none⟩) 1 c) (hc : w.cell? ⟨H, 0, none⟩ = some y) (h1 : y.oneCell' = true)
    (h63 : n + 1 ≤ 9223372036854775807) (hbytes : (n + 1) * bytes ≤ 140737488355328) (hbase : base ≤ w.heap.size)
    (h : ∀ v' w', w'.ownsRow base e 1 v' (n + 1) (xs ++ [y]) → w.grownBy w' v.ownBlock → K (a.put o.dst v') w') :
    if Region.wanted o (yielded ops a.tmps) = true then Oper.wp P o a w K Q else E := by
  have hw : Region.wanted o (yielded ops a.tmps) = true := by simp [Region.wanted, hgd]
  rw [if_pos hw]
  obtain ⟨v', w', hrun, h2, h3⟩ := run_push1 (P := P) w base t o.type e i z bytes ht hi hz hsize hby hzs v n xs hown H c y hc h1 h63 hbytes hbase
  unfold Oper.wp execOp
  simp only [ho, resolve, invoke, builtin, Sem.run_bind, Sem.run_pure, Result.andThen_ok, List.map_toArray, List.map_cons, List.map_nil, hs, hx, hrun]
  exact h v' w' h2 h3
end

theorem step_pushB (w : World) {ops : Array Oper} {o : Oper} {a : Act} {K : Act → World → Prop} {Q : Exit → Act → World → Prop} {E : Prop} (s x : Operand) (B : Nat) (b : UInt8) (v : Value) (n : Nat) (acc : List UInt8) (own : w.ownsRow B 5 1 v n (acc.map byteV)) (hB : B ≤ w.heap.size) (hn : n ≤ 70368744177664)
    (H c : Nat) (hc : w.cell? ⟨H, 0, none⟩ = some (.int .u8 (b.toNat : Int))) (hgd : o.guard = none) (ho : o.op = .call { callee := .builtin .append, args := #[s, x], argTypes := #[68, 68] }) (hs : a.eval s = v) (hx : a.eval x = .slice (some ⟨H, 0, none⟩) 1 c)
    (h : ∀ v' w', w'.ownsRow B 5 1 v' (n + 1) ((acc ++ [b]).map byteV) → w.grownBy w' v.ownBlock → K (a.put o.dst v') w') :
    if Region.wanted o (yielded ops a.tmps) = true then Oper.wp Tryd.prog o a w K Q else E := by
  obtain ⟨i0, hi, hz0, hz1, hz2⟩ := info_parts info_u8
  refine step_push1 w hgd s x _ ho B 5 i0 _ 1 Tryd.underlying68 hi hz0 hz1 hz2 rfl v n (acc.map byteV) hs own H c _ hx hc rfl (by omega) (by omega) hB ?_
  intro v' w' o' g'
  exact h v' w' (by rw [List.map_append]; exact o') g'

theorem step_pushS (w : World) {ops : Array Oper} {o : Oper} {a : Act} {K : Act → World → Prop} {Q : Exit → Act → World → Prop} {E : Prop} (s x : Operand) (B : Nat) (b : ByteArray) (v : Value) (n : Nat) (acc : List ByteArray) (own : w.ownsRow B 9 1 v n (acc.map strV)) (hB : B ≤ w.heap.size) (hn : n ≤ 4398046511104)
    (H c : Nat) (hc : w.cell? ⟨H, 0, none⟩ = some (.string b)) (hgd : o.guard = none) (ho : o.op = .call { callee := .builtin .append, args := #[s, x], argTypes := #[22, 22] }) (hs : a.eval s = v) (hx : a.eval x = .slice (some ⟨H, 0, none⟩) 1 c)
    (h : ∀ v' w', w'.ownsRow B 9 1 v' (n + 1) ((acc ++ [b]).map strV) → w.grownBy w' v.ownBlock → K (a.put o.dst v') w') :
    if Region.wanted o (yielded ops a.tmps) = true then Oper.wp Tryd.prog o a w K Q else E := by
  obtain ⟨i0, hi, hz0, hz1, hz2⟩ := info_parts info_str
  refine step_push1 w hgd s x _ ho B 9 i0 _ 16 Tryd.underlying22 hi hz0 hz1 hz2 rfl v n (acc.map strV) hs own H c _ hx hc rfl (by omega) (by omega) hB ?_
  intro v' w' o' g'
  exact h v' w' (by rw [List.map_append]; exact o') g'
end Go.Proofs.YtmiemnhbkcmanaaDoor
