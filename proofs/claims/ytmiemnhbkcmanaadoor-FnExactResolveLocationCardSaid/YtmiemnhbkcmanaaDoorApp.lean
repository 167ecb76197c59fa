/- append onto an owned row of one-cell values, from whatever row that can be read. -/
import Derived.Test.YtmiemnhbkcmanaaDoorOwn
import Derived.Maps.AppendAt
import Derived.Laws.AppendOwnNone
namespace Go.Proofs.YtmiemnhbkcmanaaDoor
open Go.RowKit

theorem row_none {w : World} {l : List Value} (h : RowAt w none l) : l = [] := by
  rcases l with _ | ⟨x, l⟩
  · rfl
  · obtain ⟨b, off, ha, _⟩ := h 0 (by simp)
    cases ha

theorem row_cells {w : World} {ad : Addr} {l : List Value} (h : RowAt w (some ad) l) : ∀ j u, l[j]? = some u → w.cell? (ad.add j) = some u := by
  intro j u hu
  obtain ⟨hj, rfl⟩ := List.getElem?_eq_some_iff.1 hu
  obtain ⟨b, off, ha, _, hc⟩ := h j hj
  injection ha with ha
  subst ha
  have e : (⟨b, off, none⟩ : Addr).add j = ⟨b, off + j, none⟩ := by unfold Addr.add; split <;> simp_all
  rw [e, hc]

theorem wpList_append_row {P : Program} {w : World} {ops : Array Oper} {rest : List Oper} {o : Oper} {a : Act} {Q : Exit → Act → World → Prop} (hgd : o.guard = none) (s x : Operand) (t : TypeId)
    (ho : o.op = .call { callee := .builtin .append, args := #[s, x], argTypes := #[t, t] })
    (base : Nat) (e : TypeId) (i : TypeInfo) (z : Value) (bytes : Nat) (ht : P.underlying t = some (.slice e)) (hi : P.info? e = some i) (hz : i.zero = some z) (hsize : i.size = 1) (hby : i.bytes = bytes) (hzs : z.cells.size = 1)
    (v : Value) (n : Nat) (xs : List Value) (hs : a.eval s = v) (hown : w.ownsRow base e 1 v n xs)
    (ad : Option Addr) (m c : Nat) (news : List Value) (hx : a.eval x = .slice ad m c) (hn0 : ad = none → c = 0) (hr : RowAt w ad news) (hm : news.length = m) (h1 : ∀ u ∈ news, u.oneCell' = true)
    (h63 : n + m ≤ 9223372036854775807) (hbytes : (n + m) * bytes ≤ 140737488355328) (hbase : base ≤ w.heap.size)
    (h : ∀ v' w', w'.ownsRow base e 1 v' (n + m) (xs ++ news) → w.grownBy w' v.ownBlock → (v'.ownBlock = v.ownBlock ∨ v'.ownBlock = some w.heap.size) → wpList P ops Q rest (a.put o.dst v') w') : wpList P ops Q (o :: rest) a w := by
  rcases ad with _ | ad
  · have hnil := row_none hr
    subst hnil
    have hc := hn0 rfl
    subst hc
    have hm0 : m = 0 := by simpa using hm.symm
    subst hm0
    exact wpList_append_own_none hgd s x t ho base e i 1 ht hi v n xs hs hown hx (h v w (by simpa using hown) (World.grownBy.refl w _) (.inl rfl))
  · refine wpList_append_own_at w hgd s x t ho base e i z 1 bytes ht hi hz hsize hby hzs (by omega) v n xs hs hown ad m c news hx (by omega) (row_cells hr) h1 (by simpa [maxLen] using h63) hbytes hbase ?_
    intro v' w' h2 h3 _ h4
    exact h v' w' h2 h3 h4
theorem own_none {w : World} {B : Nat} {e : TypeId} {n m c : Nat} {l : List Value} (h : w.ownsRow B e 1 (.slice none m c) n l) : c = 0 := by
  obtain ⟨hl, h⟩ := h
  rcases h with ⟨hv, _⟩ | ⟨g, cap, cur, hv, _⟩
  · injection hv
  · cases hv

end Go.Proofs.YtmiemnhbkcmanaaDoor
