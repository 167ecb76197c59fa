/- Drawn sources, plainly: owned rows of sources whose rows of strings are owned too; one source more. -/
import Derived.Test.YtpplagecancccaaDoorSrc2
import Derived.Test.YtpplagecancccaaDoorReg
import Derived.Test.YtpplagecancccaaDoorPush2
import Derived.Maps.AppendAt
namespace Go.Proofs.YtpplagecancccaaDoor
open Go.RowKit

theorem own_keepFrom {H B : Nat} {w w' : World} {e : TypeId} {k n : Nat} {v : Value} {l : List Value} (hk : KeepFrom H w w') (h : w.ownsRow B e k v n l) (hB : H ≤ B) : w'.ownsRow B e k v n l := by
  obtain ⟨hl, h⟩ := h
  refine ⟨hl, ?_⟩
  rcases h with h | ⟨g, cap, cur, hv, hg, hh, rest⟩
  · exact .inl h
  · exact .inr ⟨g, cap, cur, hv, hg, hk g _ (by omega) hh, rest⟩
/-- A value is an owned slice of these strings. -/
def OwnS (w : World) (B : Nat) (v : Value) (F : List ByteArray) : Prop := w.ownsRow B 9 1 v F.length (F.map strV)
theorem OwnS.nil (w : World) (B : Nat) : OwnS w B (.slice none 0 0) [] := ⟨rfl, .inl ⟨rfl, rfl⟩⟩
theorem OwnS.new (w : World) (F : List ByteArray) (n : Nat) (hn : F.length = n) (hm : n ≤ 1000) (C : Array Value) (hC : C.toList = F.map strV) : OwnS (w.alloc (.cells C 9 (0, 0))) w.heap.size (.slice (some ⟨w.heap.size, 0, none⟩) n n) F := by
  subst hn
  have := ownN_new w C 9 1 F.length (by rw [← Array.length_toList, hC]; simp) (by omega)
  rwa [hC] at this
theorem OwnS.mono {w : World} {B B' : Nat} {v : Value} {F : List ByteArray} (h : OwnS w B v F) (hB : B' ≤ B) : OwnS w B' v F := ownN_mono h hB
theorem OwnS.keep {w w' : World} {H B : Nat} {v : Value} {F : List ByteArray} (h : OwnS w B v F) (hk : KeepFrom H w w') (hB : H ≤ B) : OwnS w' B v F := own_keepFrom hk h hB
theorem OwnS.R {w w' : World} {B R : Nat} {v : Value} {F : List ByteArray} (h : OwnS w B v F) (hg : w.grownBy w' (some R)) (hR : R < B) : OwnS w' B v F := ownN_R h hg hR
theorem OwnS.below {w w' : World} {B : Nat} {v : Value} {F : List ByteArray} (h : OwnS w B v F) (hb : Below w.heap.size w w') : OwnS w' B v F := ownN_below h hb
/-- A block of another type. -/
theorem OwnS.ne_block {w : World} {B g : Nat} {v : Value} {F : List ByteArray} {C : Array Value} (h : OwnS w B v F) (hg : w.heap[g]? = some (.cells C 40 (0, 0))) : v.ownBlock ≠ some g := by
  rcases h.2 with ⟨rfl, _⟩ | ⟨g', cap, cur, rfl, _, hh, _⟩
  · simp [Value.ownBlock]
  · intro e
    have e1 : g' = g := by simpa [Value.ownBlock] using e
    subst e1
    rw [hh] at hg
    injection hg with hg
    injection hg with _ ht
    exact absurd ht (by decide)
theorem OwnS.grown_src {w w' : World} {B nn : Nat} {v vo : Value} {F : List ByteArray} {B' : Nat} {L : List Value} (h : OwnS w B v F) (ho : w.ownsRow B' 40 2 vo nn L) (hg : w.grownBy w' vo.ownBlock) : OwnS w' B v F :=
  ownN_other h hg (fun _ hj e => ownN_types_ne h ho (by decide) _ hj e)
/-- A source within these bounds. -/
def SrcSm (s : Src) : Prop := s.K.size ≤ 10 ∧ s.F.length ≤ 4 ∧ ∀ t ∈ s.F, t.size ≤ 10
theorem SrcSm.ok {s : Src} (h : SrcSm s) : SrcOk 1048576 s := ⟨by have := h.1; omega, by have := h.2.1; omega, fun t ht => by have := h.2.2 t ht; omega⟩
/-- The cells of a row of sources hold these. -/
def SrcL (w : World) (B : Nat) : List (ByteArray × Value) → List Src → Prop
  | [], [] => True
  | p :: l, s :: S => (p.1 = s.K ∧ OwnS w B p.2 s.F) ∧ SrcL w B l S
  | _, _ => False
theorem SrcL.map {w w' : World} {B B' : Nat} (hk : ∀ v F, OwnS w B v F → OwnS w' B' v F) : ∀ (l : List (ByteArray × Value)) (S : List Src), SrcL w B l S → SrcL w' B' l S := by
  intro l
  induction l with
  | nil => intro S h; cases S with
    | nil => exact True.intro
    | cons s S => exact h
  | cons p l ih => intro S h; cases S with
    | nil => exact h
    | cons s S => exact ⟨⟨h.1.1, hk _ _ h.1.2⟩, ih S h.2⟩
theorem SrcL.snoc {w : World} {B : Nat} {K : ByteArray} {v : Value} {F : List ByteArray} (ho : OwnS w B v F) : ∀ (l : List (ByteArray × Value)) (S : List Src), SrcL w B l S → SrcL w B (l ++ [(K, v)]) (S ++ [⟨K, F⟩]) := by
  intro l
  induction l with
  | nil => intro S h; cases S with
    | nil => exact ⟨⟨rfl, ho⟩, True.intro⟩
    | cons s S => exact h.elim
  | cons p l ih => intro S h; cases S with
    | nil => exact h.elim
    | cons s S => exact ⟨h.1, ih S h.2⟩
theorem SrcL.len {w : World} {B : Nat} : ∀ (l : List (ByteArray × Value)) (S : List Src), SrcL w B l S → l.length = S.length := by
  intro l
  induction l with
  | nil => intro S h; cases S with
    | nil => rfl
    | cons s S => exact h.elim
  | cons p l ih => intro S h; cases S with
    | nil => exact h.elim
    | cons s S => simp [ih S h.2]
theorem SrcL.get {w : World} {B : Nat} : ∀ (l : List (ByteArray × Value)) (S : List Src), SrcL w B l S → ∀ i (h : i < S.length) (h' : i < l.length), l[i].1 = S[i].K ∧ OwnS w B l[i].2 S[i].F := by
  intro l
  induction l with
  | nil => intro S h i h1 h2; simp at h2
  | cons p l ih => intro S h; cases S with
    | nil => exact h.elim
    | cons s S =>
      intro i h1 h2
      rcases i with _ | i
      · exact h.1
      · exact ih S h.2 i (by simpa using h1) (by simpa using h2)
theorem sl_own {w : World} {B : Nat} {v : Value} {F : List ByteArray} (h : OwnS w B v F) : SlS w B v F := SlS.of_own h rfl
/-- An owned row of sources, as the walks of the functions want it. -/
theorem srcs_own {w : World} {B nn : Nat} {v : Value} {l : List (ByteArray × Value)} {S : List Src} (ho : w.ownsRow B 40 2 v nn (prC l)) (hl : SrcL w B l S) (hn : S.length = nn) : ∃ a c, v = .slice a nn c ∧ nn ≤ c ∧ c ≤ 9223372036854775807 ∧ SrcsAt w B a S := by
  obtain ⟨a, c, rfl, hr, hc, hc', _, hB⟩ := ownN_formn ho
  refine ⟨a, c, rfl, hc, hc', fun i hi => ?_⟩
  have hll := SrcL.len l S hl
  have hil : i < l.length := by omega
  obtain ⟨g0, g1⟩ := prC_get l i hil
  have hpl := prC_len l
  obtain ⟨b, off, rfl, hlt, h0⟩ := hr (i * 2) (by omega)
  obtain ⟨b', off', e, _, h1⟩ := hr (i * 2 + 1) (by omega)
  injection e with e
  injection e with e1 e2
  subst e1; subst e2
  obtain ⟨q0, q1⟩ := SrcL.get l S hl i hi hil
  rw [List.getElem?_eq_getElem (by omega)] at g0 g1
  injection g0 with g0
  injection g1 with g1
  refine ⟨b, off, l[i].2, rfl, hlt, ?_, ?_, sl_own q1⟩
  · rw [h0, g0, q0]
  · rw [Nat.add_assoc, h1, g1]
theorem own_at0 {w : World} {B k n : Nat} {e : TypeId} {v : Value} {l : List Value} (h : w.ownsRow B e k v n l) (hn : 0 < n) : ∃ g c, v = .slice (some ⟨g, 0, none⟩) n c ∧ B ≤ g ∧ g < w.heap.size := by
  rcases h.2 with ⟨_, h0⟩ | ⟨g, cap, cur, hv, hB, hg, _⟩
  · omega
  · exact ⟨g, cap, hv, hB, (Array.getElem?_eq_some_iff.1 hg).1⟩
theorem prC_app (a b : List (ByteArray × Value)) : prC (a ++ b) = prC a ++ prC b := by simp [prC]
theorem prC_one (K : ByteArray) {w : World} {B : Nat} {v : Value} {F : List ByteArray} (h : OwnS w B v F) : ∀ u ∈ prC [(K, v)], u.oneCell' = true := by
  obtain ⟨a, c, rfl, _⟩ := ownN_formn h
  intro u hu
  simp only [prC, List.flatMap_cons, List.flatMap_nil, List.append_nil, List.mem_cons, List.not_mem_nil, or_false] at hu
  rcases hu with rfl | rfl <;> rfl
theorem prC_cells {w : World} {H : Nat} {K : ByteArray} {v : Value} (h : w.heap[H]? = some (.cells #[.string K, v] 40 (0, 0))) : ∀ j u, (prC [(K, v)])[j]? = some u → w.cell? ((⟨H, 0, none⟩ : Addr).add j) = some u := by
  intro j u hu
  have e : (⟨H, 0, none⟩ : Addr).add j = ⟨H, j, none⟩ := by unfold Addr.add; split <;> simp_all
  rw [e, cell_of_row w H j _ _ _ h, ← hu]
  rcases j with _ | _ | j <;> rfl
/-- An append, where an operation stands alone. -/
theorem oper_push {P : Program} {o : Oper} {a : Act} {w : World} {K : Act → World → Prop} {Q : Exit → Act → World → Prop} (s x : Operand) (t : TypeId)
    (ho : o.op = .call { callee := .builtin .append, args := #[s, x], argTypes := #[t, t] })
    (base : Nat) (e : TypeId) (i : TypeInfo) (z : Value) (size bytes : Nat) (ht : P.underlying t = some (.slice e)) (hi : P.info? e = some i) (hz : i.zero = some z)
    (hsize : i.size = size) (hby : i.bytes = bytes) (hzs : z.cells.size = size) (hsz : 0 < size)
    (v : Value) (n : Nat) (xs : List Value) (hs : a.eval s = v) (hown : w.ownsRow base e size v n xs)
    (ad : Addr) (m c : Nat) (news : List Value) (hx : a.eval x = .slice (some ad) m c) (hl : news.length = m * size) (hnews : ∀ j u, news[j]? = some u → w.cell? (ad.add j) = some u) (h1 : ∀ u ∈ news, u.oneCell' = true)
    (h63 : n + m ≤ maxLen) (hbytes : (n + m) * bytes ≤ 140737488355328) (hbase : base ≤ w.heap.size)
    (h : ∀ v' w', w'.ownsRow base e size v' (n + m) (xs ++ news) → w.grownBy w' v.ownBlock → K (a.put o.dst v') w') : o.wp P a w K Q := by
  obtain ⟨v', w', hr, h2, h3, _, _⟩ := run_append_own_at (P := P) w base t o.type e i z size bytes ht hi hz hsize hby hzs hsz v n xs hown ad m c news hl hnews h1 h63 hbytes hbase
  unfold Oper.wp execOp
  simp only [ho, resolve, invoke, builtin, Sem.run_bind, Sem.run_pure, Result.andThen_ok, List.map_toArray, List.map_cons, List.map_nil, hs, hx, hr]
  exact h v' w' h2 h3
theorem oper_pushStr {o : Oper} {a : Act} {w : World} {K : Act → World → Prop} {Q : Exit → Act → World → Prop} (s x : Operand) (B : Nat) (v : Value) (n : Nat) (acc : List ByteArray) (b : ByteArray)
    (own : w.ownsRow B 9 1 v n (acc.map strV)) (hB : B ≤ w.heap.size) (hn : n ≤ 1000) (H : Nat) (hc : w.heap[H]? = some (.cells #[.string b] 9 (0, 0)))
    (ho : o.op = .call { callee := .builtin .append, args := #[s, x], argTypes := #[38, 38] }) (hs : a.eval s = v) (hx : a.eval x = .slice (some ⟨H, 0, none⟩) 1 1)
    (h : ∀ v' w', w'.ownsRow B 9 1 v' (n + 1) ((acc ++ [b]).map strV) → w.grownBy w' v.ownBlock → K (a.put o.dst v') w') : o.wp Tryd.prog a w K Q := by
  obtain ⟨i0, hi, hz0, hz1, hz2⟩ := info_parts info_str
  refine oper_push s x _ ho B 9 i0 _ 1 16 Tryd.underlying38 hi hz0 hz1 hz2 rfl (by omega) v n (acc.map strV) hs own ⟨H, 0, none⟩ 1 1 [.string b] hx rfl (fun j u hu => ?_) (strs_one [b]) (by simp only [maxLen]; omega) (by omega) hB ?_
  · have e : (⟨H, 0, none⟩ : Addr).add j = ⟨H, j, none⟩ := by unfold Addr.add; split <;> simp_all
    rw [e, cell_of_row w H j _ _ _ hc, ← hu]
    rcases j with _ | j <;> rfl
  · intro v' w' o' g'
    exact h v' w' (by rw [List.map_append]; exact o') g'
theorem oper_pushSrc {o : Oper} {a : Act} {w : World} {K : Act → World → Prop} {Q : Exit → Act → World → Prop} (s x : Operand) (B : Nat) (v : Value) (n : Nat) (l : List (ByteArray × Value)) (k : ByteArray) (u : Value) (F : List ByteArray) (B' : Nat) (hu : OwnS w B' u F)
    (own : w.ownsRow B 40 2 v n (prC l)) (hB : B ≤ w.heap.size) (hn : n ≤ 1000) (H : Nat) (hc : w.heap[H]? = some (.cells #[.string k, u] 40 (0, 0)))
    (ho : o.op = .call { callee := .builtin .append, args := #[s, x], argTypes := #[23, 23] }) (hs : a.eval s = v) (hx : a.eval x = .slice (some ⟨H, 0, none⟩) 1 1)
    (h : ∀ v' w', w'.ownsRow B 40 2 v' (n + 1) (prC (l ++ [(k, u)])) → w.grownBy w' v.ownBlock → K (a.put o.dst v') w') : o.wp Tryd.prog a w K Q := by
  obtain ⟨i0, hi, hz0, hz1, hz2⟩ := info_parts info_src2
  refine oper_push s x _ ho B 40 i0 _ 2 40 Tryd.underlying23 hi hz0 hz1 hz2 rfl (by omega) v n (prC l) hs own ⟨H, 0, none⟩ 1 1 (prC [(k, u)]) hx rfl (prC_cells hc) (prC_one k hu) (by simp only [maxLen]; omega) (by omega) hB ?_
  intro v' w' o' g'
  exact h v' w' (by rw [prC_app]; exact o') g'
theorem wpList_oper {P : Program} {ops : Array Oper} {rest : List Oper} {o : Oper} {a : Act} {w : World} {Q : Exit → Act → World → Prop} (hw : Region.wanted o (yielded ops a.tmps) = true) (h : o.wp P a w (wpList P ops Q rest) Q) : wpList P ops Q (o :: rest) a w := by
  unfold wpList
  rw [if_pos hw]
  exact .inl h
/-- One source more behind an owned row of sources. -/
theorem wpList_pushSrc {wr : World} {ops : Array Oper} {rest : List Oper} {o : Oper} {a : Act} {Q : Exit → Act → World → Prop} (s x : Operand) (B : Nat) (k : ByteArray) (u : Value) (F : List ByteArray) (B' : Nat) (v : Value) (n : Nat) (l : List (ByteArray × Value)) (hu : OwnS wr B' u F)
    (own : wr.ownsRow B 40 2 v n (prC l)) (hB : B ≤ wr.heap.size) (hsz : n ≤ 1000) (hgd : o.guard = none)
    (ho : o.op = .call { callee := .builtin .append, args := #[s, x], argTypes := #[23, 23] }) (hs : a.eval s = v) (H : Nat) (hH : wr.heap.size = H) (hx : a.eval x = .slice (some ⟨H, 0, none⟩) 1 1)
    (h : ∀ v' w', w'.ownsRow B 40 2 v' (n + 1) (prC (l ++ [(k, u)])) → wr.grownBy w' v.ownBlock → wpList Tryd.prog ops Q rest (a.put o.dst v') w') :
    wpList Tryd.prog ops Q (o :: rest) a (wr.alloc (.cells #[.string k, u] 40 (0, 0))) := by
  subst hH
  have hal : Below wr.heap.size wr (wr.alloc (.cells #[.string k, u] 40 (0, 0))) := (Below.refl _ _).alloc (Nat.le_refl _) _
  refine wpList_plain hgd fun K hK => ?_
  refine oper_pushSrc s x B v n l k u F B' (hu.below hal) (ownN_below own hal) (by simp; omega) hsz wr.heap.size (heap_alloc_new _ _) ho hs hx ?_
  intro v' w' o' g'
  exact hK _ _ (h v' w' o' ((World.grownBy_alloc _ _ _).trans g'))
end Go.Proofs.YtpplagecancccaaDoor
