/- Rows of sources whose strings lie in blocks of their own, one behind the other; strings.Split by a byte and by "; ". -/
import Derived.Test.YtpplagecancccaaDoorRdReg
namespace Go.Proofs.YtpplagecancccaaDoor
open Go.RowKit

/-- The blocks of strings are as they were. -/
def KeepStr (w w' : World) : Prop := ∀ (b : Nat) (cur : Array Value), w.heap[b]? = some (.cells cur 9 (0, 0)) → w'.heap[b]? = some (.cells cur 9 (0, 0))
theorem KeepStr.trans {w w' w2 : World} (h : KeepStr w w') (h2 : KeepStr w' w2) : KeepStr w w2 := fun b cur hb => h2 b cur (h b cur hb)
theorem KeepStr.of_below {w w' : World} (h : Below w.heap.size w w') : KeepStr w w' := fun b _ hb => (h.block b (Array.getElem?_eq_some_iff.1 hb).1).trans hb
theorem KeepStr.of_src {w w' : World} {B nn : Nat} {vo : Value} {L : List Value} (ho : w.ownsRow B 40 2 vo nn L) (hg : w.grownBy w' vo.ownBlock) : KeepStr w w' := fun b cur hb => by
  refine (hg.block b (Array.getElem?_eq_some_iff.1 hb).1 (fun e => ?_)).trans hb
  rcases ho.2 with ⟨rfl, _⟩ | ⟨g', cap, cur', rfl, _, hh, _⟩
  · simp [Value.ownBlock] at e
  · have e1 : b = g' := by simpa [Value.ownBlock] using e
    subst e1
    rw [hh] at hb
    injection hb with hb
    injection hb with _ ht
    exact absurd ht (by decide)
/-- A value is a slice of these strings, in a block of its own from B on. -/
def SubS (w : World) (B b : Nat) (v : Value) (F : List ByteArray) : Prop :=
  ∃ (o c : Nat) (cur : Array Value), v = .slice (some ⟨b, o, none⟩) F.length c ∧ B ≤ b ∧ w.heap[b]? = some (.cells cur 9 (0, 0)) ∧ (∀ i (h : i < F.length), cur[o + i]? = some (.string F[i])) ∧ F.length ≤ c ∧ c ≤ 9223372036854775807
theorem SubS.keep {w w' : World} {B b : Nat} {v : Value} {F : List ByteArray} (h : SubS w B b v F) (hk : KeepStr w w') : SubS w' B b v F := by
  obtain ⟨o, c, cur, h1, h2, h3, h4⟩ := h
  exact ⟨o, c, cur, h1, h2, hk _ _ h3, h4⟩
theorem SubS.sl {w : World} {B b : Nat} {v : Value} {F : List ByteArray} (h : SubS w B b v F) : SlS w B v F := by
  obtain ⟨o, c, cur, h1, h2, h3, h4, h5, h6⟩ := h
  refine ⟨some ⟨b, o, none⟩, c, h1, fun i hi => ⟨b, o, rfl, (Array.getElem?_eq_some_iff.1 h3).1, ?_⟩, h5, h6, fun x e => by injection e with e; subst e; exact h2⟩
  have hi' : i < F.length := by simpa using hi
  rw [cell_of_row w b (o + i) _ _ _ h3, h4 i hi', List.getElem_map]
  rfl
/-- The cells of a row of sources hold these; each one's strings lie behind those of the one before. -/
def SrcD (w : World) : Nat → List (ByteArray × Value) → List Src → Prop
  | _, [], [] => True
  | B, p :: l, s :: S => p.1 = s.K ∧ ∃ b, SubS w B b p.2 s.F ∧ SrcD w (b + 1) l S
  | _, _, _ => False
theorem SrcD.keep {w w' : World} (hk : KeepStr w w') : ∀ (l : List (ByteArray × Value)) (S : List Src) (B : Nat), SrcD w B l S → SrcD w' B l S := by
  intro l
  induction l with
  | nil => intro S B h; cases S with
    | nil => exact True.intro
    | cons s S => exact h
  | cons p l ih => intro S B h; cases S with
    | nil => exact h
    | cons s S =>
      obtain ⟨h1, b, h2, h3⟩ := h
      exact ⟨h1, b, h2.keep hk, ih S _ h3⟩
theorem SrcD.mono {w : World} : ∀ (l : List (ByteArray × Value)) (S : List Src) (B B' : Nat), B' ≤ B → SrcD w B l S → SrcD w B' l S := by
  intro l
  cases l with
  | nil => intro S B B' _ h; cases S with
    | nil => exact True.intro
    | cons s S => exact h
  | cons p l => intro S B B' hB h; cases S with
    | nil => exact h
    | cons s S =>
      obtain ⟨h1, b, ⟨o, c, cur, g1, g2, g3⟩, h3⟩ := h
      exact ⟨h1, b, ⟨o, c, cur, g1, Nat.le_trans hB g2, g3⟩, h3⟩
theorem SrcD.snoc {w w' : World} {K : ByteArray} {v : Value} {F : List ByteArray} {b : Nat} (hk : KeepStr w w') (hv : SubS w' w.heap.size b v F) : ∀ (l : List (ByteArray × Value)) (S : List Src) (B : Nat), B ≤ w.heap.size → SrcD w B l S → SrcD w' B (l ++ [(K, v)]) (S ++ [⟨K, F⟩]) := by
  intro l
  induction l with
  | nil => intro S B hB h; cases S with
    | nil =>
      obtain ⟨o, c, cur, g1, g2, g3⟩ := hv
      exact ⟨rfl, b, ⟨o, c, cur, g1, Nat.le_trans hB g2, g3⟩, True.intro⟩
    | cons s S => exact h.elim
  | cons p l ih => intro S B hB h; cases S with
    | nil => exact h.elim
    | cons s S =>
      obtain ⟨h1, b', h2, h3⟩ := h
      have hb : b' < w.heap.size := by
        obtain ⟨o, c, cur, g1, g2, g3, _⟩ := h2
        exact (Array.getElem?_eq_some_iff.1 g3).1
      exact ⟨h1, b', h2.keep hk, ih S (b' + 1) hb h3⟩
theorem SrcD.len {w : World} : ∀ (l : List (ByteArray × Value)) (S : List Src) (B : Nat), SrcD w B l S → l.length = S.length := by
  intro l
  induction l with
  | nil => intro S B h; cases S with
    | nil => rfl
    | cons s S => exact h.elim
  | cons p l ih => intro S B h; cases S with
    | nil => exact h.elim
    | cons s S => obtain ⟨_, b, _, h3⟩ := h; simp [ih S _ h3]
theorem SrcD.get {w : World} : ∀ (l : List (ByteArray × Value)) (S : List Src) (B : Nat), SrcD w B l S → ∀ i (h : i < S.length) (h' : i < l.length), l[i].1 = S[i].K ∧ ∃ b, SubS w B b l[i].2 S[i].F := by
  intro l
  induction l with
  | nil => intro S B h i h1 h2; simp at h2
  | cons p l ih => intro S B h; cases S with
    | nil => exact h.elim
    | cons s S =>
      obtain ⟨g1, b, g2, g3⟩ := h
      intro i h1 h2
      rcases i with _ | i
      · exact ⟨g1, b, g2⟩
      · obtain ⟨e1, b', o, c, cur, k1, k2, k3⟩ := ih S _ g3 i (by simpa using h1) (by simpa using h2)
        have hBb : B ≤ b := by obtain ⟨_, _, _, _, q, _⟩ := g2; exact q
        exact ⟨e1, b', o, c, cur, k1, by omega, k3⟩
theorem srcs_ownD {w : World} {B B' nn : Nat} {v : Value} {l : List (ByteArray × Value)} {S : List Src} (ho : w.ownsRow B' 40 2 v nn (prC l)) (hl : SrcD w B l S) (hn : S.length = nn) : ∃ a c, v = .slice a nn c ∧ nn ≤ c ∧ c ≤ 9223372036854775807 ∧ SrcsAt w B a S := by
  obtain ⟨a, c, rfl, hr, hc, hc', _, _⟩ := ownN_formn ho
  refine ⟨a, c, rfl, hc, hc', fun i hi => ?_⟩
  have hll := SrcD.len l S _ hl
  have hil : i < l.length := by omega
  obtain ⟨g0, g1⟩ := prC_get l i hil
  have hpl := prC_len l
  obtain ⟨b, off, rfl, hlt, h0⟩ := hr (i * 2) (by omega)
  obtain ⟨b', off', e, _, h1⟩ := hr (i * 2 + 1) (by omega)
  injection e with e
  injection e with e1 e2
  subst e1; subst e2
  obtain ⟨q0, bq, q1⟩ := SrcD.get l S _ hl i hi hil
  rw [List.getElem?_eq_getElem (by omega)] at g0 g1
  injection g0 with g0
  injection g1 with g1
  refine ⟨b, off, l[i].2, rfl, hlt, ?_, ?_, q1.sl⟩
  · rw [h0, g0, q0]
  · rw [Nat.add_assoc, h1, g1]
/-- The words of a literal row without the first. -/
theorem sub_tail {w : World} {b n c : Nat} {W : List ByteArray} {cur : Array Value} {fa : Option Addr} {fn fc : Nat} (hT : tail1 b n c = .slice fa fn fc) (hn : W.length = n) (h1 : 1 ≤ n) (hc : n ≤ c) (hc' : c ≤ 9223372036854775807) (hh : w.heap[b]? = some (.cells cur 9 (0, 0))) (hcur : ∀ i (h : i < W.length), cur[i]? = some (.string W[i])) : SubS w b b (.slice fa fn fc) W.tail := by
  have htl : W.tail.length = n - 1 := by rw [List.length_tail, hn]
  unfold tail1 at hT
  by_cases hc1 : c = 1
  · rw [if_pos hc1] at hT
    injection hT with e1 e2 e3
    subst e1; subst e2; subst e3
    refine ⟨0, 0, cur, by rw [htl], Nat.le_refl _, hh, fun i hi => by omega, by omega, by omega⟩
  · rw [if_neg hc1] at hT
    injection hT with e1 e2 e3
    subst e1; subst e2; subst e3
    refine ⟨1, c - 1, cur, by rw [htl], Nat.le_refl _, hh, fun i hi => ?_, by omega, by omega⟩
    rw [Nat.add_comm, hcur (i + 1) (by omega), List.getElem_tail]
theorem splitB_mkS (s sep : ByteArray) : Lib.splitB sep 0 (Lib.countB s sep) s = (Lib.splitK (bl sep) 0 (Lib.count (bl s) (bl sep)) (bl s)).map mkS := by
  have hd := Lib.splitB_data sep 0 (Lib.countB s sep) s
  have : (Lib.splitK (bl sep) 0 (Lib.count (bl s) (bl sep)) (bl s)) = (Lib.splitB sep 0 (Lib.countB s sep) s).map bl := hd.symm
  rw [this, map_mkS_bl]
def strArr (L : List (List UInt8)) : Array Value := ((L.map mkS).map strV).toArray
theorem strArr_size (L : List (List UInt8)) : (strArr L).size = L.length := by simp [strArr]
theorem strArr_get (L : List (List UInt8)) (i : Nat) (h : i < (L.map mkS).length) : (strArr L)[i]? = some (.string (L.map mkS)[i]) := by
  unfold strArr
  rw [List.getElem?_toArray, List.getElem?_map, List.getElem?_eq_getElem h]
  rfl
theorem split_at (s : ByteArray) (c : UInt8) (w : World) (hm : MaxOk w) (hs : s.size ≤ 1048576) :
    Calls Tryd.prog 26 #[.string s, .string ⟨#[c]⟩] w fun e w' => e = .returned (.slice (some ⟨w.heap.size, 0, none⟩) (cutAt c (bl s)).length (cutAt c (bl s)).length) ∧ w' = w.alloc (.cells (strArr (cutAt c (bl s))) 9 (0, 0)) := by
  obtain ⟨m, hm⟩ := hm
  refine (Tryd.strings_Split s ⟨#[c]⟩ m w (by omega) hm (Nat.le_refl 1)).mono ?_
  rintro e w' ⟨rfl, rfl⟩
  have hl := Lib.splitB_all ⟨#[c]⟩ (Nat.le_refl 1) 0 _ s rfl
  have e2 : (Lib.splitB ⟨#[c]⟩ 0 (Lib.countB s ⟨#[c]⟩) s) = (cutAt c (bl s)).map mkS := by
    rw [splitB_mkS, ← split_one c (bl s)]; rfl
  have e3 : (cutAt c (bl s)).length = Lib.countB s ⟨#[c]⟩ + 1 := by rw [← hl, e2, List.length_map]
  rw [e2, ← e3]
  exact ⟨rfl, rfl⟩
theorem split2_at (s : ByteArray) (w : World) (hm : MaxOk w) (hs : s.size ≤ 1048576) :
    Calls Tryd.prog 26 #[.string s, .string ⟨#[59, 32]⟩] w fun e w' => e = .returned (.slice (some ⟨w.heap.size, 0, none⟩) (split2 (bl s)).length (split2 (bl s)).length) ∧ w' = w.alloc (.cells (strArr (split2 (bl s))) 9 (0, 0)) := by
  obtain ⟨m, hm⟩ := hm
  refine (Tryd.strings_Split s ⟨#[59, 32]⟩ m w (by omega) hm (by decide)).mono ?_
  rintro e w' ⟨rfl, rfl⟩
  have hl := Lib.splitB_all ⟨#[59, 32]⟩ (by decide) 0 _ s rfl
  have e2 : (Lib.splitB ⟨#[59, 32]⟩ 0 (Lib.countB s ⟨#[59, 32]⟩) s) = (split2 (bl s)).map mkS := by
    rw [splitB_mkS]; rfl
  have e3 : (split2 (bl s)).length = Lib.countB s ⟨#[59, 32]⟩ + 1 := by rw [← hl, e2, List.length_map]
  rw [e2, ← e3]
  exact ⟨rfl, rfl⟩
theorem split2_len (s : ByteArray) : 1 ≤ (split2 (bl s)).length ∧ (split2 (bl s)).length * 2 ≤ s.size + 2 := by
  have h := Lib.countB_mul_le ⟨#[59, 32]⟩ (by decide) s.size s (Nat.le_refl _)
  have h2 : (⟨#[59, 32]⟩ : ByteArray).size = 2 := rfl
  rw [h2] at h
  have hl := Lib.splitB_all ⟨#[59, 32]⟩ (by decide) 0 _ s rfl
  have e2 : (Lib.splitB ⟨#[59, 32]⟩ 0 (Lib.countB s ⟨#[59, 32]⟩) s) = (split2 (bl s)).map mkS := by
    rw [splitB_mkS]; rfl
  rw [e2, List.length_map] at hl
  omega
theorem splitK_mem : ∀ (k : Nat) (l : List UInt8) (p : List UInt8), p ∈ Lib.splitK [59, 32] 0 k l → p.length ≤ l.length := by
  intro k
  induction k with
  | zero => intro l p h; rw [Lib.splitK, List.mem_singleton] at h; subst h; exact Nat.le_refl _
  | succ k ih =>
    intro l p h
    rw [Lib.splitK] at h
    split at h
    · rw [List.mem_singleton] at h; subst h; exact Nat.le_refl _
    · rcases List.mem_cons.1 h with rfl | h
      · rw [List.length_take]; omega
      · have := ih _ p h
        rw [List.length_drop] at this
        omega
theorem cutAt_mem (c : UInt8) : ∀ l p : List UInt8, p ∈ cutAt c l → p.length ≤ l.length := by
  intro l
  induction l with
  | nil => intro p h; rw [cutAt, List.mem_singleton] at h; subst h; exact Nat.le_refl _
  | cons b l ih =>
    intro p h
    unfold cutAt at h
    split at h
    · rcases List.mem_cons.1 h with rfl | h
      · simp
      · have := ih p h; simp only [List.length_cons]; omega
    · rcases List.mem_cons.1 h with rfl | h
      · have hh : ((cutAt c l).headD []).length ≤ l.length := by
          cases hx : cutAt c l with
          | nil => simp
          | cons y r => exact ih y (by rw [hx]; simp)
        simp only [List.length_cons]; omega
      · have := ih p (List.mem_of_mem_tail h); simp only [List.length_cons]; omega
theorem cutAt_len (c : UInt8) : ∀ l : List UInt8, 1 ≤ (cutAt c l).length ∧ (cutAt c l).length ≤ l.length + 1 := by
  intro l
  induction l with
  | nil => exact ⟨Nat.le_refl _, Nat.le_refl _⟩
  | cons b l ih =>
    unfold cutAt
    split
    · simp only [List.length_cons]; omega
    · simp only [List.length_cons, List.length_tail]; omega
theorem mkSrc_ok {p : List UInt8} {m : Nat} (h : p.length ≤ m) : SrcOk m (mkSrc (cutAt 32 p)) := by
  have h1 := cutAt_len 32 p
  refine ⟨?_, ?_, ?_⟩
  · show (mkS ((cutAt 32 p).headD [])).size ≤ m
    rw [mkS_size]
    cases hx : cutAt 32 p with
    | nil => simp
    | cons y r => have := cutAt_mem 32 p y (by rw [hx]; simp); simp only [List.headD_cons]; omega
  · show ((cutAt 32 p).tail.map mkS).length ≤ m
    rw [List.length_map, List.length_tail]; omega
  · intro t ht
    obtain ⟨y, hy, rfl⟩ := List.mem_map.1 (show t ∈ (cutAt 32 p).tail.map mkS from ht)
    rw [mkS_size]
    have := cutAt_mem 32 p y (List.mem_of_mem_tail hy)
    omega
end Go.Proofs.YtpplagecancccaaDoor
