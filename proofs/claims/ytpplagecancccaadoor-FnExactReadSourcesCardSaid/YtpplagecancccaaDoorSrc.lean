/- Sources: a slice of structs that hold a string and a slice of strings; those that come in; the laws' helpers over them. -/
import Derived.Test.YtpplagecancccaaDoorOwnN
import Derived.Test.YtpplagecancccaaDoorSliceArg
import Derived.Test.YtpplagecancccaaDoorStrs
import Derived.Deep.RegionHeld3
namespace Go.Proofs.YtpplagecancccaaDoor
open Go.ChangeShapes Go.WideShapes Go.Deep Go.RowKit

structure Src where
  K : ByteArray
  F : List ByteArray
/-- A value is a slice of these strings; it does not lie in a block below B, and not behind the world's end. -/
def SlS (w : World) (B : Nat) (v : Value) (F : List ByteArray) : Prop :=
  ∃ fa fc, v = .slice fa F.length fc ∧ RowAt w fa (F.map strV) ∧ F.length ≤ fc ∧ fc ≤ 9223372036854775807 ∧ ∀ x : Addr, fa = some x → B ≤ x.block
theorem SlS.below {w w' : World} {B : Nat} {v : Value} {F : List ByteArray} (h : SlS w B v F) (hb : Below w.heap.size w w') : SlS w' B v F := by
  obtain ⟨fa, fc, rfl, h1, h2, h3, h4⟩ := h
  exact ⟨fa, fc, rfl, h1.below (Nat.le_refl _) hb, h2, h3, h4⟩
theorem SlS.mono {w : World} {B B' : Nat} {v : Value} {F : List ByteArray} (h : SlS w B v F) (hb : B' ≤ B) : SlS w B' v F := by
  obtain ⟨fa, fc, rfl, h1, h2, h3, h4⟩ := h
  exact ⟨fa, fc, rfl, h1, h2, h3, fun x e => Nat.le_trans hb (h4 x e)⟩
/-- A row of sources. -/
def SrcsAt (w : World) (B : Nat) (a : Option Addr) (S : List Src) : Prop :=
  ∀ i (h : i < S.length), ∃ b off v, a = some ⟨b, off, none⟩ ∧ b < w.heap.size ∧ w.cell? ⟨b, off + i * 2, none⟩ = some (.string S[i].K) ∧ w.cell? ⟨b, off + i * 2 + 1, none⟩ = some v ∧ SlS w B v S[i].F
theorem SrcsAt.below {w w' : World} {B : Nat} {a : Option Addr} {S : List Src} (h : SrcsAt w B a S) (hb : Below w.heap.size w w') : SrcsAt w' B a S := fun i hi => by
  obtain ⟨b, off, v, h1, h2, h3, h4, h5⟩ := h i hi
  exact ⟨b, off, v, h1, Nat.lt_of_lt_of_le h2 hb.size, (hb.cell (p := ⟨b, off + i * 2, none⟩) h2).trans h3, (hb.cell (p := ⟨b, off + i * 2 + 1, none⟩) h2).trans h4, h5.below hb⟩
theorem SrcsAt.mono {w : World} {B B' : Nat} {a : Option Addr} {S : List Src} (h : SrcsAt w B a S) (hb : B' ≤ B) : SrcsAt w B' a S := fun i hi => by
  obtain ⟨b, off, v, h1, h2, h3, h4, h5⟩ := h i hi
  exact ⟨b, off, v, h1, h2, h3, h4, h5.mono hb⟩
def SrcOk (m : Nat) (s : Src) : Prop := s.K.size ≤ m ∧ s.F.length ≤ m ∧ ∀ t ∈ s.F, t.size ≤ m
/-- What a walk is told of a slice of sources that came in. -/
def IsSrcs (w : World) (a : Option Addr) (len cap : Nat) (z : List Src) : Prop :=
  z.length = len ∧ len ≤ cap ∧ cap ≤ maxLen ∧ SrcsAt w 0 a z ∧ ∀ s ∈ z, SrcOk 9223372036854775807 s
theorem IsSrcs.caps {w : World} {a : Option Addr} {n c : Nat} {z : List Src} (h : IsSrcs w a n c z) : n ≤ c ∧ c ≤ 9223372036854775807 := ⟨h.2.1, by simpa [maxLen] using h.2.2.1⟩
/-- The bytes of a source, taken off. -/
def szSrc (s : Src) (left : Int) : Int := if left - s.K.size < 0 then -1 else if szB s.F (left - s.K.size) < 0 then -1 else szB s.F (left - s.K.size)
def szSs : List Src → Int → Int
  | [], left => left
  | s :: l, left => if szSrc s left < 0 then -1 else szSs l (szSrc s left)
def szSrcs (S : List Src) (left : Int) : Int := if left - S.length < 0 then -1 else szSs S (left - S.length)
theorem szSrc_yes {s : Src} {left : Int} (h : 0 ≤ szSrc s left) (_h0 : 0 ≤ left) : szSrc s left ≤ left ∧ (s.K.size : Int) ≤ left ∧ (s.F.length : Int) ≤ left ∧ ∀ t ∈ s.F, (t.size : Int) ≤ left := by
  unfold szSrc at h ⊢
  split at h
  · omega
  · rename_i h1
    rw [if_neg h1]
    split at h
    · omega
    · rename_i h2
      rw [if_neg h2]
      have := szB_yes (l := s.F) (left := left - s.K.size) (by omega)
      have hm : ∀ t ∈ s.F, t.size ≤ (s.F.map ByteArray.size).sum := fun t ht => by
        have : ∀ (l : List Nat) (x : Nat), x ∈ l → x ≤ l.sum := by
          intro l
          induction l with
          | nil => intro x h; cases h
          | cons a l ih =>
            intro x h
            rw [List.sum_cons]
            rcases List.mem_cons.1 h with rfl | h
            · omega
            · have := ih x h; omega
        exact this _ _ (List.mem_map_of_mem ht)
      refine ⟨by omega, by omega, by omega, fun t ht => ?_⟩
      have := hm t ht
      omega
theorem szSs_yes : ∀ (S : List Src) (left : Int), 0 ≤ szSs S left → 0 ≤ left → ∀ s ∈ S, (s.K.size : Int) ≤ left ∧ (s.F.length : Int) ≤ left ∧ ∀ t ∈ s.F, (t.size : Int) ≤ left := by
  intro S
  induction S with
  | nil => intro left _ _ s hs; cases hs
  | cons s0 S ih =>
    intro left h h0 s hs
    unfold szSs at h
    split at h
    · omega
    · rename_i h1
      have hy := szSrc_yes (s := s0) (left := left) (by omega) h0
      rcases List.mem_cons.1 hs with rfl | hs
      · exact ⟨hy.2.1, hy.2.2.1, hy.2.2.2⟩
      · have := ih _ h (by omega) s hs
        refine ⟨by omega, by omega, fun t ht => ?_⟩
        have := this.2.2 t ht
        omega
theorem szSrcs_yes {S : List Src} {m : Nat} (h : 0 ≤ szSrcs S (m : Int)) : S.length ≤ m ∧ ∀ s ∈ S, SrcOk m s := by
  unfold szSrcs at h
  split at h
  · omega
  · refine ⟨by omega, fun s hs => ?_⟩
    have := szSs_yes S _ h (by omega) s hs
    refine ⟨by omega, by omega, fun t ht => ?_⟩
    have := this.2.2 t ht
    omega
theorem szSs_neg {l : List Src} {left : Int} {k : Nat} (h : k < l.length) : szSs (l.drop k) left = if szSrc l[k] left < 0 then -1 else szSs (l.drop (k + 1)) (szSrc l[k] left) := by
  rw [List.drop_eq_getElem_cons h]; rfl
theorem szSrc_le {s : Src} {left : Int} (h : ¬ szSrc s left < 0) (h0 : 0 ≤ left) : szSrc s left ≤ left := (szSrc_yes (by omega) h0).1
theorem ret_int {a b : Int} (h : a = b) : Ending.returned (.int .i64 a) = .returned (.int .i64 b) := by rw [h]

end Go.Proofs.YtpplagecancccaaDoor
