/- The region that puts an invalid source behind drawn ones (printed by gen_srcdraw2.py: plain lemmas on its literal rows). -/
import Derived.Test.YtpplagecancccaaDoorSrcDrawA
namespace Go.Proofs.YtpplagecancccaaDoor
open Go.RowKit

def SrcV (H : Nat) (w : World) (v : Value) : Prop := ∃ (K : ByteArray) (vF : Value) (F : List ByteArray), v = .agg #[.string K, vF] ∧ OwnS w H vF F ∧ SrcSm ⟨K, F⟩
def OwnF (H : Nat) (w : World) (v : Value) : Prop := ∃ F : List ByteArray, OwnS w H v F ∧ F.length ≤ 4 ∧ ∀ t ∈ F, t.size ≤ 10
def SrcRow (H : Nat) (w : World) (C : Array Value) : Prop := ∀ i : Nat, i < 5 → ∃ (K : ByteArray) (vF : Value) (F : List ByteArray), C[i * 2]? = some (.string K) ∧ C[i * 2 + 1]? = some vF ∧ OwnS w H vF F ∧ SrcSm ⟨K, F⟩
theorem srcsm_1 : SrcSm ⟨⟨#[]⟩, []⟩ := ⟨by decide, by decide, by decide⟩
theorem srcsm_2 : SrcSm ⟨⟨#[122]⟩, []⟩ := ⟨by decide, by decide, by decide⟩
theorem srcsm_3 : SrcSm ⟨⟨#[122]⟩, [⟨#[110, 111, 110, 101]⟩, ⟨#[115, 101, 108, 102]⟩]⟩ := ⟨by decide, by decide, by decide⟩
theorem srcsm_4 : SrcSm ⟨⟨#[122]⟩, [⟨#[42]⟩]⟩ := ⟨by decide, by decide, by decide⟩
theorem srcsm_5 : SrcSm ⟨⟨#[90]⟩, [⟨#[97]⟩]⟩ := ⟨by decide, by decide, by decide⟩
theorem bel_new {w : World} (o : Obj) : Below w.heap.size w (w.alloc o) := (Below.refl _ _).alloc (Nat.le_refl _) o
theorem SrcV.keep {H : Nat} {w w' : World} {v : Value} (hk : KeepFrom H w w') (h : SrcV H w v) : SrcV H w' v := by
  obtain ⟨K, vF, F, e, o, m⟩ := h; exact ⟨K, vF, F, e, o.keep hk (Nat.le_refl _), m⟩
theorem OwnF.keep {H : Nat} {w w' : World} {v : Value} (hk : KeepFrom H w w') (h : OwnF H w v) : OwnF H w' v := by
  obtain ⟨F, o, m⟩ := h; exact ⟨F, o.keep hk (Nat.le_refl _), m⟩
theorem SrcRow.keep {H : Nat} {w w' : World} {C : Array Value} (hk : KeepFrom H w w') (h : SrcRow H w C) : SrcRow H w' C := fun i hi => by
  obtain ⟨K, vF, F, e0, e1, o, m⟩ := h i hi; exact ⟨K, vF, F, e0, e1, o.keep hk (Nat.le_refl _), m⟩
theorem src_row {H : Nat} {w w' : World} {K0 K1 K2 K3 K4 : ByteArray} {v0 v1 v2 v3 v4 : Value} {F0 F1 F2 F3 F4 : List ByteArray} (hb : Below w.heap.size w w') (o0 : OwnS w H v0 F0) (m0 : SrcSm ⟨K0, F0⟩) (o1 : OwnS w H v1 F1) (m1 : SrcSm ⟨K1, F1⟩) (o2 : OwnS w H v2 F2) (m2 : SrcSm ⟨K2, F2⟩) (o3 : OwnS w H v3 F3) (m3 : SrcSm ⟨K3, F3⟩) (o4 : OwnS w H v4 F4) (m4 : SrcSm ⟨K4, F4⟩) :
    SrcRow H w' #[.string K0, v0, .string K1, v1, .string K2, v2, .string K3, v3, .string K4, v4] := by
  intro i hi
  rcases (show i = 0 ∨ i = 1 ∨ i = 2 ∨ i = 3 ∨ i = 4 by omega) with rfl | rfl | rfl | rfl | rfl
  · exact ⟨K0, v0, F0, rfl, rfl, o0.below hb, m0⟩
  · exact ⟨K1, v1, F1, rfl, rfl, o1.below hb, m1⟩
  · exact ⟨K2, v2, F2, rfl, rfl, o2.below hb, m2⟩
  · exact ⟨K3, v3, F3, rfl, rfl, o3.below hb, m3⟩
  · exact ⟨K4, v4, F4, rfl, rfl, o4.below hb, m4⟩
end Go.Proofs.YtpplagecancccaaDoor
