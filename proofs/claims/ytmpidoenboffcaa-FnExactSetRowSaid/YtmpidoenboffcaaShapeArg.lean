/- A slice of shapes that came in. -/
import Derived.Test.YtmpidoenboffcaaSliceArg
import Derived.Test.YtmpidoenboffcaaShapeS
namespace Go.Proofs.Ytmpidoenboffcaa
open Go.ChangeShapes Go.WideShapes Go.Deep Go.RowKit

/-- What a walk is told of a slice of shapes that came in. -/
def IsShps (w : World) (a : Option Addr) (len cap : Nat) (z : List Shp) : Prop :=
  z.length = len ∧ len ≤ cap ∧ cap ≤ maxLen ∧ RowAt w a (shCs z)
theorem IsShps.caps {w : World} {a : Option Addr} {n c : Nat} {z : List Shp} (h : IsShps w a n c z) : n ≤ c ∧ c ≤ 9223372036854775807 := ⟨h.2.1, by simpa [maxLen] using h.2.2.1⟩
theorem flat_spot (f : Nat → Shp) : ∀ (n k : Nat), k < n * 3 → (shCs ((List.range n).map f))[k]? = (shC (f (k / 3)))[k % 3]? := by
  intro n
  induction n with
  | zero => intro k h; omega
  | succ n ih =>
    intro k h
    rw [List.range_succ, List.map_append, shCs, List.flatMap_append, ← shCs]
    by_cases hk : k < n * 3
    · rw [List.getElem?_append_left (by rw [shCs_len]; simpa using hk), ih k hk]
    · have hl : (shCs ((List.range n).map f)).length = n * 3 := by rw [shCs_len]; simp
      rw [List.getElem?_append_right (by omega), hl]
      have e1 : k / 3 = n := by omega
      have e2 : k - n * 3 = k % 3 := by omega
      rw [e1, e2]
      simp
theorem shps_of_trod {H : Type} {enc : TypeId × Value → H} {w : World} {base : Nat} {spare : Nat → Bool} {held : Bool} {fuel : Nat} {a : Option Addr} {n c : Nat} {x : DataW H × List MemPlace}
    (hf : DataW.trod enc Try.prog w base spare held fuel 43 [.slice a n c] = some x) : ∃ z, IsShps w a n c z := by
  rcases open_slice_fields Try.underlying43 Try.underlying23 (by kernel_rfl) (by kernel_rfl) hf with ⟨hcs, _⟩ | ⟨ad, len, cap, m, D, Pl, hcs, hb, hl, hm, hmm, hx, hi⟩
  · injection hcs with h1 _
    injection h1 with h1 h2 h3
    subst h1; subst h2; subst h3
    exact ⟨[], rfl, Nat.le_refl _, Nat.zero_le _, RowAt.nil⟩
  · injection hcs with h1 _
    injection h1 with h1 h2 h3
    subst h1; subst h2; subst h3
    have hnm : n ≤ m := by rw [hmm]; split <;> omega
    have cells : ∀ i, i < n → ∃ s : Shp, w.cell? (ad.add (i * 3)) = some (.int .i64 s.W) ∧ w.cell? (ad.add (i * 3 + 1)) = some (.int .u8 (s.b.toNat : Int)) ∧ w.cell? (ad.add (i * 3 + 2)) = some (.bool s.L) := by
      intro i hi'
      obtain ⟨ys, nn, _, _, _, hfld⟩ := hi i (by omega)
      obtain ⟨v0, y0, c0, _, t0⟩ := hfld 0 _ rfl
      obtain ⟨v1, y1, c1, _, t1⟩ := hfld 1 _ rfl
      obtain ⟨v2, y2, c2, _, t2⟩ := hfld 2 _ rfl
      obtain ⟨W, e0, _, _⟩ := DataW.trod_int Try.underlying3 t0
      obtain ⟨F, e1, _, hF⟩ := DataW.trod_int Try.underlying5 t1
      obtain ⟨L, e2, _⟩ := DataW.trod_bool Try.underlying4 t2
      simp at e0 e1 e2
      subst e0; subst e1; subst e2
      have hbd := bounds_u8 hF
      have eF : F = ((UInt8.ofNat F.toNat).toNat : Int) := by rw [UInt8.toNat_ofNat']; omega
      refine ⟨⟨W, UInt8.ofNat F.toNat, L⟩, c0, ?_, c2⟩
      rw [← eF]
      exact c1
    have hs : ∀ i, i < n → ∃ s : Shp, w.cell? (ad.add (i * 3)) = some (.int .i64 s.W) ∧ w.cell? (ad.add (i * 3 + 1)) = some (.int .u8 (s.b.toNat : Int)) ∧ w.cell? (ad.add (i * 3 + 2)) = some (.bool s.L) := cells
    let f : Nat → Shp := fun i => if h : i < n then Classical.choose (hs i h) else ⟨0, 0, false⟩
    have hf' : ∀ i (h : i < n), w.cell? (ad.add (i * 3)) = some (.int .i64 (f i).W) ∧ w.cell? (ad.add (i * 3 + 1)) = some (.int .u8 ((f i).b.toNat : Int)) ∧ w.cell? (ad.add (i * 3 + 2)) = some (.bool (f i).L) := by
      intro i h
      have := Classical.choose_spec (hs i h)
      simp only [f, dif_pos h]
      exact this
    refine ⟨(List.range n).map f, by simp, hl, hm, ?_⟩
    intro k hk
    have hk' : k < n * 3 := by rw [shCs_len] at hk; simpa using hk
    have hsp := flat_spot f n k hk'
    rw [List.getElem?_eq_getElem hk] at hsp
    obtain ⟨b, off, spot⟩ := ad
    have h0 := hf' 0 (by omega)
    have hspot : spot = none := by simpa [Addr.add] using World.cell?_spot h0.1
    subst hspot
    have ea : ∀ j, (⟨b, off, none⟩ : Addr).add j = ⟨b, off + j, none⟩ := fun j => by unfold Addr.add; split <;> simp_all
    have h3 := hf' (k / 3) (by omega)
    rw [ea, ea, ea] at h3
    have hcell : w.cell? ⟨b, off + k, none⟩ = some ((shCs ((List.range n).map f))[k]) := by
      have hm3 : k % 3 = 0 ∨ k % 3 = 1 ∨ k % 3 = 2 := by omega
      rcases hm3 with e | e | e
      · have ek : k / 3 * 3 = k := by omega
        rw [ek] at h3
        rw [h3.1, hsp, e]; rfl
      · have ek : k / 3 * 3 + 1 = k := by omega
        rw [ek] at h3
        rw [h3.2.1, hsp, e]; rfl
      · have ek : k / 3 * 3 + 2 = k := by omega
        rw [ek] at h3
        rw [h3.2.2, hsp, e]; rfl
    exact ⟨b, off, rfl, World.block_lt_of_cell? w _ hcell, hcell⟩
end Go.Proofs.Ytmpidoenboffcaa
