/- Sources copied, and compared with themselves. -/
import Derived.Test.YtpplagecancccaaDoorSrc
namespace Go.Proofs.YtpplagecancccaaDoor
open Go.RowKit

theorem SlS.of_own {w : World} {B : Nat} {v : Value} {F : List ByteArray} {n : Nat} (h : w.ownsRow B 9 1 v n (F.map strV)) (hn : F.length = n) : SlS w B v F := by
  subst hn
  obtain ⟨fa, fc, rfl, h1, h2, h3, _, h5⟩ := ownN_formn h
  exact ⟨fa, fc, rfl, h1, h2, h3, fun x e => (h5 x e).1⟩
/-- The cells of sources, with the values of their slices. -/
def prC (l : List (ByteArray × Value)) : List Value := l.flatMap fun p => [.string p.1, p.2]
theorem prC_len (l : List (ByteArray × Value)) : (prC l).length = l.length * 2 := by
  induction l with
  | nil => rfl
  | cons a l ih => rw [prC, List.flatMap_cons, List.length_append, ← prC, ih]; simp; omega
theorem prC_get (l : List (ByteArray × Value)) (i : Nat) (h : i < l.length) : (prC l)[i * 2]? = some (.string l[i].1) ∧ (prC l)[i * 2 + 1]? = some l[i].2 := by
  induction l generalizing i with
  | nil => simp at h
  | cons a l ih =>
    have e : prC (a :: l) = .string a.1 :: a.2 :: prC l := rfl
    rw [e]
    rcases i with _ | i
    · exact ⟨rfl, rfl⟩
    · have h' := ih i (by simpa using h)
      have e1 : (i + 1) * 2 = i * 2 + 2 := by omega
      rw [e1]
      simpa using h'
theorem prC_set (l : List (ByteArray × Value)) (Z : List Value) (x : ByteArray) (v : Value) (h : l.length * 2 + 2 ≤ Z.length) : ((prC l ++ Z.drop (l.length * 2)).set (l.length * 2) (.string x)).set (l.length * 2 + 1) v = prC (l ++ [(x, v)]) ++ Z.drop ((l.length + 1) * 2) := by
  have e : Z.drop (l.length * 2) = Z[l.length * 2] :: Z[l.length * 2 + 1] :: Z.drop (l.length * 2 + 2) := by
    rw [List.drop_eq_getElem_cons (by omega), List.drop_eq_getElem_cons (by omega)]
  have e2 : (l.length + 1) * 2 = l.length * 2 + 2 := by omega
  have e3 : prC (l ++ [(x, v)]) = prC l ++ [.string x, v] := by simp [prC]
  rw [e, e2, e3, List.set_append_right _ _ (by rw [prC_len]; exact Nat.le_refl _), prC_len, Nat.sub_self, List.set_cons_zero, List.set_append_right _ _ (by rw [prC_len]; omega), prC_len, show l.length * 2 + 1 - l.length * 2 = 1 by omega, List.set_cons_succ, List.set_cons_zero, List.append_assoc]
  rfl
/-- Two cells written in a row whose elements have two. -/
theorem ownN_set2 {w : World} {B : Nat} {e : TypeId} {n : Nat} {l : List Value} {g c i : Nat} {x0 x1 : Value} (h : w.ownsRow B e 2 (.slice (some ⟨g, 0, none⟩) n c) n l) (hi : i < n) :
    (w.frozen? ⟨g, i * 2, none⟩ = false ∧ w.frozen? ⟨g, i * 2 + 1, none⟩ = false) ∧
    (∃ y0 y1, w.cell? ⟨g, i * 2, none⟩ = some y0 ∧ w.cell? ⟨g, i * 2 + 1, none⟩ = some y1) ∧
    ((w.setCell ⟨g, i * 2, none⟩ x0).setCell ⟨g, i * 2 + 1, none⟩ x1).ownsRow B e 2 (.slice (some ⟨g, 0, none⟩) n c) n ((l.set (i * 2) x0).set (i * 2 + 1) x1) := by
  have hl := h.1
  have cell : ∀ j, j < n * 2 → ∃ y, w.cell? ⟨g, j, none⟩ = some y := fun j hj => by
    rw [h.cellAt j hj]
    exact ⟨_, List.getElem?_eq_getElem (by omega)⟩
  obtain ⟨y0, h0⟩ := cell (i * 2) (by omega)
  obtain ⟨y1, h1⟩ := cell (i * 2 + 1) (by omega)
  exact ⟨⟨h.frozenAt _, h.frozenAt _⟩, ⟨y0, y1, h0, h1⟩, ((h.stored _ x0).1.stored _ x1).1⟩
theorem SlS.other {w w' : World} {B : Nat} {v : Value} {F : List ByteArray} {g : Nat} (h : SlS w B v F) (hg : w.grownBy w' (some g)) (hB : g < B) : SlS w' B v F := by
  obtain ⟨fa, fc, rfl, h1, h2, h3, h4⟩ := h
  refine ⟨fa, fc, rfl, fun i hi => ?_, h2, h3, h4⟩
  obtain ⟨b, off, hb, hlt, hc⟩ := h1 i hi
  have hbB := h4 _ hb
  have hbB' : B ≤ b := hbB
  exact ⟨b, off, hb, Nat.lt_of_lt_of_le hlt hg.size, by rw [World.cell?_of_block (w := w) (hg.block b hlt (by intro e; injection e with e; omega))]; exact hc⟩
theorem info_src2 : (Tryd.prog.info? 40).map (fun i => (i.zero, i.size, i.bytes)) = some (some (.agg #[.string ⟨#[]⟩, .slice none 0 0]), 2, 40) := by kernel_rfl
set_option maxHeartbeats 800000 in
theorem eqSource_any (s : Src) (v1 v2 : Value) (w : World) (h1 : SlS w 0 v1 s.F) (h2 : SlS w 0 v2 s.F) (hs : SrcOk 1048576 s) :
    Calls Tryd.prog 28 #[.agg #[.string s.K, v1], .agg #[.string s.K, v2]] w fun e w' => e = .returned (.bool true) ∧ Below w.heap.size w w' := by
  obtain ⟨fa, fc, rfl, hr1, hc1, hc2, _⟩ := h1
  obtain ⟨ga, gc, rfl, hr2, hd1, hd2, _⟩ := h2
  have hl := hs.2.1
  have hk := hs.1
  have HR1 := Lib.hid hr1; have HR2 := Lib.hid hr2
  have hal : ∀ o o', Below w.heap.size w ((w.alloc o).alloc o') := fun o o' => ((Below.refl _ _).alloc (Nat.le_refl _) o).alloc (by simp) o'
  have HAL := Lib.hid hal
  have CE1 := fun W h1 h2 => eqStringS_any fa ga s.F.length s.F.length fc gc s.F s.F W h1 h2 rfl rfl (by omega)
  simp only [decide_true] at CE1
  have CE := Lib.hid CE1
  clear hal hr1 hr2 CE1 hs
  go_enter Tryd.func28, Tryd.ntmps28
  go_wp2_with fail
  refine (CE.out _ (HR1.out.below (Nat.le_refl _) (HAL.out _ _)) (HR2.out.below (Nat.le_refl _) (HAL.out _ _))).mono ?_
  rintro e w1 ⟨rfl, b1⟩
  go_wp2
  go_ret
  exact ⟨rfl, (HAL.out _ _).trans (b1.mono (HAL.out _ _).size)⟩

set_option maxHeartbeats 800000 in
theorem eqSourceS_any (a1 a2 : Option Addr) (n c1 c2 : Nat) (S : List Src) (w : World) (h1 : SrcsAt w 0 a1 S) (h2 : SrcsAt w 0 a2 S) (hn : S.length = n) (hn' : n ≤ 1048576) (hs : ∀ s ∈ S, SrcOk 1048576 s) :
    Calls Tryd.prog 14 #[.slice a1 n c1, .slice a2 n c2] w fun e w' => e = .returned (.bool true) ∧ Below w.heap.size w w' := by
  have H1 := Lib.hid h1; have H2 := Lib.hid h2; have HN := Lib.hid hn; have HS := Lib.hid hs
  clear h1 h2 hn hs
  go_enter Tryd.func14, Tryd.ntmps14
  go_wp2
  go_loopw [5] (fun t wr => ∃ k : Nat, k ≤ n ∧ t = .int .i64 k ∧ Below w.heap.size w wr) (fun t _ => n - (intOf t).toNat)
  case atStart => exact ⟨0, Nat.zero_le _, rfl, Below.refl _ _⟩
  case round =>
    obtain ⟨k, hk, rfl, hb⟩ := hrel
    by_cases hlt : k < n
    · have hks : k < S.length := by rw [HN.out]; exact hlt
      obtain ⟨b1, o1, v1, rfl, hl1, x0, x1, x2⟩ := H1.out.below hb k hks
      obtain ⟨b2, o2, v2, rfl, hl2, y0, y1, y2⟩ := H2.out.below hb k hks
      have k0 : (0 : Int) ≤ (k : Int) := by omega
      have k1 : (k : Int) < (n : Int) := by omega
      have CE : Hid (∀ W, Below wr.heap.size wr W → Calls Tryd.prog 28 #[.agg #[.string S[k].K, v1], .agg #[.string S[k].K, v2]] W fun e w' => e = .returned (.bool true) ∧ Below W.heap.size W w') := fun W h => eqSource_any S[k] v1 v2 W (x2.below h) (y2.below h) (HS.out _ (List.getElem_mem _))
      clear x2 y2
      generalize S[k].K = K at *
      have HB := Lib.hid hb
      clear hb
      go_wp2
      go_region_held3 (fun w' => w'.cell? ⟨b1, o1 + k * 2, none⟩ = some (.string K) ∧ w'.cell? ⟨b1, o1 + k * 2 + 1, none⟩ = some v1 ∧ w'.cell? ⟨b2, o2 + k * 2, none⟩ = some (.string K) ∧ w'.cell? ⟨b2, o2 + k * 2 + 1, none⟩ = some v2) (go_keep) (first | (go_at_call 28; refine (CE.out _ (by first | exact (Below.refl _ _).drew | exact Below.refl _ _)).mono ?_; rintro e w1 ⟨rfl, hb1⟩; obtain ⟨hcc, _⟩ := bcell hb1; have z0 := (hcc _ (o1 + k * 2) hl1).trans x0; have z1 := (hcc _ (o1 + k * 2 + 1) hl1).trans x1; have z3 := (hcc _ (o2 + k * 2) hl2).trans y0; have z4 := (hcc _ (o2 + k * 2 + 1) hl2).trans y1; clear hcc))
      have HB1 := Lib.hid (HB.out.drew.trans (hb1.mono HB.out.size))
      clear hb1
      go_wp2
      go_roundw
      case rel => exact ⟨k + 1, by omega, by go_num, HB1.out⟩
      case measure => simp [intOf]; omega
    · go_wp2
      go_ret
      exact ⟨rfl, hb⟩
end Go.Proofs.YtpplagecancccaaDoor
