/- Sources copied, and compared with themselves. -/
import Derived.Test.YtpplagecancccaaSrc
namespace Go.Proofs.Ytpplagecancccaa
open Go.RowKit

theorem SlS.of_own {w : World} {B : Nat} {v : Value} {F : List ByteArray} {n : Nat} (h : w.ownsRow B 9 1 v n (F.map strV)) (hn : F.length = n) : SlS w B v F := by
  subst hn
  obtain ⟨fa, fc, rfl, h1, h2, h3, _, h5⟩ := ownN_formn h
  exact ⟨fa, fc, rfl, h1, h2, h3, fun x e => (h5 x e).1⟩
set_option maxHeartbeats 800000 in
theorem toSource_any (s : Src) (v : Value) (w : World) (hv : SlS w 0 v s.F) (hs : SrcOk 1048576 s) :
    Calls Try.prog 30 #[.agg #[.string s.K, v]] w fun e w' => ∃ v', e = .returned (.agg #[.string s.K, v']) ∧ SlS w' w.heap.size v' s.F ∧ Below w.heap.size w w' := by
  obtain ⟨fa, fc, rfl, hrow, hc1, hc2, _⟩ := hv
  have hl := hs.2.1
  have HR := Lib.hid hrow
  have hal3 : ∀ o o2 o3, Below w.heap.size w (((w.alloc o).alloc o2).alloc o3) := fun o o2 o3 => (((Below.refl _ _).alloc (Nat.le_refl _) o).alloc (by simp) o2).alloc (by simp; omega) o3
  have CT : Hid (∀ W, RowAt W fa (s.F.map strV) → Calls Try.prog 43 #[.slice fa s.F.length fc] W fun e w' => ∃ v, e = .returned v ∧ w'.ownsRow W.heap.size 9 1 v s.F.length (s.F.map strV) ∧ Below W.heap.size W w') := fun W h => toStringS_any fa _ fc s.F W h rfl (by omega)
  clear hrow hs
  have HAL := Lib.hid hal3
  clear hal3
  go_enter Try.func30, Try.ntmps30
  go_wp2_with fail
  refine (CT.out _ (HR.out.below (Nat.le_refl _) ?_)).mono ?_
  · exact HAL.out _ _ _
  rintro e w1 ⟨v1, rfl, o1, b1⟩
  obtain ⟨a1, c1, rfl, _, q1, q2, _⟩ := own_formn o1
  have hs1 := b1.size
  have hb1 := b1.block
  simp only [World.size_alloc] at hs1 hb1 o1
  have k2 : w1.heap[w.heap.size + 1 + 1]? = some (.cells #[.string s.K, .slice none 0 0] 29 (0, 0)) := by
    rw [hb1 (w.heap.size + 1 + 1) (by omega)]
    have := heap_alloc_new ((w.alloc (.cells #[.string s.K, .slice fa s.F.length fc] 49)).alloc (.cells #[.string ⟨#[]⟩, .slice none 0 0] 29)) (.cells #[.string s.K, .slice none 0 0] 29 (0, 0))
    simp only [World.size_alloc] at this
    exact this
  have k1 : w1.heap[w.heap.size + 1]? = some (.cells #[.string ⟨#[]⟩, .slice none 0 0] 29 (0, 0)) := by
    rw [hb1 (w.heap.size + 1) (by omega)]
    have := heap_alloc_new (w.alloc (.cells #[.string s.K, .slice fa s.F.length fc] 49)) (.cells #[.string ⟨#[]⟩, .slice none 0 0] 29 (0, 0))
    simp only [World.size_alloc] at this
    rw [heap_alloc_old _ _ (by simp only [World.size_alloc]; omega)]
    exact this
  have d0 : w1.cell? ⟨w.heap.size + 1 + 1, 0, none⟩ = some (.string s.K) := by rw [cell_of_row _ _ _ _ _ _ k2]; rfl
  have d1 : w1.cell? ⟨w.heap.size + 1 + 1, 1, none⟩ = some (.slice none 0 0) := by rw [cell_of_row _ _ _ _ _ _ k2]; rfl
  have e0 : w1.cell? ⟨w.heap.size + 1, 0, none⟩ = some (.string ⟨#[]⟩) := by rw [cell_of_row _ _ _ _ _ _ k1]; rfl
  have e1 : w1.cell? ⟨w.heap.size + 1, 1, none⟩ = some (.slice none 0 0) := by rw [cell_of_row _ _ _ _ _ _ k1]; rfl
  have f1 : w1.frozen? ⟨w.heap.size + 1 + 1, 1, none⟩ = false := by simp [World.frozen?, k2]
  have g0 : w1.frozen? ⟨w.heap.size + 1, 0, none⟩ = false := by simp [World.frozen?, k1]
  have g1 : w1.frozen? ⟨w.heap.size + 1, 1, none⟩ = false := by simp [World.frozen?, k1]
  have O1 := Lib.hid o1
  have B1 := Lib.hid ((HAL.out _ _ _).trans (b1.mono (HAL.out _ _ _).size))
  have K1 := Lib.hid k1; have K2 := Lib.hid k2
  clear o1 b1 hb1 k1 k2
  go_wp2
  have n1 := K1.out
  have hg2 : w1.grownBy (w1.setCell ⟨w.heap.size + 1 + 1, 1, none⟩ (.slice a1 s.F.length c1)) (some (w.heap.size + 1 + 1)) := grown_setCell (grown_refl _ _) _ _
  have n2 : (w1.setCell ⟨w.heap.size + 1 + 1, 1, none⟩ (.slice a1 s.F.length c1)).heap[w.heap.size + 1]? = some (.cells #[.string ⟨#[]⟩, .slice none 0 0] 29 (0, 0)) := by
    rw [hg2.block (w.heap.size + 1) (by omega) (by intro e; injection e with e; omega)]; exact n1
  have n3 := heap_setCell_same _ (w.heap.size + 1) 0 _ _ (.string s.K) n2
  have n4 := heap_setCell_same _ (w.heap.size + 1) 1 _ _ (.slice a1 s.F.length c1) n3
  have hg3 := grown_setCell (grown_setCell (grown_refl (w1.setCell ⟨w.heap.size + 1 + 1, 1, none⟩ (.slice a1 s.F.length c1)) (some (w.heap.size + 1))) 0 (.string s.K)) 1 (.slice a1 s.F.length c1)
  have r0 := cell_of_row _ (w.heap.size + 1) 0 _ _ _ n4
  have r1 := cell_of_row _ (w.heap.size + 1) 1 _ _ _ n4
  simp at r0 r1
  have o2 := ownN_other O1.out hg2 (fun j hj e => by have := (ownN_ge O1.out j hj).1; injection e with e; omega)
  have o3 := ownN_other o2 hg3 (fun j hj e => by have := (ownN_ge O1.out j hj).1; injection e with e; omega)
  exact bodyPost_ret (v := .agg #[.string s.K, .slice a1 s.F.length c1]) (by simp [results, Try.results30, go_sem, r0, r1]) rfl ⟨_, rfl, (SlS.of_own o3 rfl).mono (by omega), ((B1.out.setCell (p := ⟨w.heap.size + 1 + 1, 1, none⟩) (Nat.le_trans (Nat.le_add_right _ 1) (by first | exact Nat.le_refl _ | exact Nat.le_add_right _ 1)) _).setCell (p := ⟨w.heap.size + 1, 0, none⟩) (Nat.le_trans (Nat.le_add_right _ 1) (by first | exact Nat.le_refl _ | exact Nat.le_add_right _ 1)) _).setCell (p := ⟨w.heap.size + 1, 1, none⟩) (Nat.le_trans (Nat.le_add_right _ 1) (by first | exact Nat.le_refl _ | exact Nat.le_add_right _ 1)) _⟩

/-- The cells of sources, with the values of their slices. -/
def prC (l : List (ByteArray × Value)) : List Value := l.flatMap fun p => [.string p.1, p.2]
theorem prC_len (l : List (ByteArray × Value)) : (prC l).length = l.length * 2 := by
  induction l with
  | nil => rfl
  | cons a l ih => rw [prC, List.flatMap_cons, List.length_append, ← prC, ih]; simp; omega
theorem prC_get (l : List (ByteArray × Value)) (i : Nat) (h : i < l.length) : (prC l)[i * 2]? = some (.string l[i].1) ∧ (prC l)[i * 2 + 1]? = some l[i].2 := by
  induction l generalizing i with
  | nil => simp at h
  | cons a l ih =>
    have e : prC (a :: l) = .string a.1 :: a.2 :: prC l := rfl
    rw [e]
    rcases i with _ | i
    · exact ⟨rfl, rfl⟩
    · have h' := ih i (by simpa using h)
      have e1 : (i + 1) * 2 = i * 2 + 2 := by omega
      rw [e1]
      simpa using h'
theorem prC_set (l : List (ByteArray × Value)) (Z : List Value) (x : ByteArray) (v : Value) (h : l.length * 2 + 2 ≤ Z.length) : ((prC l ++ Z.drop (l.length * 2)).set (l.length * 2) (.string x)).set (l.length * 2 + 1) v = prC (l ++ [(x, v)]) ++ Z.drop ((l.length + 1) * 2) := by
  have e : Z.drop (l.length * 2) = Z[l.length * 2] :: Z[l.length * 2 + 1] :: Z.drop (l.length * 2 + 2) := by
    rw [List.drop_eq_getElem_cons (by omega), List.drop_eq_getElem_cons (by omega)]
  have e2 : (l.length + 1) * 2 = l.length * 2 + 2 := by omega
  have e3 : prC (l ++ [(x, v)]) = prC l ++ [.string x, v] := by simp [prC]
  rw [e, e2, e3, List.set_append_right _ _ (by rw [prC_len]; exact Nat.le_refl _), prC_len, Nat.sub_self, List.set_cons_zero, List.set_append_right _ _ (by rw [prC_len]; omega), prC_len, show l.length * 2 + 1 - l.length * 2 = 1 by omega, List.set_cons_succ, List.set_cons_zero, List.append_assoc]
  rfl
/-- Two cells written in a row whose elements have two. -/
theorem ownN_set2 {w : World} {B : Nat} {e : TypeId} {n : Nat} {l : List Value} {g c i : Nat} {x0 x1 : Value} (h : w.ownsRow B e 2 (.slice (some ⟨g, 0, none⟩) n c) n l) (hi : i < n) :
    (w.frozen? ⟨g, i * 2, none⟩ = false ∧ w.frozen? ⟨g, i * 2 + 1, none⟩ = false) ∧
    (∃ y0 y1, w.cell? ⟨g, i * 2, none⟩ = some y0 ∧ w.cell? ⟨g, i * 2 + 1, none⟩ = some y1) ∧
    ((w.setCell ⟨g, i * 2, none⟩ x0).setCell ⟨g, i * 2 + 1, none⟩ x1).ownsRow B e 2 (.slice (some ⟨g, 0, none⟩) n c) n ((l.set (i * 2) x0).set (i * 2 + 1) x1) := by
  have hl := h.1
  have cell : ∀ j, j < n * 2 → ∃ y, w.cell? ⟨g, j, none⟩ = some y := fun j hj => by
    rw [h.cellAt j hj]
    exact ⟨_, List.getElem?_eq_getElem (by omega)⟩
  obtain ⟨y0, h0⟩ := cell (i * 2) (by omega)
  obtain ⟨y1, h1⟩ := cell (i * 2 + 1) (by omega)
  exact ⟨⟨h.frozenAt _, h.frozenAt _⟩, ⟨y0, y1, h0, h1⟩, ((h.stored _ x0).1.stored _ x1).1⟩
theorem SlS.other {w w' : World} {B : Nat} {v : Value} {F : List ByteArray} {g : Nat} (h : SlS w B v F) (hg : w.grownBy w' (some g)) (hB : g < B) : SlS w' B v F := by
  obtain ⟨fa, fc, rfl, h1, h2, h3, h4⟩ := h
  refine ⟨fa, fc, rfl, fun i hi => ?_, h2, h3, h4⟩
  obtain ⟨b, off, hb, hlt, hc⟩ := h1 i hi
  have hbB := h4 _ hb
  have hbB' : B ≤ b := hbB
  exact ⟨b, off, hb, Nat.lt_of_lt_of_le hlt hg.size, by rw [World.cell?_of_block (w := w) (hg.block b hlt (by intro e; injection e with e; omega))]; exact hc⟩
theorem info_src2 : (Try.prog.info? 29).map (fun i => (i.zero, i.size, i.bytes)) = some (some (.agg #[.string ⟨#[]⟩, .slice none 0 0]), 2, 40) := by kernel_rfl
set_option maxHeartbeats 1600000 in
theorem toSourceS_any (a : Option Addr) (n c : Nat) (S : List Src) (w : World) (h : SrcsAt w 0 a S) (hn : S.length = n) (hn' : n ≤ 1048576) (hs : ∀ s ∈ S, SrcOk 1048576 s) :
    Calls Try.prog 13 #[.slice a n c] w fun e w' => ∃ a' c', e = .returned (.slice a' n c') ∧ n ≤ c' ∧ c' ≤ 9223372036854775807 ∧ SrcsAt w' w.heap.size a' S ∧ Below w.heap.size w w' := by
  obtain ⟨i0, hi, hz0, hz1, hz2⟩ := info_parts info_src2
  have H := Lib.hid h; have HN := Lib.hid hn; have HS := Lib.hid hs
  clear h hn hs
  go_enter Try.func13, Try.ntmps13
  go_wp2_with (at_make; refine wpList_make_full _ rfl _ _ _ rfl w.heap.size 29 i0 _ 2 Try.underlying23 hi hz0 hz1 .i64 .i64 n n n rfl rfl rfl rfl (by rw [hz2]; omega) (by simp only [maxLen]; omega) (Nat.le_refl _) ?_; intro w1 hown hgrow)
  obtain ⟨Z, hZ⟩ : ∃ Z, Z = (madeCells (Value.agg #[.string ⟨#[]⟩, .slice none 0 0]).cells (n * 2)).toList := ⟨_, rfl⟩
  rw [← hZ] at hown
  have hZl : Z.length = n * 2 := ownN_len hown
  have HZ := Lib.hid hZl
  have hbel : Below w.heap.size w w1 := below_of_grown hgrow (Nat.le_refl _) (by intro k hk; cases hk)
  have hw1 : w.heap.size + 1 ≤ w1.heap.size := by
    obtain ⟨_, hh⟩ := hown
    rcases hh with ⟨hv, _⟩ | ⟨g, cap, cur, hv, _, hg, _⟩
    · cases hv
    · injection hv with h1 _ _
      injection h1 with h1
      injection h1 with h1 _ _
      subst h1
      exact (Array.getElem?_eq_some_iff.1 hg).1
  clear hZ hZl hgrow
  go_loopw [4] (fun t wr => ∃ (j : Nat) (L : List (ByteArray × Value)), j ≤ n ∧ t = .int .i64 j ∧ Hid (L.length = j) ∧ Hid (∀ i (h : i < L.length) (h2 : i < S.length), L[i].1 = S[i].K ∧ SlS wr (w.heap.size + 1) L[i].2 S[i].F) ∧ wr.ownsRow w.heap.size 29 2 (.slice (some ⟨w.heap.size, 0, none⟩) n n) n (prC L ++ Z.drop (j * 2)) ∧ Below w.heap.size w wr ∧ w.heap.size + 1 ≤ wr.heap.size) (fun t _ => n - (intOf t).toNat)
  case atStart => exact ⟨0, [], Nat.zero_le _, rfl, rfl, fun i h => absurd h (Nat.not_lt_zero _), by rw [Nat.zero_mul]; exact hown, hbel, hw1⟩
  case round =>
    clear hown hbel hw1
    obtain ⟨j, L, hj, rfl, HL, HI, hown, hbel, hwr⟩ := hrel
    by_cases hjl : j < n
    · have hjl' : j < S.length := by rw [HN.out]; exact hjl
      obtain ⟨b, off, v, rfl, hlt, x0, x1, x2⟩ := H.out.below hbel j hjl'
      have CT := Lib.hid (toSource_any S[j] v wr x2 (HS.out _ (List.getElem_mem _)))
      have HK : Hid (∀ i (h : i < S.length), i = j → S[i].K = S[j].K ∧ S[i].F = S[j].F) := fun i h e => by subst e; exact ⟨rfl, rfl⟩
      clear x2
      generalize S[j] = s at *
      have HO := Lib.hid hown
      have HB := Lib.hid hbel
      clear hown hbel
      go_wp2_with fail
      refine (CT.out).mono ?_
      rintro e w2 ⟨v2, rfl, q2, hb2⟩
      obtain ⟨⟨f0, f1⟩, ⟨y0, y1, c0, c1⟩, hS⟩ := ownN_set2 (x0 := .string s.K) (x1 := v2) (ownN_below HO.out hb2) hjl
      have hset := prC_set L Z s.K v2 (by rw [HL.out, HZ.out]; omega)
      rw [HL.out] at hset
      rw [hset] at hS
      have hgs := grown_setCell (grown_setCell (grown_refl w2 (some w.heap.size)) (j * 2) (.string s.K)) (j * 2 + 1) v2
      have HI2 : Hid (∀ i (h : i < (L ++ [(s.K, v2)]).length) (h2 : i < S.length), (L ++ [(s.K, v2)])[i].1 = S[i].K ∧ SlS ((w2.setCell ⟨w.heap.size, j * 2, none⟩ (.string s.K)).setCell ⟨w.heap.size, j * 2 + 1, none⟩ v2) (w.heap.size + 1) (L ++ [(s.K, v2)])[i].2 S[i].F) := fun i h h2 => by
        by_cases hij : i < L.length
        · rw [List.getElem_append_left hij]
          obtain ⟨g1, g2⟩ := HI.out i hij h2
          exact ⟨g1, (g2.below hb2).other hgs (by omega)⟩
        · have hi' : i = L.length := by simp at h; omega
          have e1 : (L ++ [(s.K, v2)])[i] = (s.K, v2) := by subst hi'; simp
          obtain ⟨g1, g2⟩ := HK.out i h2 (by rw [hi']; exact HL.out)
          rw [e1, g1, g2]
          exact ⟨rfl, (q2.mono hwr).other hgs (by omega)⟩
      have HS2 := Lib.hid hS
      have HB2 := Lib.hid (HB.out.trans (hb2.mono HB.out.size))
      have HL2 : Hid ((L ++ [(s.K, v2)]).length = j + 1) := by show _ = _; rw [List.length_append, HL.out]; rfl
      have hw2 := hb2.size
      obtain ⟨fa2, fc2, rfl, _⟩ := q2
      clear hS hb2 hset hgs
      go_wp2
      go_roundw
      case rel => exact ⟨j + 1, L ++ [(s.K, _)], by omega, by go_num, HL2.out, HI2.out, HS2.out, (HB2.out.setCell (Nat.le_refl _) _).setCell (Nat.le_refl _) _, by simp only [World.size_setCell]; omega⟩
      case measure => simp [intOf]; omega
    · obtain rfl : j = n := by omega
      have HO := Lib.hid hown; clear hown
      go_wp2
      go_ret
      refine ⟨_, _, rfl, Nat.le_refl _, by omega, fun i hi => ?_, hbel⟩
      have hiL : i < L.length := by rw [HL.out, ← HN.out]; exact hi
      obtain ⟨g1, g2⟩ := HI.out i hiL hi
      have hp := prC_get L i hiL
      have hij : i < j := by rw [← HL.out]; exact hiL
      have q0 := HO.out.cellAt (i * 2) (by omega)
      have q1 := HO.out.cellAt (i * 2 + 1) (by omega)
      rw [List.getElem?_append_left (by rw [prC_len]; omega)] at q0 q1
      rw [hp.1] at q0
      rw [hp.2] at q1
      refine ⟨w.heap.size, 0, L[i].2, rfl, by omega, ?_, ?_, g2.mono (by omega)⟩
      · rw [Nat.zero_add, q0, g1]
      · rw [Nat.zero_add, q1]

set_option maxHeartbeats 800000 in
theorem eqSource_any (s : Src) (v1 v2 : Value) (w : World) (h1 : SlS w 0 v1 s.F) (h2 : SlS w 0 v2 s.F) (hs : SrcOk 1048576 s) :
    Calls Try.prog 31 #[.agg #[.string s.K, v1], .agg #[.string s.K, v2]] w fun e w' => e = .returned (.bool true) ∧ Below w.heap.size w w' := by
  obtain ⟨fa, fc, rfl, hr1, hc1, hc2, _⟩ := h1
  obtain ⟨ga, gc, rfl, hr2, hd1, hd2, _⟩ := h2
  have hl := hs.2.1
  have hk := hs.1
  have HR1 := Lib.hid hr1; have HR2 := Lib.hid hr2
  have hal : ∀ o o', Below w.heap.size w ((w.alloc o).alloc o') := fun o o' => ((Below.refl _ _).alloc (Nat.le_refl _) o).alloc (by simp) o'
  have HAL := Lib.hid hal
  have CE1 := fun W h1 h2 => eqStringS_any fa ga s.F.length s.F.length fc gc s.F s.F W h1 h2 rfl rfl (by omega)
  simp only [decide_true] at CE1
  have CE := Lib.hid CE1
  clear hal hr1 hr2 CE1 hs
  go_enter Try.func31, Try.ntmps31
  go_wp2_with fail
  refine (CE.out _ (HR1.out.below (Nat.le_refl _) (HAL.out _ _)) (HR2.out.below (Nat.le_refl _) (HAL.out _ _))).mono ?_
  rintro e w1 ⟨rfl, b1⟩
  go_wp2
  go_ret
  exact ⟨rfl, (HAL.out _ _).trans (b1.mono (HAL.out _ _).size)⟩

set_option maxHeartbeats 800000 in
theorem eqSourceS_any (a1 a2 : Option Addr) (n c1 c2 : Nat) (S : List Src) (w : World) (h1 : SrcsAt w 0 a1 S) (h2 : SrcsAt w 0 a2 S) (hn : S.length = n) (hn' : n ≤ 1048576) (hs : ∀ s ∈ S, SrcOk 1048576 s) :
    Calls Try.prog 14 #[.slice a1 n c1, .slice a2 n c2] w fun e w' => e = .returned (.bool true) ∧ Below w.heap.size w w' := by
  have H1 := Lib.hid h1; have H2 := Lib.hid h2; have HN := Lib.hid hn; have HS := Lib.hid hs
  clear h1 h2 hn hs
  go_enter Try.func14, Try.ntmps14
  go_wp2
  go_loopw [5] (fun t wr => ∃ k : Nat, k ≤ n ∧ t = .int .i64 k ∧ Below w.heap.size w wr) (fun t _ => n - (intOf t).toNat)
  case atStart => exact ⟨0, Nat.zero_le _, rfl, Below.refl _ _⟩
  case round =>
    obtain ⟨k, hk, rfl, hb⟩ := hrel
    by_cases hlt : k < n
    · have hks : k < S.length := by rw [HN.out]; exact hlt
      obtain ⟨b1, o1, v1, rfl, hl1, x0, x1, x2⟩ := H1.out.below hb k hks
      obtain ⟨b2, o2, v2, rfl, hl2, y0, y1, y2⟩ := H2.out.below hb k hks
      have k0 : (0 : Int) ≤ (k : Int) := by omega
      have k1 : (k : Int) < (n : Int) := by omega
      have CE : Hid (∀ W, Below wr.heap.size wr W → Calls Try.prog 31 #[.agg #[.string S[k].K, v1], .agg #[.string S[k].K, v2]] W fun e w' => e = .returned (.bool true) ∧ Below W.heap.size W w') := fun W h => eqSource_any S[k] v1 v2 W (x2.below h) (y2.below h) (HS.out _ (List.getElem_mem _))
      clear x2 y2
      generalize S[k].K = K at *
      have HB := Lib.hid hb
      clear hb
      go_wp2
      go_region_held3 (fun w' => w'.cell? ⟨b1, o1 + k * 2, none⟩ = some (.string K) ∧ w'.cell? ⟨b1, o1 + k * 2 + 1, none⟩ = some v1 ∧ w'.cell? ⟨b2, o2 + k * 2, none⟩ = some (.string K) ∧ w'.cell? ⟨b2, o2 + k * 2 + 1, none⟩ = some v2) (go_keep) (first | (go_at_call 31; refine (CE.out _ (by first | exact (Below.refl _ _).drew | exact Below.refl _ _)).mono ?_; rintro e w1 ⟨rfl, hb1⟩; obtain ⟨hcc, _⟩ := bcell hb1; have z0 := (hcc _ (o1 + k * 2) hl1).trans x0; have z1 := (hcc _ (o1 + k * 2 + 1) hl1).trans x1; have z3 := (hcc _ (o2 + k * 2) hl2).trans y0; have z4 := (hcc _ (o2 + k * 2 + 1) hl2).trans y1; clear hcc))
      have HB1 := Lib.hid (HB.out.drew.trans (hb1.mono HB.out.size))
      clear hb1
      go_wp2
      go_roundw
      case rel => exact ⟨k + 1, by omega, by go_num, HB1.out⟩
      case measure => simp [intOf]; omega
    · go_wp2
      go_ret
      exact ⟨rfl, hb⟩
end Go.Proofs.Ytpplagecancccaa
