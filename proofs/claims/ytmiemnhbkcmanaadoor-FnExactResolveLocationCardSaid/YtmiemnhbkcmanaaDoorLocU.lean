/- The text of a location, of the program and of the reference (printed by gen_locu.py). -/
import Derived.Test.YtmiemnhbkcmanaaDoorLocT
namespace Go.Proofs.YtmiemnhbkcmanaaDoor
open Go.RowKit

noncomputable def locX (S H : ByteArray) (P : List ByteArray) (Q : ByteArray) : List UInt8 := if locB S H P Q then locT S H P Q else []
theorem locX_no {S H : ByteArray} {P : List ByteArray} {Q : ByteArray} (h : locB S H P Q = false) : locX S H P Q = [] := by unfold locX; rw [h]; rfl
theorem locX_yes {S H : ByteArray} {P : List ByteArray} {Q : ByteArray} (h : locB S H P Q = true) : locX S H P Q = locT S H P Q := by unfold locX; rw [h]; rfl
theorem locT_0 {S H : ByteArray} {P : List ByteArray} {Q : ByteArray} (h : bl Q = []) : mkS (locT S H P Q) = S ++ ⟨#[58, 47, 47]⟩ ++ H ++ mkS (47 :: pathJ P) := by
  apply bl_inj
  unfold locT
  rw [if_pos h, bl_mkS, bl_app, bl_app, bl_app, bl_mkS]
  simp [bl]
theorem locT_1 {S H : ByteArray} {P : List ByteArray} {Q : ByteArray} (h : ¬ bl Q = []) : mkS (locT S H P Q) = S ++ ⟨#[58, 47, 47]⟩ ++ H ++ mkS (47 :: pathJ P) ++ ⟨#[63]⟩ ++ Q := by
  apply bl_inj
  unfold locT
  rw [if_neg h, bl_mkS, bl_app, bl_app, bl_app, bl_app, bl_app, bl_mkS]
  simp [bl]
theorem path_two (P : List ByteArray) : mkS (47 :: pathJ P) = ⟨#[47]⟩ ++ joinS P (bl ⟨#[47]⟩) := by
  apply bl_inj
  rw [bl_mkS, bl_app, joinS, bl_mkS]; rfl

set_option maxRecDepth 100000 in
set_option maxHeartbeats 3200000 in
theorem spec_LocationText (S H : ByteArray) (a : Option Addr) (n c : Nat) (P : List ByteArray) (Q : ByteArray) (w : World) (hrow : RowAt w a (P.map strV)) (hn : P.length = n) (hn' : n ≤ 4294967296) (hH : H.size ≤ 4294967296) (hQ : Q.size ≤ 1048576) (hP : ∀ x ∈ P, x.size ≤ 4294967296) :
    Calls Tryd.prog 26 #[.agg #[.string S, .string H, .slice a n c, .string Q]] w fun e w' => e = .returned (.string (mkS (locX S H P Q))) ∧ Below w.heap.size w w' := by
  have CV : Hid (∀ W, Below w.heap.size w W → Calls Tryd.prog 14 #[.agg #[.string S, .string H, .slice a n c, .string Q]] W fun e w' => e = .returned (.bool (locB S H P Q)) ∧ Below W.heap.size W w') := fun W hW => spec_LocationValid S H a n c P Q W (hrow.below (Nat.le_refl _) hW) hn hn' hH hQ hP
  have HRow := Lib.hid hrow; have HN := Lib.hid hn
  clear hrow hn hP
  go_enter Tryd.func26, Tryd.ntmps26
  go_wp2_with fail
  generalize hw1 : w.alloc (.cells #[.string S, .string H, .slice a n c, .string Q] 26 (0, 0)) = w1
  have c0 : w1.cell? ⟨w.heap.size, 0, none⟩ = some (.string S) := by rw [← hw1]; exact (World.cell?_alloc_mark _ _ _ _ _).trans rfl
  have c1 : w1.cell? ⟨w.heap.size, 1, none⟩ = some (.string H) := by rw [← hw1]; exact (World.cell?_alloc_mark _ _ _ _ _).trans rfl
  have c2 : w1.cell? ⟨w.heap.size, 2, none⟩ = some (.slice a n c) := by rw [← hw1]; exact (World.cell?_alloc_mark _ _ _ _ _).trans rfl
  have c3 : w1.cell? ⟨w.heap.size, 3, none⟩ = some (.string Q) := by rw [← hw1]; exact (World.cell?_alloc_mark _ _ _ _ _).trans rfl
  have b1 : Below w.heap.size w w1 := by rw [← hw1]; exact (Below.refl _ _).alloc (Nat.le_refl _) _
  have hz1 : w.heap.size < w1.heap.size := by rw [← hw1]; simp
  clear hw1
  refine (CV.out _ b1).mono ?_
  rintro e w2 ⟨rfl, b2⟩
  obtain ⟨hcc, _⟩ := bcell b2
  have d0 := (hcc _ 0 hz1).trans c0
  have d1 := (hcc _ 1 hz1).trans c1
  have d2 := (hcc _ 2 hz1).trans c2
  have d3 := (hcc _ 3 hz1).trans c3
  have hz2 : w.heap.size < w2.heap.size := Nat.lt_of_lt_of_le hz1 b2.size
  have hB2 : Below w.heap.size w w2 := b1.trans (b2.mono (Nat.le_of_lt hz1))
  have B2 := Lib.hid hB2
  have HR2 := Lib.hid (HRow.out.below (Nat.le_refl _) hB2)
  clear b2 hcc c0 c1 c2 c3 b1 hB2
  rcases hv : locB S H P Q with _ | _
  · have HR : Hid (mkS (locX S H P Q) = ⟨#[]⟩) := by rw [locX_no hv]; rfl
    clear hv
    go_wp2
    go_ret
    exact ⟨ret_strP HR.out.symm, B2.out⟩
  obtain ⟨p1, p2, p3, p4, _⟩ := locB_parts hv
  have HXY : Hid (locX S H P Q = locT S H P Q) := locX_yes hv
  have s1 := schB_len p1
  have s2 := hostB_len p2
  rw [bl_len] at s1 s2
  have s4 : ∀ x ∈ P, x.size ≤ 40 := fun x hx => by have := (stepB_len (p4 x hx)).2; rwa [bl_len] at this
  have s5 := pathJ_len p3 s4
  rw [HN.out] at p3
  have CP : Hid (∀ W, RowAt W a (P.map strV) → Calls Tryd.prog 40 #[.slice a n c] W fun e w' => e = .returned (.string (mkS (47 :: pathJ P))) ∧ W = w') := fun W hW => spec_l32Path a n c P W hW HN.out p3 s4
  have T0 := Lib.hid (fun h => (locT_0 (S := S) (H := H) (P := P) (Q := Q) h))
  have T1 := Lib.hid (fun h => (locT_1 (S := S) (H := H) (P := P) (Q := Q) h))
  have hJ : (mkS (47 :: pathJ P)).size ≤ 300 := by rw [mkS_size, List.length_cons]; omega
  rw [← HXY.out] at T0 T1
  generalize mkS (47 :: pathJ P) = J at *
  clear hv p1 p2 p4 s4 s5
  have n1 : ¬ 9223372036854775807 < S.size + 3 := by omega
  have n2 : ¬ 9223372036854775807 < S.size + 3 + H.size := by omega
  have n3 : ¬ 9223372036854775807 < S.size + 3 + H.size + J.size := by omega
  have n4 : ¬ 9223372036854775807 < S.size + 3 + H.size + 1 := by omega
  have n5 : ¬ 9223372036854775807 < S.size + 3 + H.size + 1 + J.size := by omega
  have z1 : S.size + 3 ≤ 9223372036854775807 := by omega
  have z2 : S.size + (⟨#[58, 47, 47]⟩ : ByteArray).size ≤ 9223372036854775807 := z1
  have z3 : S.size + 3 + H.size ≤ 9223372036854775807 := by omega
  have z4 : S.size + (⟨#[58, 47, 47]⟩ : ByteArray).size + H.size ≤ 9223372036854775807 := z3
  have z5 : (S ++ (⟨#[58, 47, 47]⟩ : ByteArray) : ByteArray).size + H.size ≤ 9223372036854775807 := by rw [ByteArray.size_append]; exact z3
  have z6 : S.size + 3 + H.size + J.size ≤ 9223372036854775807 := by omega
  have z7 : S.size + (⟨#[58, 47, 47]⟩ : ByteArray).size + H.size + J.size ≤ 9223372036854775807 := z6
  have z8 : (S ++ (⟨#[58, 47, 47]⟩ : ByteArray) ++ H : ByteArray).size + J.size ≤ 9223372036854775807 := by rw [ByteArray.size_append, ByteArray.size_append]; exact z6
  go_wp2_with fail
  go_region_held3 (fun w' => w'.cell? ⟨w.heap.size, 0, none⟩ = some (.string S) ∧ w'.cell? ⟨w.heap.size, 1, none⟩ = some (.string H) ∧ w'.cell? ⟨w.heap.size, 2, none⟩ = some (.slice a n c)) (go_keep) (first | (go_at_call 40; refine (CP.out _ (HR2.out.below (Nat.le_refl _) (Below.refl _ _).drew)).mono ?_; rintro e w3 ⟨rfl, rfl⟩) | fail)
  have D3 : w2.drew.cell? ⟨w.heap.size, 3, none⟩ = some (.string Q) := d3
  have B3 : Hid (Below w.heap.size w w2.drew) := B2.out.drew
  have hDs : (S ++ ⟨#[58, 47, 47]⟩ ++ H ++ J).size ≤ 1000 := by rw [ByteArray.size_append, ByteArray.size_append, ByteArray.size_append]; show S.size + 3 + H.size + J.size ≤ _; omega
  generalize S ++ ⟨#[58, 47, 47]⟩ ++ H ++ J = D at *
  generalize w2.drew = w4 at D3 B3 ⊢
  clear n1 n2 n3 n4 n5 z1 z2 z3 z4 z5 z6 z7 z8
  by_cases hq : bl Q = []
  · have HR := Lib.hid (T0.out hq)
    have e1 : (Q.toList == ([] : List UInt8)) = true := by rw [tl_litP, decide_eq_true hq]
    have e2 : Q.toList.isEmpty = true := by rw [ByteArray.toList_eq]; show (bl Q).isEmpty = true; rw [hq]; rfl
    clear hq
    go_wp2
    go_ret
    exact ⟨ret_strP HR.out.symm, B3.out⟩
  · have HR := Lib.hid (T1.out hq)
    have e1 : (Q.toList == ([] : List UInt8)) = false := by rw [tl_litP, decide_eq_false hq]
    have e2 : Q.toList.isEmpty = false := by rw [ByteArray.toList_eq]; show (bl Q).isEmpty = false; rcases h : bl Q with _ | _; exact absurd h hq; rfl
    clear hq
    have n1 : ¬ 9223372036854775807 < D.size + 1 := by omega
    have n2 : ¬ 9223372036854775807 < D.size + 1 + Q.size := by omega
    have n3 : ¬ 9223372036854775807 < 1 + Q.size := by omega
    have n4 : ¬ 9223372036854775807 < D.size + (1 + Q.size) := by omega
    have u1 : D.size + 1 ≤ 9223372036854775807 := by omega
    have u2 : D.size + (⟨#[63]⟩ : ByteArray).size ≤ 9223372036854775807 := u1
    have u3 : D.size + 1 + Q.size ≤ 9223372036854775807 := by omega
    have u4 : D.size + (⟨#[63]⟩ : ByteArray).size + Q.size ≤ 9223372036854775807 := u3
    have u5 : (D ++ ⟨#[63]⟩ : ByteArray).size + Q.size ≤ 9223372036854775807 := by rw [ByteArray.size_append]; exact u3
    have u6 : 1 + Q.size ≤ 9223372036854775807 := by omega
    have u7 : (⟨#[63]⟩ : ByteArray).size + Q.size ≤ 9223372036854775807 := u6
    have u8 : D.size + (1 + Q.size) ≤ 9223372036854775807 := by omega
    have u9 : D.size + ((⟨#[63]⟩ : ByteArray).size + Q.size) ≤ 9223372036854775807 := u8
    have v9 : D.size + (⟨#[63]⟩ ++ Q : ByteArray).size ≤ 9223372036854775807 := by rw [ByteArray.size_append]; exact u8
    go_wp2
    go_ret
    exact ⟨ret_strP (by rw [HR.out]), B3.out⟩

set_option maxRecDepth 100000 in
set_option maxHeartbeats 3200000 in
theorem impl_LocationText (S H : ByteArray) (a : Option Addr) (n c : Nat) (P : List ByteArray) (Q : ByteArray) (w : World) (hm : MaxOk w) (hrow : RowAt w a (P.map strV)) (hn : P.length = n) (hn' : n ≤ 4294967296) (hc : n ≤ c) (hH : H.size ≤ 4294967296) (hQ : Q.size ≤ 1048576) (hP : ∀ x ∈ P, x.size ≤ 4294967296) :
    Calls Tryd.prog 35 #[.agg #[.string S, .string H, .slice a n c, .string Q]] w fun e w' => e = .returned (.string (mkS (locX S H P Q))) ∧ Below w.heap.size w w' := by
  have CV : Hid (∀ W, Below w.heap.size w W → Calls Tryd.prog 18 #[.agg #[.string S, .string H, .slice a n c, .string Q]] W fun e w' => e = .returned (.bool (locB S H P Q)) ∧ Below W.heap.size W w') := fun W hW => impl_LocationValid S H a n c P Q W (hm.below hW) (hrow.below (Nat.le_refl _) hW) hn hn' hH hQ hP
  have HRow := Lib.hid hrow; have HN := Lib.hid hn
  clear hrow hn hP hm
  go_enter Tryd.func35, Tryd.ntmps35
  go_wp2_with fail
  generalize hw1 : w.alloc (.cells #[.string S, .string H, .slice a n c, .string Q] 26 (0, 0)) = w1
  have c0 : w1.cell? ⟨w.heap.size, 0, none⟩ = some (.string S) := by rw [← hw1]; exact (World.cell?_alloc_mark _ _ _ _ _).trans rfl
  have c1 : w1.cell? ⟨w.heap.size, 1, none⟩ = some (.string H) := by rw [← hw1]; exact (World.cell?_alloc_mark _ _ _ _ _).trans rfl
  have c2 : w1.cell? ⟨w.heap.size, 2, none⟩ = some (.slice a n c) := by rw [← hw1]; exact (World.cell?_alloc_mark _ _ _ _ _).trans rfl
  have c3 : w1.cell? ⟨w.heap.size, 3, none⟩ = some (.string Q) := by rw [← hw1]; exact (World.cell?_alloc_mark _ _ _ _ _).trans rfl
  have b1 : Below w.heap.size w w1 := by rw [← hw1]; exact (Below.refl _ _).alloc (Nat.le_refl _) _
  have hz1 : w.heap.size < w1.heap.size := by rw [← hw1]; simp
  clear hw1
  refine (CV.out _ b1).mono ?_
  rintro e w2 ⟨rfl, b2⟩
  obtain ⟨hcc, _⟩ := bcell b2
  have d0 := (hcc _ 0 hz1).trans c0
  have d1 := (hcc _ 1 hz1).trans c1
  have d2 := (hcc _ 2 hz1).trans c2
  have d3 := (hcc _ 3 hz1).trans c3
  have hz2 : w.heap.size < w2.heap.size := Nat.lt_of_lt_of_le hz1 b2.size
  have hB2 : Below w.heap.size w w2 := b1.trans (b2.mono (Nat.le_of_lt hz1))
  have B2 := Lib.hid hB2
  have HR2 := Lib.hid (HRow.out.below (Nat.le_refl _) hB2)
  clear b2 hcc c0 c1 c2 c3 b1 hB2
  rcases hv : locB S H P Q with _ | _
  · have HR : Hid (mkS (locX S H P Q) = ⟨#[]⟩) := by rw [locX_no hv]; rfl
    clear hv
    go_wp2
    go_ret
    exact ⟨ret_strP HR.out.symm, B2.out⟩
  obtain ⟨p1, p2, p3, p4, _⟩ := locB_parts hv
  have HXY : Hid (locX S H P Q = locT S H P Q) := locX_yes hv
  have s1 := schB_len p1
  have s2 := hostB_len p2
  rw [bl_len] at s1 s2
  have s4 : ∀ x ∈ P, x.size ≤ 40 := fun x hx => by have := (stepB_len (p4 x hx)).2; rwa [bl_len] at this
  have s5 := pathJ_len p3 s4
  rw [HN.out] at p3
  have CP : Hid (∀ W, RowAt W a (P.map strV) → Calls Tryd.prog 50 #[.slice a n c, .string ⟨#[47]⟩] W fun e w' => e = .returned (.string (joinS P (bl ⟨#[47]⟩))) ∧ Below W.heap.size W w') := fun W hW => join_row a n c P ⟨#[47]⟩ W hW HN.out (by omega) hc (Nat.le_trans s5 (by omega))
  have T0 := Lib.hid (fun h => (locT_0 (S := S) (H := H) (P := P) (Q := Q) h))
  have T1 := Lib.hid (fun h => (locT_1 (S := S) (H := H) (P := P) (Q := Q) h))
  rw [← HXY.out, path_two] at T0 T1
  have hJ : (joinS P (bl ⟨#[47]⟩)).size ≤ 300 := by rw [joinS, mkS_size]; exact Nat.le_trans s5 (by omega)
  generalize joinS P (bl ⟨#[47]⟩) = J at *
  clear hv p1 p2 p4 s4 s5
  have n1 : ¬ 9223372036854775807 < S.size + 3 := by omega
  have n2 : ¬ 9223372036854775807 < S.size + 3 + H.size := by omega
  have n3 : ¬ 9223372036854775807 < S.size + 3 + H.size + J.size := by omega
  have n4 : ¬ 9223372036854775807 < S.size + 3 + H.size + 1 := by omega
  have n5 : ¬ 9223372036854775807 < S.size + 3 + H.size + 1 + J.size := by omega
  have z1 : S.size + 3 ≤ 9223372036854775807 := by omega
  have z2 : S.size + (⟨#[58, 47, 47]⟩ : ByteArray).size ≤ 9223372036854775807 := z1
  have z3 : S.size + 3 + H.size ≤ 9223372036854775807 := by omega
  have z4 : S.size + (⟨#[58, 47, 47]⟩ : ByteArray).size + H.size ≤ 9223372036854775807 := z3
  have z5 : (S ++ (⟨#[58, 47, 47]⟩ : ByteArray) : ByteArray).size + H.size ≤ 9223372036854775807 := by rw [ByteArray.size_append]; exact z3
  have y1 : S.size + 3 + H.size + 1 ≤ 9223372036854775807 := by omega
  have y2 : S.size + (⟨#[58, 47, 47]⟩ : ByteArray).size + H.size + (⟨#[47]⟩ : ByteArray).size ≤ 9223372036854775807 := y1
  have y3 : (S ++ (⟨#[58, 47, 47]⟩ : ByteArray) ++ H : ByteArray).size + (⟨#[47]⟩ : ByteArray).size ≤ 9223372036854775807 := by rw [ByteArray.size_append, ByteArray.size_append]; exact y1
  have z6 : S.size + 3 + H.size + 1 + J.size ≤ 9223372036854775807 := by omega
  have z7 : S.size + (⟨#[58, 47, 47]⟩ : ByteArray).size + H.size + (⟨#[47]⟩ : ByteArray).size + J.size ≤ 9223372036854775807 := z6
  have z8 : (S ++ (⟨#[58, 47, 47]⟩ : ByteArray) ++ H ++ ⟨#[47]⟩ : ByteArray).size + J.size ≤ 9223372036854775807 := by rw [ByteArray.size_append, ByteArray.size_append, ByteArray.size_append]; exact z6
  go_wp2_with fail
  go_region_held3 (fun w' => w'.cell? ⟨w.heap.size, 0, none⟩ = some (.string S) ∧ w'.cell? ⟨w.heap.size, 1, none⟩ = some (.string H) ∧ w'.cell? ⟨w.heap.size, 2, none⟩ = some (.slice a n c)) (go_keep) (first | (go_at_call 50; refine (CP.out _ (HR2.out.below (Nat.le_refl _) (Below.refl _ _).drew)).mono ?_; rintro e w3 ⟨rfl, b3⟩; obtain ⟨hcc3, _⟩ := bcell b3; have z0 := (hcc3 _ 0 hz2).trans d0; have z11 := (hcc3 _ 1 hz2).trans d1; have z12 := (hcc3 _ 2 hz2).trans d2; have D3 := (hcc3 _ 3 hz2).trans d3; clear hcc3) | fail)
  have B3 := Lib.hid (B2.out.drew.trans (b3.mono B2.out.size))
  have hDs : (S ++ ⟨#[58, 47, 47]⟩ ++ H ++ ⟨#[47]⟩ ++ J).size ≤ 1000 := by rw [ByteArray.size_append, ByteArray.size_append, ByteArray.size_append, ByteArray.size_append]; show S.size + 3 + H.size + 1 + J.size ≤ _; omega
  have hAs : S ++ ⟨#[58, 47, 47]⟩ ++ H ++ (⟨#[47]⟩ ++ J) = S ++ ⟨#[58, 47, 47]⟩ ++ H ++ ⟨#[47]⟩ ++ J := by apply bl_inj; simp only [bl_app, List.append_assoc]
  rw [hAs] at T0 T1
  clear hAs b3
  generalize S ++ ⟨#[58, 47, 47]⟩ ++ H ++ ⟨#[47]⟩ ++ J = D at *
  clear n1 n2 n3 n4 n5 z1 z2 z3 z4 z5 z6 z7 z8 y1 y2 y3
  by_cases hq : bl Q = []
  · have HR := Lib.hid (T0.out hq)
    have e1 : (Q.toList == ([] : List UInt8)) = true := by rw [tl_litP, decide_eq_true hq]
    have e2 : Q.toList.isEmpty = true := by rw [ByteArray.toList_eq]; show (bl Q).isEmpty = true; rw [hq]; rfl
    clear hq
    go_wp2
    go_ret
    exact ⟨ret_strP HR.out.symm, B3.out⟩
  · have HR := Lib.hid (T1.out hq)
    have e1 : (Q.toList == ([] : List UInt8)) = false := by rw [tl_litP, decide_eq_false hq]
    have e2 : Q.toList.isEmpty = false := by rw [ByteArray.toList_eq]; show (bl Q).isEmpty = false; rcases h : bl Q with _ | _; exact absurd h hq; rfl
    clear hq
    have n1 : ¬ 9223372036854775807 < D.size + 1 := by omega
    have n2 : ¬ 9223372036854775807 < D.size + 1 + Q.size := by omega
    have n3 : ¬ 9223372036854775807 < 1 + Q.size := by omega
    have n4 : ¬ 9223372036854775807 < D.size + (1 + Q.size) := by omega
    have u1 : D.size + 1 ≤ 9223372036854775807 := by omega
    have u2 : D.size + (⟨#[63]⟩ : ByteArray).size ≤ 9223372036854775807 := u1
    have u3 : D.size + 1 + Q.size ≤ 9223372036854775807 := by omega
    have u4 : D.size + (⟨#[63]⟩ : ByteArray).size + Q.size ≤ 9223372036854775807 := u3
    have u5 : (D ++ ⟨#[63]⟩ : ByteArray).size + Q.size ≤ 9223372036854775807 := by rw [ByteArray.size_append]; exact u3
    have u6 : 1 + Q.size ≤ 9223372036854775807 := by omega
    have u7 : (⟨#[63]⟩ : ByteArray).size + Q.size ≤ 9223372036854775807 := u6
    have u8 : D.size + (1 + Q.size) ≤ 9223372036854775807 := by omega
    have u9 : D.size + ((⟨#[63]⟩ : ByteArray).size + Q.size) ≤ 9223372036854775807 := u8
    have v9 : D.size + (⟨#[63]⟩ ++ Q : ByteArray).size ≤ 9223372036854775807 := by rw [ByteArray.size_append]; exact u8
    go_wp2
    go_ret
    exact ⟨ret_strP (by rw [HR.out]; apply bl_inj; simp only [bl_app, List.append_assoc]), B3.out⟩
end Go.Proofs.YtmiemnhbkcmanaaDoor
