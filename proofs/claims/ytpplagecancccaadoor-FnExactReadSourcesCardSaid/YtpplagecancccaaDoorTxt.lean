/- Texts of sources, of the program and of the reference; the law that asks for the same answers. -/
import Derived.Test.YtpplagecancccaaDoorSrcS
import Derived.Test.YtpplagecancccaaDoorJoin
import Derived.Test.YtpplagecancccaaDoorPush
namespace Go.Proofs.YtpplagecancccaaDoor
open Go.RowKit

theorem valid_all {S : List Src} (h : validB S = true) : S.length ≤ 5 ∧ ∀ k (hk : k < S.length), srcB S[k] = true := by
  unfold validB at h
  rw [Bool.and_eq_true, decide_eq_true_iff] at h
  refine ⟨h.1, fun k hk => ?_⟩
  have h1 : okTo S (k + 1) = true := by
    rcases hb : okTo S (k + 1) with _ | _
    · have := okTo_bad hb (S.length - (k + 1))
      rw [show k + 1 + (S.length - (k + 1)) = S.length by omega, h.2] at this
      cases this
    · rfl
  rw [okTo_step hk, Bool.and_eq_true, Bool.and_eq_true] at h1
  exact h1.2.1
theorem srcB_len' {s : Src} (h : srcB s = true) : 1 ≤ s.F.length ∧ s.F.length ≤ 4 := by
  unfold srcB at h
  rw [Bool.and_eq_true, Bool.and_eq_true, decide_eq_true_iff] at h
  exact h.1.2
/-- The text of one source. -/
def partS (s : Src) : ByteArray := mkS (bl s.K ++ 32 :: Lib.join (s.F.map bl) [32])
/-- The text of sources. -/
def srcTxt (S : List Src) : ByteArray := if validB S = true then joinS (S.map partS) [59, 32] else ⟨#[]⟩
theorem srcTxt_no {S : List Src} (h : validB S = false) : srcTxt S = ⟨#[]⟩ := by rw [srcTxt, if_neg (by rw [h]; simp)]
theorem srcTxt_yes {S : List Src} (h : validB S = true) : srcTxt S = joinS (S.map partS) [59, 32] := by rw [srcTxt, if_pos h]
def flatF (F : List ByteArray) : List UInt8 := Lib.joinTail [32] (F.map bl)
theorem flatF_join {F : List ByteArray} (h : 1 ≤ F.length) : flatF F = 32 :: Lib.join (F.map bl) [32] := by
  rcases F with _ | ⟨f, r⟩
  · simp at h
  · rw [flatF, List.map_cons, Lib.join_cons, Lib.joinTail, Lib.joinTail, List.map_cons, List.flatten_cons]
    simp
theorem flatF_snoc {F : List ByteArray} {j : Nat} (h : j < F.length) : flatF (F.take (j + 1)) = flatF (F.take j) ++ 32 :: bl F[j] := by
  rw [flatF, flatF, List.take_succ_eq_append_getElem h, Lib.joinTail, Lib.joinTail]
  simp only [List.map_append, List.flatten_append, List.map_cons, List.map_nil, List.flatten_cons, List.flatten_nil, List.append_nil]
  rfl
theorem join_srcF {s : Src} (h : s.F.length ≤ 4) (hs : SrcOk 1048576 s) : (Lib.join (s.F.map bl) [32]).length ≤ 4194308 := by
  have := join_le 1048576 [32] (s.F.map bl) (by
    intro x hx
    obtain ⟨t, ht, rfl⟩ := List.mem_map.1 hx
    rw [bl_len]; exact hs.2.2 t ht)
  rw [List.length_map] at this
  have h2 : s.F.length * (1048576 + [(32 : UInt8)].length) ≤ 4 * 1048577 := Nat.mul_le_mul h (Nat.le_refl _)
  omega
theorem partS_size {s : Src} (h : s.F.length ≤ 4) (hs : SrcOk 1048576 s) : (partS s).size ≤ 5242885 := by
  have h1 := join_srcF h hs
  have h2 := hs.1
  rw [partS, mkS_size, List.length_append, List.length_cons, bl_len]; omega
theorem join_parts {S : List Src} (h5 : S.length ≤ 5) (h : ∀ k (hk : k < S.length), srcB S[k] = true) (hs : ∀ s ∈ S, SrcOk 1048576 s) : (Lib.join ((S.map partS).map bl) [59, 32]).length ≤ 26214435 := by
  have := join_le 5242885 [59, 32] ((S.map partS).map bl) (by
    intro x hx
    obtain ⟨y, hy, rfl⟩ := List.mem_map.1 hx
    obtain ⟨s, hsm, rfl⟩ := List.mem_map.1 hy
    obtain ⟨i, hi, rfl⟩ := List.mem_iff_getElem.1 hsm
    rw [bl_len]; exact partS_size (srcB_len' (h i hi)).2 (hs _ (List.getElem_mem _)))
  rw [List.length_map, List.length_map] at this
  have h2 : S.length * (5242885 + [(59 : UInt8), 32].length) ≤ 5 * 5242887 := Nat.mul_le_mul h5 (Nat.le_refl _)
  omega
theorem parts_snoc {S : List Src} {k : Nat} (h : k < S.length) : joinS ((S.take (k + 1)).map partS) [59, 32] = if k = 0 then partS S[k] else joinS ((S.take k).map partS) [59, 32] ++ ⟨#[59, 32]⟩ ++ partS S[k] := by
  rw [List.take_succ_eq_append_getElem h, List.map_append, joinS, joinS, List.map_append]
  by_cases h0 : k = 0
  · subst h0
    rw [if_pos rfl]
    simp only [List.take_zero, List.map_nil, List.nil_append, List.map_cons]
    rw [Lib.join_one, mkS_bl]
  · rw [if_neg h0, List.map_cons, List.map_cons, List.map_nil, List.map_nil, join_snoc _ _ _ (by
      intro e
      have h3 := congrArg List.length e
      rw [List.length_map, List.length_map, List.length_take, List.length_nil] at h3
      omega)]
    apply bl_inj
    rw [bl_mkS, bl_app, bl_app, bl_mkS]
    rfl
theorem below_drew1 {w w' : World} (h : Below w.drew.heap.size w.drew w') : Below w.heap.size w w' := (Below.refl _ _).drew.trans h
theorem ret_strT {a b : ByteArray} (h : a = b) : Ending.returned (.string a) = .returned (.string b) := by rw [h]

set_option maxRecDepth 100000 in
set_option maxHeartbeats 1600000 in
theorem impl_SourcesText (a : Option Addr) (n c : Nat) (S : List Src) (w : World) (h : SrcsAt w 0 a S) (hn : S.length = n) (hn' : n ≤ 1048576) (hc : n ≤ c) (hc' : c ≤ 9223372036854775807) (hs : ∀ s ∈ S, SrcOk 1048576 s) :
    Calls Tryd.prog 7 #[.slice a n c] w fun e w' => e = .returned (.string (srcTxt S)) ∧ Below w.heap.size w w' := by
  have CV : Hid (∀ W, SrcsAt W 0 a S → Calls Tryd.prog 20 #[.slice a n c] W fun e w' => e = .returned (.bool (validB S)) ∧ Below W.heap.size W w') := fun W h => impl_SourcesValid a n c S W h hn hn' hc hc' hs
  have H := Lib.hid h; have HN := Lib.hid hn; have HS := Lib.hid hs
  have HNO := Lib.hid (@srcTxt_no S); have HYE := Lib.hid (@srcTxt_yes S); have HVA := Lib.hid (@valid_all S)
  clear h hn hs
  generalize validB S = vb at *
  cases vb
  · have HR := Lib.hid (HNO.out rfl)
    go_enter Tryd.func7, Tryd.ntmps7
    go_wp2_with fail
    refine (CV.out _ H.out).mono ?_
    rintro e w1 ⟨rfl, b1⟩
    go_wp2
    go_ret
    exact ⟨ret_strT HR.out.symm, b1⟩
  · have HR := Lib.hid (HYE.out rfl)
    obtain ⟨h5, hall⟩ := HVA.out rfl
    have HALL := Lib.hid hall
    have hn5 : n ≤ 5 := by rw [← HN.out]; exact h5
    clear hall HNO HYE HVA
    go_enter Tryd.func7, Tryd.ntmps7
    go_wp2_with fail
    refine (CV.out _ H.out).mono ?_
    rintro e w0 ⟨rfl, b0⟩
    have B0 := Lib.hid b0
    have O0 := Lib.hid (own_new w0 #[] 9 0 rfl (by omega))
    have hb0 := b0.size
    clear b0 CV
    go_wp2
    go_loopw [3, 12] (fun o t wr => ∃ k : Nat, k ≤ n ∧ t = .int .i64 (k : Int) ∧ wr.ownsRow w0.heap.size 9 1 o k (((S.take k).map partS).map strV) ∧ Below w.heap.size w wr ∧ w0.heap.size ≤ wr.heap.size) (fun _ t _ => n - (intOf t).toNat)
    case atStart => exact ⟨0, Nat.zero_le _, rfl, O0.out, B0.out.alloc hb0 _, by simp⟩
    case round =>
      clear O0
      obtain ⟨k, hk, rfl, hown, hbel, hwr⟩ := hrel
      have hww := hbel.size
      by_cases hkn : k < n
      · have hkS : k < S.length := by rw [HN.out]; exact hkn
        obtain ⟨b, off, v, rfl, hbl, x0, x1, x2⟩ := H.out.below hbel k hkS
        have hsl := srcB_len' (HALL.out k hkS)
        have hso := HS.out _ (List.getElem_mem hkS)
        have HSN : Hid ((S.take (k + 1)).map partS = (S.take k).map partS ++ [partS S[k]]) := by show _ = _; rw [List.take_succ_eq_append_getElem hkS, List.map_append]; rfl
        have hjl := join_srcF hsl.2 hso
        have HP : Hid (S[k].K ++ ⟨#[32]⟩ ++ joinS S[k].F [32] = partS S[k]) := by
          show _ = _
          rw [partS, joinS]
          apply bl_inj
          rw [bl_app, bl_app, bl_mkS, bl_mkS, List.append_assoc]; rfl
        obtain ⟨fa, fc, rfl, hrow, hf1, hf2, _⟩ := x2
        obtain ⟨fb, foff, rfl, hfb, _⟩ := row_str hrow 0 hsl.1
        have HROW := Lib.hid hrow
        have CJ : Hid (∀ W, RowAt W (some ⟨fb, foff, none⟩) (S[k].F.map strV) → Calls Tryd.prog 21 #[.slice (some ⟨fb, foff, none⟩) S[k].F.length fc, .string ⟨#[32]⟩] W fun e w' => e = .returned (.string (joinS S[k].F [32])) ∧ Below W.heap.size W w') := fun W hr => by
          refine (Tryd.strings_Join fb foff fc S[k].F ⟨#[32]⟩ W (fun j x hx => ?_) (row_cell hr 0 hsl.1).1 (by omega) hf1 (Nat.le_trans hjl (by omega))).mono ?_
          · obtain ⟨hj, rfl⟩ := List.getElem?_eq_some_iff.1 hx
            exact (row_cell hr j hj).2
          · rintro e w' ⟨rfl, hb⟩
            exact ⟨rfl, hb⟩
        have hks := hso.1
        have hJ : (joinS S[k].F [32]).size ≤ 4194308 := by rw [joinS, mkS_size]; exact hjl
        generalize joinS S[k].F [32] = J at *
        generalize partS S[k] = X at *
        clear hrow hjl hso
        generalize S[k].F.length = m at *
        generalize S[k].K = K at *
        have HO := Lib.hid hown
        have HB := Lib.hid hbel
        clear hown hbel
        have y1 : K.size + 1 ≤ 9223372036854775807 := by omega
        have hl1s : (⟨#[32]⟩ : ByteArray).size = 1 := rfl
        have y2 : K.size + 1 + J.size ≤ 9223372036854775807 := by omega
        have y3 : K.size + (⟨#[32]⟩ : ByteArray).size ≤ 9223372036854775807 := by omega
        have y4 : K.size + (⟨#[32]⟩ : ByteArray).size + J.size ≤ 9223372036854775807 := by omega
        have y5 : (K ++ ⟨#[32]⟩).size + J.size ≤ 9223372036854775807 := by rw [ByteArray.size_append]; omega
        have y6 : (K ++ ⟨#[32]⟩).size ≤ 9223372036854775807 := by rw [ByteArray.size_append]; omega
        have y7 : ¬ 9223372036854775807 < K.size + 1 := by omega
        have y8 : ¬ 9223372036854775807 < K.size + 1 + J.size := by omega
        clear hl1s
        go_wp2_with fail
        generalize hw1 : wr.alloc (.cells #[.string K, .slice (some ⟨fb, foff, none⟩) m fc] 40) = w1
        have c0 : w1.cell? ⟨wr.heap.size, 0, none⟩ = some (.string K) := by rw [← hw1]; exact (World.cell?_alloc_mark _ _ _ _ _).trans rfl
        have c1 : w1.cell? ⟨wr.heap.size, 1, none⟩ = some (.slice (some ⟨fb, foff, none⟩) m fc) := by rw [← hw1]; exact (World.cell?_alloc_mark _ _ _ _ _).trans rfl
        have b1 : Below wr.heap.size wr w1 := by rw [← hw1]; exact (Below.refl _ _).alloc (Nat.le_refl _) _
        have hz1 : wr.heap.size < w1.heap.size := by rw [← hw1]; simp
        clear hw1 x0 x1
        have O1 := Lib.hid (own_below HO.out b1)
        have BW := Lib.hid (HB.out.trans (b1.mono hww))
        have HR1 := Lib.hid (HROW.out.below (Nat.le_refl _) b1)
        clear b1
        have HN1 : some wr.heap.size ≠ Value.ownBlock u3 := fun e => by have := own_ge HO.out _ e.symm; omega
        go_region_held3 (fun w' => w'.cell? ⟨wr.heap.size, 0, none⟩ = some (.string K) ∧ w'.cell? ⟨wr.heap.size, 1, none⟩ = some (.slice (some ⟨fb, foff, none⟩) m fc)) (go_keep) (first | (go_at_call 21; refine (CJ.out _ (HR1.out.below (Nat.le_refl _) (Below.refl _ _).drew)).mono ?_; rintro e w3 ⟨rfl, b3⟩; obtain ⟨hcc, _⟩ := bcell b3; have z0 := (hcc _ 0 hz1).trans c0; have z1 := (hcc _ 1 hz1).trans c1; clear hcc; have hz3 : w1.heap.size ≤ w3.heap.size := b3.size; have hal3 : ∀ o j, (w3.alloc o).cell? ⟨wr.heap.size, j, none⟩ = w3.cell? ⟨wr.heap.size, j, none⟩ := fun o j => World.cell?_alloc_lt _ _ _ (Nat.lt_of_lt_of_le hz1 hz3)) | ((refine step_pushS _ (.tmp 16) (.tmp 24) w0.heap.size (K ++ ⟨#[32]⟩ ++ J) _ _ _ (by exact own_below (own_below O1.out (below_drew1 b3)) ((Below.refl _ _).alloc (Nat.le_refl _) _)) (by simp; omega) (by omega) w3.heap.size 1 (by exact cell_new1 w3 _ _) rfl (by rfl) (by rfl) (by rfl) ?_; intro v5 w5 o5 g5; have q0 := (g5.cell ((hal3 _ _).trans z0) HN1); have q1 := (g5.cell ((hal3 _ _).trans z1) HN1))) | fail)
        have hz3' : w1.heap.size ≤ w3.heap.size := b3.size
        have B5 := Lib.hid (((BW.out.drew.trans (b3.mono BW.out.size)).alloc (Nat.le_trans BW.out.size hz3') _).grown g5 (by simp; omega) (fun q hq => Nat.le_trans hb0 (own_ge HO.out q hq).1))
        have O5 := Lib.hid o5
        have hw5 := g5.size
        clear o5 g5 b3 q0 q1 z0 z1
        go_wp2
        go_roundw
        case rel => exact ⟨k + 1, by omega, by go_num, by rw [HSN.out, ← HP.out]; exact O5.out, B5.out, by simp at hw5; omega⟩
        case measure => simp [intOf]; omega
      · obtain rfl : k = n := by omega
        have hS : S.take k = S := List.take_of_length_le (by rw [HN.out]; exact Nat.le_refl _)
        rw [hS] at hown
        have hj := join_parts h5 HALL.out HS.out
        have CJ := Lib.hid (fun (v : Value) (W : World) (h : W.ownsRow w0.heap.size 9 1 v k ((S.map partS).map strV)) => join_any v _ k (S.map partS) ⟨#[59, 32]⟩ W h (by omega) (Nat.le_trans hj (by omega)))
        have HO := Lib.hid hown
        have HB := Lib.hid hbel
        clear hown hbel hS hj
        go_wp2_with fail
        refine (CJ.out _ _ HO.out).mono ?_
        rintro e w1 ⟨rfl, b1⟩
        go_wp2
        go_ret
        exact ⟨ret_strT HR.out.symm, HB.out.trans (b1.mono HB.out.size)⟩
set_option maxRecDepth 100000 in
set_option maxHeartbeats 1600000 in
theorem spec_SourcesText (a : Option Addr) (n c : Nat) (S : List Src) (w : World) (h : SrcsAt w 0 a S) (hn : S.length = n) (hn' : n ≤ 1048576) (hs : ∀ s ∈ S, SrcOk 1048576 s) :
    Calls Tryd.prog 8 #[.slice a n c] w fun e w' => e = .returned (.string (srcTxt S)) ∧ Below w.heap.size w w' := by
  have CV : Hid (∀ W, SrcsAt W 0 a S → Calls Tryd.prog 9 #[.slice a n c] W fun e w' => e = .returned (.bool (validB S)) ∧ Below W.heap.size W w') := fun W h => spec_SourcesValid a n c S W h hn hn' hs
  have H := Lib.hid h; have HN := Lib.hid hn; have HS := Lib.hid hs
  have HNO := Lib.hid (@srcTxt_no S); have HYE := Lib.hid (@srcTxt_yes S); have HVA := Lib.hid (@valid_all S)
  clear h hn hs
  generalize validB S = vb at *
  cases vb
  · have HR := Lib.hid (HNO.out rfl)
    clear HNO HYE HVA
    go_enter Tryd.func8, Tryd.ntmps8
    go_wp2
    go_loopw [3, 4] (fun o t wr => t = .int .i64 ((0 : Nat) : Int) ∧ o = .string ⟨#[]⟩ ∧ Below w.heap.size w wr) (fun _ t _ => n - (intOf t).toNat)
    case atStart => exact ⟨rfl, rfl, Below.refl _ _⟩
    case round =>
      obtain ⟨rfl, rfl, hb⟩ := hrel
      by_cases h0 : 0 < n
      · have HB := Lib.hid hb
        clear hb
        go_wp2_with fail
        refine (CV.out _ (H.out.below HB.out)).mono ?_
        rintro e w1 ⟨rfl, b1⟩
        go_wp2
        go_ret
        exact ⟨ret_strT HR.out.symm, HB.out.trans (b1.mono HB.out.size)⟩
      · obtain rfl : n = 0 := by omega
        go_wp2
        go_ret
        exact ⟨ret_strT HR.out.symm, hb⟩
  · have HR := Lib.hid (HYE.out rfl)
    obtain ⟨h5, hall⟩ := HVA.out rfl
    have HALL := Lib.hid hall
    have hn5 : n ≤ 5 := by rw [← HN.out]; exact h5
    clear hall HNO HYE HVA
    go_enter Tryd.func8, Tryd.ntmps8
    go_wp2
    go_loopw [3, 4] (fun o t wr => ∃ (k : Nat) (x : ByteArray), k ≤ n ∧ t = .int .i64 (k : Int) ∧ o = .string x ∧ x.size ≤ 6000000 * k ∧ Hid (x = joinS ((S.take k).map partS) [59, 32]) ∧ Below w.heap.size w wr) (fun _ t _ => n - (intOf t).toNat)
    case atStart => exact ⟨0, _, Nat.zero_le _, rfl, rfl, by decide, rfl, Below.refl _ _⟩
    case round =>
      obtain ⟨k, x, hk, rfl, rfl, hx, HX, hbel⟩ := hrel
      have HB := Lib.hid hbel
      have hww := hbel.size
      clear hbel
      by_cases hkn : k < n
      · have hkS : k < S.length := by rw [HN.out]; exact hkn
        have hsl := srcB_len' (HALL.out k hkS)
        have HSO := Lib.hid (HS.out _ (List.getElem_mem hkS))
        have HPS := Lib.hid (parts_snoc hkS)
        go_wp2_with fail
        refine (CV.out _ (H.out.below HB.out)).mono ?_
        rintro e w1 ⟨rfl, b1⟩
        have BW := Lib.hid (HB.out.trans (b1.mono HB.out.size))
        clear b1
        obtain ⟨b, off, v, rfl, hbl, x0, x1, x2⟩ := H.out.below BW.out k hkS
        obtain ⟨fa, fc, rfl, hrow, hf1, hf2, _⟩ := x2
        obtain ⟨fb, foff, rfl, hfb, _⟩ := row_str hrow 0 hsl.1
        have HR1 := Lib.hid hrow
        have HFJ := Lib.hid (flatF_join hsl.1)
        have HPT : Hid (partS S[k] = mkS (bl S[k].K ++ 32 :: Lib.join (S[k].F.map bl) [32])) := rfl
        generalize S[k] = s at *
        generalize hgF : s.F.length = m at *
        have HGF := Lib.hid hgF
        have hKs := HSO.out.1
        clear hrow hgF
        have hl2s : (⟨#[59, 32]⟩ : ByteArray).size = 2 := rfl
        by_cases h0 : 0 < k
        · have HZ : Hid (x ++ ⟨#[59, 32]⟩ ++ s.K ++ mkS (flatF s.F) = joinS ((S.take (k + 1)).map partS) [59, 32]) := by
            show _ = _
            rw [HPS.out, if_neg (by omega), ← HX.out, HPT.out, HFJ.out]
            apply bl_inj
            rw [bl_app, bl_app, bl_app, bl_app, bl_app, bl_mkS, bl_mkS, List.append_assoc, List.append_assoc]
          have hzs : (x ++ ⟨#[59, 32]⟩ ++ s.K).size ≤ 6000000 * k + 1048578 := by rw [ByteArray.size_append, ByteArray.size_append]; omega
          have q1 : x.size + 2 ≤ 9223372036854775807 := by omega
          have q2 : x.size + 2 + s.K.size ≤ 9223372036854775807 := by omega
          clear hl2s HPS HPT
          go_wp2
          generalize hz : x ++ ⟨#[59, 32]⟩ ++ s.K = z at *
          clear hz
          go_loop [3, 5] (fun o t => ∃ (j : Nat) (y : ByteArray), j ≤ m ∧ t = .int .i64 (j : Int) ∧ o = .string y ∧ y.size ≤ z.size + 1048577 * j ∧ Hid (y = z ++ mkS (flatF (s.F.take j)))) (fun _ t => m - (intOf t).toNat)
          case atStart => exact ⟨0, z, Nat.zero_le _, rfl, rfl, by omega, by show _ = _; apply bl_inj; rw [bl_app, bl_mkS]; simp [flatF, Lib.joinTail]⟩
          case round =>
            obtain ⟨j, y, hj, rfl, rfl, hys, HY⟩ := hrel
            by_cases hjm : j < m
            · have hjF : j < s.F.length := by rw [HGF.out]; exact hjm
              obtain ⟨_, z1⟩ := row_cell HR1.out j hjF
              have HFS := flatF_snoc hjF
              have hts : s.F[j].size ≤ 1048576 := HSO.out.2.2 _ (List.getElem_mem _)
              have HY2 : Hid (y ++ ⟨#[32]⟩ ++ s.F[j] = z ++ mkS (flatF (s.F.take (j + 1)))) := by
                show _ = _
                rw [HFS, HY.out]
                apply bl_inj
                rw [bl_app, bl_app, bl_app, bl_app, bl_mkS, bl_mkS, List.append_assoc, List.append_assoc]; rfl
              generalize s.F[j] = t at *
              have hysz : (y ++ ⟨#[32]⟩ ++ t).size ≤ z.size + 1048577 * (j + 1) := by
                rw [ByteArray.size_append, ByteArray.size_append]
                show y.size + 1 + t.size ≤ _
                omega
              have HYS := Lib.hid hysz
              have hl1s : (⟨#[32]⟩ : ByteArray).size = 1 := rfl
              have q1 : y.size + 1 ≤ 9223372036854775807 := by omega
              have q2 : y.size + 1 + t.size ≤ 9223372036854775807 := by omega
              clear hysz HFS HY hl1s
              go_wp2
              go_round
              case rel => exact ⟨j + 1, _, by omega, by go_num, rfl, HYS.out, HY2⟩
              case measure => simp [intOf]; omega
            · obtain rfl : j = m := by omega
              have HYF : Hid (y = joinS ((S.take (k + 1)).map partS) [59, 32]) := by
                have := HY.out
                rw [List.take_of_length_le (by rw [HGF.out]; exact Nat.le_refl _)] at this
                show _ = _
                rw [this]; exact HZ.out
              go_wp2
              go_roundw
              case rel => exact ⟨k + 1, y, by omega, by go_num, rfl, by omega, HYF, BW.out⟩
              case measure => simp [intOf]; omega
        · obtain rfl : k = 0 := by omega
          have HZ : Hid (x ++ s.K ++ mkS (flatF s.F) = joinS ((S.take (0 + 1)).map partS) [59, 32]) := by
            show _ = _
            rw [HPS.out, if_pos rfl, HX.out, HPT.out, HFJ.out]
            apply bl_inj
            rw [bl_app, bl_app, bl_mkS, bl_mkS]
            rfl
          have hzs : (x ++ s.K).size ≤ 6000000 * 0 + 1048578 := by rw [ByteArray.size_append]; omega
          have q2 : x.size + s.K.size ≤ 9223372036854775807 := by omega
          clear hl2s HPS HPT
          simp only [Nat.zero_mul, Nat.add_zero] at x0 x1
          go_wp2
          generalize hz : x ++ s.K = z at *
          clear hz
          go_loop [3, 5] (fun o t => ∃ (j : Nat) (y : ByteArray), j ≤ m ∧ t = .int .i64 (j : Int) ∧ o = .string y ∧ y.size ≤ z.size + 1048577 * j ∧ Hid (y = z ++ mkS (flatF (s.F.take j)))) (fun _ t => m - (intOf t).toNat)
          case atStart => exact ⟨0, z, Nat.zero_le _, rfl, rfl, by omega, by show _ = _; apply bl_inj; rw [bl_app, bl_mkS]; simp [flatF, Lib.joinTail]⟩
          case round =>
            obtain ⟨j, y, hj, rfl, rfl, hys, HY⟩ := hrel
            by_cases hjm : j < m
            · have hjF : j < s.F.length := by rw [HGF.out]; exact hjm
              obtain ⟨_, z1⟩ := row_cell HR1.out j hjF
              have HFS := flatF_snoc hjF
              have hts : s.F[j].size ≤ 1048576 := HSO.out.2.2 _ (List.getElem_mem _)
              have HY2 : Hid (y ++ ⟨#[32]⟩ ++ s.F[j] = z ++ mkS (flatF (s.F.take (j + 1)))) := by
                show _ = _
                rw [HFS, HY.out]
                apply bl_inj
                rw [bl_app, bl_app, bl_app, bl_app, bl_mkS, bl_mkS, List.append_assoc, List.append_assoc]; rfl
              generalize s.F[j] = t at *
              have hysz : (y ++ ⟨#[32]⟩ ++ t).size ≤ z.size + 1048577 * (j + 1) := by
                rw [ByteArray.size_append, ByteArray.size_append]
                show y.size + 1 + t.size ≤ _
                omega
              have HYS := Lib.hid hysz
              have hl1s : (⟨#[32]⟩ : ByteArray).size = 1 := rfl
              have q1 : y.size + 1 ≤ 9223372036854775807 := by omega
              have q2 : y.size + 1 + t.size ≤ 9223372036854775807 := by omega
              clear hysz HFS HY hl1s
              go_wp2
              go_round
              case rel => exact ⟨j + 1, _, by omega, by go_num, rfl, HYS.out, HY2⟩
              case measure => simp [intOf]; omega
            · obtain rfl : j = m := by omega
              have HYF : Hid (y = joinS ((S.take (0 + 1)).map partS) [59, 32]) := by
                have := HY.out
                rw [List.take_of_length_le (by rw [HGF.out]; exact Nat.le_refl _)] at this
                show _ = _
                rw [this]; exact HZ.out
              go_wp2
              go_roundw
              case rel => exact ⟨0 + 1, y, by omega, by go_num, rfl, by omega, HYF, BW.out⟩
              case measure => simp [intOf]; omega
      · obtain rfl : k = n := by omega
        have hS : S.take k = S := List.take_of_length_le (by rw [HN.out]; exact Nat.le_refl _)
        have HX2 : Hid (x = srcTxt S) := by have := HX.out; rw [hS] at this; show _ = _; rw [HR.out]; exact this
        clear hS
        go_wp2
        go_ret
        exact ⟨ret_strT HX2.out, HB.out⟩
end Go.Proofs.YtpplagecancccaaDoor
