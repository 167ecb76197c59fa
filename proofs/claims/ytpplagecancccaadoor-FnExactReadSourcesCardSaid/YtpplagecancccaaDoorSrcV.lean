/- Valid sources, plainly; the program's test of sources. -/
import Derived.Test.YtpplagecancccaaDoorSrc2
import Derived.Test.YtpplagecancccaaDoorHostW
import Derived.Test.YtpplagecancccaaDoorShelf
namespace Go.Proofs.YtpplagecancccaaDoor
open Go.RowKit

def srcB (s : Src) : Bool := nameB (bl s.K) && decide (1 ≤ s.F.length ∧ s.F.length ≤ 4) && s.F.all (fun t => wordB (bl t) || (decide (bl t = noneL) && decide (¬ 1 < s.F.length)))
def dupB (L : List Src) (K : ByteArray) : Bool := L.any fun t => decide (t.K = K)
def okTo (S : List Src) : Nat → Bool
  | 0 => true
  | k + 1 => okTo S k && (match S[k]? with | none => true | some s => srcB s && !dupB (S.take k) s.K)
/-- Valid sources. -/
def validB (S : List Src) : Bool := decide (S.length ≤ 5) && okTo S S.length
theorem okTo_step {S : List Src} {k : Nat} (h : k < S.length) : okTo S (k + 1) = (okTo S k && (srcB S[k] && !dupB (S.take k) S[k].K)) := by
  rw [okTo, List.getElem?_eq_getElem h]
theorem okTo_bad {S : List Src} {k : Nat} (h : okTo S k = false) : ∀ j, okTo S (k + j) = false := by
  intro j
  induction j with
  | zero => exact h
  | succ j ih => rw [← Nat.add_assoc, okTo, ih, Bool.false_and]
theorem valid_bad {S : List Src} {k : Nat} (h : k < S.length) (hb : srcB S[k] = false ∨ dupB (S.take k) S[k].K = true) : validB S = false := by
  have h1 : okTo S (k + 1) = false := by
    rw [okTo_step h]
    rcases hb with hb | hb <;> rw [hb] <;> simp
  have h2 := okTo_bad h1 (S.length - (k + 1))
  rw [show k + 1 + (S.length - (k + 1)) = S.length by omega] at h2
  rw [validB, h2, Bool.and_false]
theorem valid_long {S : List Src} (h : 5 < S.length) : validB S = false := by rw [validB, decide_eq_false (by omega)]; rfl
theorem valid_yes {S : List Src} (h : S.length ≤ 5) (h2 : okTo S S.length = true) : validB S = true := by rw [validB, h2, decide_eq_true h]; rfl
theorem dupB_snoc {S : List Src} {j : Nat} (h : j < S.length) (K : ByteArray) : dupB (S.take (j + 1)) K = (dupB (S.take j) K || decide (S[j].K = K)) := by
  rw [dupB, dupB, List.take_succ_eq_append_getElem h, List.any_append]; simp
theorem dupB_at {S : List Src} {j k : Nat} {K : ByteArray} (hj : j < S.length) (hk : j < k) (h : S[j].K = K) : dupB (S.take k) K = true := by
  rw [dupB, List.any_eq_true]
  exact ⟨S[j], by rw [List.mem_iff_getElem]; exact ⟨j, by simp; omega, by simp⟩, by simpa using h⟩
def wordsB (F : List ByteArray) : Bool := F.all fun t => wordB (bl t)
theorem wordsB_snoc {F : List ByteArray} {j : Nat} (h : j < F.length) : wordsB (F.take (j + 1)) = (wordsB (F.take j) && wordB (bl F[j])) := by
  rw [wordsB, wordsB, List.take_succ_eq_append_getElem h, List.all_append]; simp
theorem srcB_name {s : Src} (h : nameB (bl s.K) = false) : srcB s = false := by rw [srcB, h]; rfl
theorem srcB_len {s : Src} (h : ¬ (1 ≤ s.F.length ∧ s.F.length ≤ 4)) : srcB s = false := by rw [srcB, decide_eq_false h, Bool.and_false]; rfl
theorem srcB_word {s : Src} {j : Nat} (h : j < s.F.length) (h1 : wordB (bl s.F[j]) = false) (h2 : ¬ (bl s.F[j] = noneL ∧ ¬ 1 < s.F.length)) : srcB s = false := by
  have : (s.F.all fun t => wordB (bl t) || (decide (bl t = noneL) && decide (¬ 1 < s.F.length))) = false := by
    rcases hb : (s.F.all fun t => wordB (bl t) || (decide (bl t = noneL) && decide (¬ 1 < s.F.length))) with _ | _
    · rfl
    · rw [List.all_eq_true] at hb
      have h3 := hb s.F[j] (List.getElem_mem _)
      rw [h1, Bool.false_or, Bool.and_eq_true, decide_eq_true_iff, decide_eq_true_iff] at h3
      exact absurd h3 h2
  rw [srcB, this, Bool.and_false]
theorem srcB_yes {s : Src} (h1 : nameB (bl s.K) = true) (h2 : 1 ≤ s.F.length) (h3 : s.F.length ≤ 4) (h4 : wordsB s.F = true) : srcB s = true := by
  have : (s.F.all fun t => wordB (bl t) || (decide (bl t = noneL) && decide (¬ 1 < s.F.length))) = true := by
    rw [List.all_eq_true]
    intro t ht
    rw [wordsB, List.all_eq_true] at h4
    rw [h4 t ht]; rfl
  rw [srcB, this, h1, decide_eq_true ⟨h2, h3⟩]; rfl
theorem srcB_none {s : Src} (h1 : nameB (bl s.K) = true) (h2 : s.F.length = 1) (h3 : bl (s.F[0]'(by omega)) = noneL) : srcB s = true := by
  have : (s.F.all fun t => wordB (bl t) || (decide (bl t = noneL) && decide (¬ 1 < s.F.length))) = true := by
    rw [List.all_eq_true]
    intro t ht
    obtain ⟨i, hi, rfl⟩ := List.mem_iff_getElem.1 ht
    have : i = 0 := by omega
    subst this
    rw [h3, decide_eq_true rfl, decide_eq_true (by omega)]
    simp
  rw [srcB, this, h1, decide_eq_true ⟨by omega, by omega⟩]; rfl
theorem trim_any (t : ByteArray) (w : World) : Calls Tryd.prog 35 #[.string t, .string ⟨#[42, 46]⟩] w fun e w' => e = .returned (.string (mkS (cutW (bl t)))) ∧ w = w' := by
  refine (Tryd.strings_TrimPrefix t ⟨#[42, 46]⟩ w).mono ?_
  rintro e w' ⟨rfl, rfl⟩
  refine ⟨?_, rfl⟩
  have : Lib.trimPrefix t.data.toList (⟨#[42, 46]⟩ : ByteArray).data.toList = cutW (bl t) := by
    show Lib.trimPrefix (bl t) [42, 46] = _
    generalize bl t = l
    have e : Lib.hasPrefix l [42, 46] = decide (l.take 2 = starL) := by
      rcases l with _ | ⟨x, _ | ⟨y, l⟩⟩
      · rfl
      · simp [Lib.hasPrefix, starL, List.isPrefixOf]
      · by_cases h1 : x = 42
        · by_cases h2 : y = 46
          · subst h1; subst h2; simp [Lib.hasPrefix, starL, List.isPrefixOf]
          · simp [Lib.hasPrefix, starL, List.isPrefixOf, h2, Ne.symm h2]
        · simp [Lib.hasPrefix, starL, List.isPrefixOf, h1, Ne.symm h1]
    rw [Lib.trimPrefix, cutW, e]
    by_cases h : l.take 2 = starL
    · rw [if_pos h, decide_eq_true h, if_pos rfl]; rfl
    · rw [if_neg h, decide_eq_false h, if_neg (by simp)]
  rw [this]; rfl
theorem kept_new {w w' : World} {C : Array Value} {t : TypeId} (h : Below (w.alloc (.cells C t (0, 0))).heap.size (w.alloc (.cells C t (0, 0))) w') (i : Nat) : w'.cell? ⟨w.heap.size, i, none⟩ = C[i]? := by
  rw [h.cell (p := ⟨w.heap.size, i, none⟩) (by show w.heap.size < _; simp)]
  exact World.cell?_alloc_mark _ _ _ _ _
theorem below_new {w w' : World} {o : Obj} (h : Below (w.alloc o).heap.size (w.alloc o) w') : Below w.heap.size w w' :=
  ((Below.refl _ _).alloc (Nat.le_refl _) o).trans (h.mono (by simp))

theorem row_cell {w : World} {b off : Nat} {l : List ByteArray} (h : RowAt w (some ⟨b, off, none⟩) (l.map strV)) (i : Nat) (hi : i < l.length) : b < w.heap.size ∧ w.cell? ⟨b, off + i, none⟩ = some (.string l[i]) := by
  obtain ⟨b', off', e, h1, h2⟩ := row_str h i hi
  injection e with e
  injection e with e1 e2 _
  subst e1; subst e2
  rw [getD_at hi] at h2
  exact ⟨h1, h2⟩
theorem src_cell {w : World} {B b off : Nat} {S : List Src} (h : SrcsAt w B (some ⟨b, off, none⟩) S) (i : Nat) (hi : i < S.length) :
    ∃ fa fc, b < w.heap.size ∧ w.cell? ⟨b, off + i * 2, none⟩ = some (.string S[i].K) ∧ w.cell? ⟨b, off + i * 2 + 1, none⟩ = some (.slice fa S[i].F.length fc) := by
  obtain ⟨b', off', v, e, h1, h2, h3, fa, fc, rfl, _⟩ := h i hi
  injection e with e
  injection e with e1 e2 _
  subst e1; subst e2
  exact ⟨fa, fc, h1, h2, h3⟩

set_option maxRecDepth 100000 in
set_option maxHeartbeats 3200000 in
theorem impl_SourcesValid (a : Option Addr) (n c : Nat) (S : List Src) (w : World) (h : SrcsAt w 0 a S) (hn : S.length = n) (hn' : n ≤ 1048576) (hc : n ≤ c) (hc' : c ≤ 9223372036854775807) (hs : ∀ s ∈ S, SrcOk 1048576 s) :
    Calls Tryd.prog 20 #[.slice a n c] w fun e w' => e = .returned (.bool (validB S)) ∧ Below w.heap.size w w' := by
  have H := Lib.hid h; have HN := Lib.hid hn; have HS := Lib.hid hs
  clear h hn hs
  by_cases h5 : 5 < n
  · have HR : Hid (validB S = false) := valid_long (by rw [HN.out]; exact h5)
    go_enter Tryd.func20, Tryd.ntmps20
    go_wp2
    go_ret
    exact ⟨ret_bool HR.out.symm, Below.refl _ _⟩
  go_enter Tryd.func20, Tryd.ntmps20
  go_wp2
  go_loopw [15] (fun t wr => ∃ k : Nat, k ≤ n ∧ t = .int .i64 (k : Int) ∧ Hid (okTo S k = true) ∧ Below w.heap.size w wr) (fun t _ => n - (intOf t).toNat)
  case atStart => exact ⟨0, Nat.zero_le _, rfl, rfl, Below.refl _ _⟩
  case round =>
    obtain ⟨k, hk, rfl, HK, hb⟩ := hrel
    by_cases hkn : k < n
    · have hkS : k < S.length := by rw [HN.out]; exact hkn
      obtain ⟨b, off, v, rfl, hbl, x0, x1, x2⟩ := H.out.below hb k hkS
      have HBAD : Hid (∀ (s : Src), s = S[k] → srcB s = false ∨ dupB (S.take k) s.K = true → validB S = false) := fun s e h => by subst e; exact valid_bad hkS h
      have HOK : Hid (∀ (s : Src), s = S[k] → srcB s = true → dupB (S.take k) s.K = false → okTo S (k + 1) = true) := fun s e h1 h2 => by
        subst e; rw [okTo_step hkS, HK.out, h1, h2]; rfl
      have HSO := Lib.hid (HS.out _ (List.getElem_mem hkS))
      generalize hsk : S[k] = s at *
      clear hsk
      obtain ⟨fa, fc, rfl, hrow, hf1, hf2, _⟩ := x2
      have HROW := Lib.hid hrow
      have hm := HSO.out.2.1
      have hKs := HSO.out.1
      have CN : ∀ W, Calls Tryd.prog 34 #[.string s.K] W fun e w' => e = .returned (.bool (nameB (bl s.K))) ∧ W = w' := fun W => impl_NameValid s.K W (by omega)
      have HNB : Hid (nameB (bl s.K) = false → srcB s = false) := srcB_name
      have HB := Lib.hid hb
      have hwr := hb.size
      clear hb hrow
      rcases hnb : nameB (bl s.K) with _ | _
      · have HR := Lib.hid (HBAD.out s rfl (.inl (HNB.out hnb)))
        rw [hnb] at CN
        have CN2 := Lib.hid CN
        clear CN hnb
        go_wp2_with fail
        refine (CN2.out _).mono ?_
        rintro e w2 ⟨rfl, rfl⟩
        go_wp2
        go_ret
        exact ⟨ret_bool HR.out.symm, HB.out.alloc HB.out.size _⟩
      have HNM := Lib.hid hnb
      rw [hnb] at CN
      have CN2 := Lib.hid CN
      clear CN hnb HNB
      by_cases hl : 1 ≤ s.F.length ∧ s.F.length ≤ 4
      case neg =>
        have HR := Lib.hid (HBAD.out s rfl (.inl (srcB_len hl)))
        by_cases hl1 : s.F.length < 1
        · go_wp2_with fail
          refine (CN2.out _).mono ?_
          rintro e w2 ⟨rfl, rfl⟩
          go_wp2
          go_ret
          exact ⟨ret_bool HR.out.symm, HB.out.alloc HB.out.size _⟩
        · have hl4 : 4 < s.F.length := by omega
          clear hl
          go_wp2_with fail
          refine (CN2.out _).mono ?_
          rintro e w2 ⟨rfl, rfl⟩
          go_wp2
          go_ret
          exact ⟨ret_bool HR.out.symm, HB.out.alloc HB.out.size _⟩
      obtain ⟨hl1, hl4⟩ := hl
      obtain ⟨fb, foff, rfl, hfb, _⟩ := row_str HROW.out 0 hl1
      generalize hgF : s.F.length = m at *
      have HGF := Lib.hid hgF
      clear hgF
      have hkc : (k : Int) ≤ (c : Int) := by omega
      have hk0 : (0 : Int) ≤ (k : Int) := by omega
      go_wp2_with fail
      refine (CN2.out _).mono ?_
      rintro e w2 ⟨rfl, rfl⟩
      go_wp2
      rename World => wo
      go_loopw [40] (fun t wr => ∃ j : Nat, j ≤ k ∧ t = .int .i64 (j : Int) ∧ Hid (dupB (S.take j) s.K = false) ∧ Below (wo.alloc (.cells #[.string s.K, .slice (some ⟨fb, foff, none⟩) m fc] 40)).heap.size (wo.alloc (.cells #[.string s.K, .slice (some ⟨fb, foff, none⟩) m fc] 40)) wr) (fun t _ => k - (intOf t).toNat)
      case atStart => exact ⟨0, Nat.zero_le _, rfl, rfl, Below.refl _ _⟩
      case round =>
        obtain ⟨j, hj, rfl, HD, hbq⟩ := hrel
        have hbq1 := below_new hbq
        have hbw := HB.out.trans (hbq1.mono hwr)
        have c0 : wr.cell? ⟨wo.heap.size, 0, none⟩ = some (.string s.K) := kept_new hbq 0
        have c1 : wr.cell? ⟨wo.heap.size, 1, none⟩ = some (.slice (some ⟨fb, foff, none⟩) m fc) := kept_new hbq 1
        have hwr := hbq.size
        simp only [World.size_alloc] at hwr
        have hltq : wo.heap.size < wr.heap.size := by omega
        have HBQ := Lib.hid hbq; have HBW := Lib.hid hbw; have HBQ1 := Lib.hid hbq1
        clear hbq hbw hbq1
        by_cases hjk : j < k
        · have hjS : j < S.length := by omega
          obtain ⟨ga, gc, hbl2, y0, y1⟩ := src_cell (H.out.below HBW.out) j hjS
          have HDS := dupB_snoc hjS s.K
          rw [HD.out, Bool.false_or] at HDS
          have hty := tl_yn S[j].K s.K
          have HAT : Hid (S[j].K = s.K → dupB (S.take k) s.K = true) := fun e => dupB_at hjS hjk e
          have hK2 := (HS.out _ (List.getElem_mem hjS)).1
          generalize S[j].K = K2 at *
          generalize S[j].F.length = m2 at *
          by_cases he : K2 = s.K
          · have HR := Lib.hid (HBAD.out s rfl (.inr (HAT.out he)))
            rw [decide_eq_true he] at hty HDS
            clear he HDS HD
            go_wp2
            go_ret
            exact ⟨ret_bool HR.out.symm, HBW.out.alloc HBW.out.size _⟩
          · rw [decide_eq_false he] at hty HDS
            have HD2 := Lib.hid HDS
            clear he HDS HD
            go_wp2
            go_roundw
            case rel => exact ⟨j + 1, by omega, by go_num, HD2.out, HBQ.out.alloc HBQ.out.size _⟩
            case measure => simp [intOf]; omega
        · obtain rfl : j = k := by omega
          obtain ⟨_, z0⟩ := row_cell (HROW.out.below (Nat.le_refl _) HBQ1.out) 0 (by rw [HGF.out]; omega)
          have HF0 : Hid (∀ F0, F0 = s.F[0]'(by rw [HGF.out]; omega) → m = 1 → bl F0 = noneL → okTo S (j + 1) = true) := fun F0 e h1 h2 => HOK.out s rfl (srcB_none HNM.out (by rw [HGF.out]; exact h1) (by rw [← e]; exact h2)) HD.out
          have HNN : Hid (¬ (m = 1 ∧ bl (s.F[0]'(by rw [HGF.out]; omega)) = noneL) → ∀ i (h : i < s.F.length), ¬ (bl s.F[i] = noneL ∧ ¬ 1 < s.F.length)) := fun h i hi e => by
            have h1 : s.F.length = 1 := by omega
            obtain rfl : i = 0 := by omega
            exact h ⟨by rw [← HGF.out]; exact h1, e.1⟩
          have hty := tl_lit (s.F[0]'(by rw [HGF.out]; omega)) noneL
          generalize s.F[0]'(by rw [HGF.out]; omega) = F0 at *
          simp only [Nat.add_zero] at z0
          have hm0 : (0 : Int) < (m : Int) := by omega
          have hcase : (m = 1 ∧ bl F0 = noneL) ∨ (m = 1 ∧ ¬ bl F0 = noneL) ∨ ¬ m = 1 := by
            by_cases h1 : m = 1 <;> by_cases h2 : bl F0 = noneL <;> simp [h1, h2]
          rcases hcase with ⟨h1, h2⟩ | ⟨h1, h2⟩ | h1
          · have HK2 := Lib.hid (HF0.out F0 rfl h1 h2)
            rw [decide_eq_true h2] at hty
            have hm1 : ((m : Int) == 1) = true := by rw [h1]; rfl
            unfold noneL at hty
            clear h2 h1
            go_wp2
            go_roundw
            case rel => exact ⟨j + 1, by omega, by go_num, HK2.out, HBW.out⟩
            case measure => simp [intOf]; omega
          · have hm1 : ((m : Int) == 1) = true := by rw [h1]; rfl
            rw [decide_eq_false h2] at hty
            have HX : ¬ (m = 1 ∧ bl F0 = noneL) := fun e => h2 e.2
            have hty2 : (F0.toList == [110, 111, 110, 101]) = false := hty
            have HN3 := Lib.hid (HNN.out HX)
            clear HNN HF0 hty HX h1 h2
            go_wp2
            clear z0 hty2
            rename World => wi
            have hwi := HBQ.out.size
            go_loopw [64] (fun t wr => ∃ i : Nat, i ≤ m ∧ t = .int .i64 (i : Int) ∧ Hid (wordsB (s.F.take i) = true) ∧ wr = wi) (fun t _ => m - (intOf t).toNat)
            case atStart => exact ⟨0, Nat.zero_le _, rfl, rfl, rfl⟩
            case round =>
              obtain ⟨i, hi, rfl, HW, rfl⟩ := hrel
              by_cases him : i < m
              · have hiF : i < s.F.length := by rw [HGF.out]; exact him
                obtain ⟨hfl, z1⟩ := row_cell (HROW.out.below (Nat.le_refl _) HBQ1.out) i hiF
                have HWS := wordsB_snoc hiF
                rw [HW.out, Bool.true_and] at HWS
                have HBW1 : Hid (wordB (bl s.F[i]) = false → validB S = false) := fun h => HBAD.out s rfl (.inl (srcB_word hiF h (HN3.out i hiF)))
                have hts : s.F[i].size ≤ 1048576 := HSO.out.2.2 _ (List.getElem_mem _)
                have hwe := wordI_eq (bl s.F[i])
                rw [← hwe] at HWS HBW1
                have CT := Lib.hid (fun W => trim_any s.F[i] W)
                have hcs : (mkS (cutW (bl s.F[i]))).size ≤ 1048576 := by
                  rw [mkS_size]; unfold cutW
                  split
                  · rw [List.length_drop, bl_len]; omega
                  · rw [bl_len]; omega
                have CO : ∀ W, Calls Tryd.prog 36 #[.string (mkS (cutW (bl s.F[i])))] W fun e w' => e = .returned (.bool (hostB (cutW (bl s.F[i])))) ∧ W = w' := fun W => by
                  have h := impl_hostOk (mkS (cutW (bl s.F[i]))) W (by omega)
                  rwa [bl_mkS] at h
                have y0 : (s.F[i].toList == [115, 101, 108, 102]) = decide (bl s.F[i] = selfL) := tl_lit _ _
                have y1 : ((mkS (cutW (bl s.F[i]))).toList == [115, 101, 108, 102]) = decide (cutW (bl s.F[i]) = selfL) := by rw [tl_lit, bl_mkS]; rfl
                have y2 : ((mkS (cutW (bl s.F[i]))).toList == [110, 111, 110, 101]) = decide (cutW (bl s.F[i]) = noneL) := by rw [tl_lit, bl_mkS]; rfl
                unfold wordI at HWS HBW1
                simp only [decide_not] at HWS HBW1
                generalize decide (bl s.F[i] = selfL) = d0 at *
                generalize decide (cutW (bl s.F[i]) = selfL) = d1 at *
                generalize decide (cutW (bl s.F[i]) = noneL) = d2 at *
                generalize hostB (cutW (bl s.F[i])) = d3 at *
                generalize mkS (cutW (bl s.F[i])) = ct at *
                generalize s.F[i] = t at *
                clear hwe
                have CO2 := Lib.hid CO
                have HWS2 := Lib.hid HWS
                clear CO HWS
                cases d0
                case true =>
                  have HWN : Hid (wordsB (s.F.take (i + 1)) = true) := HWS2.out
                  go_wp2_with fail
                  refine (CT.out _).mono ?_
                  rintro e w3 ⟨rfl, rfl⟩
                  go_wp2
                  go_roundw
                  case rel => exact ⟨i + 1, by omega, by go_num, HWN.out, trivial⟩
                  case measure => simp [intOf]; omega
                cases d3
                case false =>
                  have HR := Lib.hid (HBW1.out rfl)
                  go_wp2_with fail
                  refine (CT.out _).mono ?_
                  rintro e w3 ⟨rfl, rfl⟩
                  go_wp2_with fail
                  refine (CO2.out _).mono ?_
                  rintro e w3 ⟨rfl, rfl⟩
                  go_wp2
                  go_ret
                  exact ⟨ret_bool HR.out.symm, HBW.out⟩
                cases d1
                case true =>
                  have HR := Lib.hid (HBW1.out rfl)
                  go_wp2_with fail
                  refine (CT.out _).mono ?_
                  rintro e w3 ⟨rfl, rfl⟩
                  go_wp2_with fail
                  refine (CO2.out _).mono ?_
                  rintro e w3 ⟨rfl, rfl⟩
                  go_wp2
                  go_ret
                  exact ⟨ret_bool HR.out.symm, HBW.out⟩
                cases d2
                case true =>
                  have HR := Lib.hid (HBW1.out rfl)
                  go_wp2_with fail
                  refine (CT.out _).mono ?_
                  rintro e w3 ⟨rfl, rfl⟩
                  go_wp2_with fail
                  refine (CO2.out _).mono ?_
                  rintro e w3 ⟨rfl, rfl⟩
                  go_wp2
                  go_ret
                  exact ⟨ret_bool HR.out.symm, HBW.out⟩
                have HWN : Hid (wordsB (s.F.take (i + 1)) = true) := HWS2.out
                go_wp2_with fail
                refine (CT.out _).mono ?_
                rintro e w3 ⟨rfl, rfl⟩
                go_wp2_with fail
                refine (CO2.out _).mono ?_
                rintro e w3 ⟨rfl, rfl⟩
                go_wp2
                go_roundw
                case rel => exact ⟨i + 1, by omega, by go_num, HWN.out, trivial⟩
                case measure => simp [intOf]; omega
              · obtain rfl : i = m := by omega
                have HALL : Hid (wordsB s.F = true) := by have := HW.out; rwa [List.take_of_length_le (by rw [HGF.out]; exact Nat.le_refl _)] at this
                have HK2 := Lib.hid (HOK.out s rfl (srcB_yes HNM.out (by rw [HGF.out]; exact hl1) (by rw [HGF.out]; exact hl4) HALL.out) HD.out)
                go_wp2
                go_roundw
                case rel => exact ⟨j + 1, by omega, by go_num, HK2.out, HBW.out⟩
                case measure => simp [intOf]; omega
          · have hm1 : ((m : Int) == 1) = false := by rw [beq_eq_false_iff_ne]; omega
            have HX : ¬ (m = 1 ∧ bl F0 = noneL) := fun e => h1 e.1
            have HN3 := Lib.hid (HNN.out HX)
            clear HNN HF0 hty HX h1
            clear z0
            go_wp2
            rename World => wi
            have hwi := HBQ.out.size
            go_loopw [64] (fun t wr => ∃ i : Nat, i ≤ m ∧ t = .int .i64 (i : Int) ∧ Hid (wordsB (s.F.take i) = true) ∧ wr = wi) (fun t _ => m - (intOf t).toNat)
            case atStart => exact ⟨0, Nat.zero_le _, rfl, rfl, rfl⟩
            case round =>
              obtain ⟨i, hi, rfl, HW, rfl⟩ := hrel
              by_cases him : i < m
              · have hiF : i < s.F.length := by rw [HGF.out]; exact him
                obtain ⟨hfl, z1⟩ := row_cell (HROW.out.below (Nat.le_refl _) HBQ1.out) i hiF
                have HWS := wordsB_snoc hiF
                rw [HW.out, Bool.true_and] at HWS
                have HBW1 : Hid (wordB (bl s.F[i]) = false → validB S = false) := fun h => HBAD.out s rfl (.inl (srcB_word hiF h (HN3.out i hiF)))
                have hts : s.F[i].size ≤ 1048576 := HSO.out.2.2 _ (List.getElem_mem _)
                have hwe := wordI_eq (bl s.F[i])
                rw [← hwe] at HWS HBW1
                have CT := Lib.hid (fun W => trim_any s.F[i] W)
                have hcs : (mkS (cutW (bl s.F[i]))).size ≤ 1048576 := by
                  rw [mkS_size]; unfold cutW
                  split
                  · rw [List.length_drop, bl_len]; omega
                  · rw [bl_len]; omega
                have CO : ∀ W, Calls Tryd.prog 36 #[.string (mkS (cutW (bl s.F[i])))] W fun e w' => e = .returned (.bool (hostB (cutW (bl s.F[i])))) ∧ W = w' := fun W => by
                  have h := impl_hostOk (mkS (cutW (bl s.F[i]))) W (by omega)
                  rwa [bl_mkS] at h
                have y0 : (s.F[i].toList == [115, 101, 108, 102]) = decide (bl s.F[i] = selfL) := tl_lit _ _
                have y1 : ((mkS (cutW (bl s.F[i]))).toList == [115, 101, 108, 102]) = decide (cutW (bl s.F[i]) = selfL) := by rw [tl_lit, bl_mkS]; rfl
                have y2 : ((mkS (cutW (bl s.F[i]))).toList == [110, 111, 110, 101]) = decide (cutW (bl s.F[i]) = noneL) := by rw [tl_lit, bl_mkS]; rfl
                unfold wordI at HWS HBW1
                simp only [decide_not] at HWS HBW1
                generalize decide (bl s.F[i] = selfL) = d0 at *
                generalize decide (cutW (bl s.F[i]) = selfL) = d1 at *
                generalize decide (cutW (bl s.F[i]) = noneL) = d2 at *
                generalize hostB (cutW (bl s.F[i])) = d3 at *
                generalize mkS (cutW (bl s.F[i])) = ct at *
                generalize s.F[i] = t at *
                clear hwe
                have CO2 := Lib.hid CO
                have HWS2 := Lib.hid HWS
                clear CO HWS
                cases d0
                case true =>
                  have HWN : Hid (wordsB (s.F.take (i + 1)) = true) := HWS2.out
                  go_wp2_with fail
                  refine (CT.out _).mono ?_
                  rintro e w3 ⟨rfl, rfl⟩
                  go_wp2
                  go_roundw
                  case rel => exact ⟨i + 1, by omega, by go_num, HWN.out, trivial⟩
                  case measure => simp [intOf]; omega
                cases d3
                case false =>
                  have HR := Lib.hid (HBW1.out rfl)
                  go_wp2_with fail
                  refine (CT.out _).mono ?_
                  rintro e w3 ⟨rfl, rfl⟩
                  go_wp2_with fail
                  refine (CO2.out _).mono ?_
                  rintro e w3 ⟨rfl, rfl⟩
                  go_wp2
                  go_ret
                  exact ⟨ret_bool HR.out.symm, HBW.out⟩
                cases d1
                case true =>
                  have HR := Lib.hid (HBW1.out rfl)
                  go_wp2_with fail
                  refine (CT.out _).mono ?_
                  rintro e w3 ⟨rfl, rfl⟩
                  go_wp2_with fail
                  refine (CO2.out _).mono ?_
                  rintro e w3 ⟨rfl, rfl⟩
                  go_wp2
                  go_ret
                  exact ⟨ret_bool HR.out.symm, HBW.out⟩
                cases d2
                case true =>
                  have HR := Lib.hid (HBW1.out rfl)
                  go_wp2_with fail
                  refine (CT.out _).mono ?_
                  rintro e w3 ⟨rfl, rfl⟩
                  go_wp2_with fail
                  refine (CO2.out _).mono ?_
                  rintro e w3 ⟨rfl, rfl⟩
                  go_wp2
                  go_ret
                  exact ⟨ret_bool HR.out.symm, HBW.out⟩
                have HWN : Hid (wordsB (s.F.take (i + 1)) = true) := HWS2.out
                go_wp2_with fail
                refine (CT.out _).mono ?_
                rintro e w3 ⟨rfl, rfl⟩
                go_wp2_with fail
                refine (CO2.out _).mono ?_
                rintro e w3 ⟨rfl, rfl⟩
                go_wp2
                go_roundw
                case rel => exact ⟨i + 1, by omega, by go_num, HWN.out, trivial⟩
                case measure => simp [intOf]; omega
              · obtain rfl : i = m := by omega
                have HALL : Hid (wordsB s.F = true) := by have := HW.out; rwa [List.take_of_length_le (by rw [HGF.out]; exact Nat.le_refl _)] at this
                have HK2 := Lib.hid (HOK.out s rfl (srcB_yes HNM.out (by rw [HGF.out]; exact hl1) (by rw [HGF.out]; exact hl4) HALL.out) HD.out)
                go_wp2
                go_roundw
                case rel => exact ⟨j + 1, by omega, by go_num, HK2.out, HBW.out⟩
                case measure => simp [intOf]; omega
    · obtain rfl : k = n := by omega
      have HR : Hid (validB S = true) := valid_yes (by rw [HN.out]; omega) (by rw [HN.out]; exact HK.out)
      go_wp2
      go_ret
      exact ⟨ret_bool HR.out.symm, hb⟩
end Go.Proofs.YtpplagecancccaaDoor
