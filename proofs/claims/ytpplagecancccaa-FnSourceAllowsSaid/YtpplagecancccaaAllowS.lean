/- SourceAllows, of the program and of the reference (printed by gen_allows.py). -/
import Derived.Test.YtpplagecancccaaAllow
namespace Go.Proofs.Ytpplagecancccaa
open Go.RowKit

def dfltS : ByteArray := ⟨#[100, 101, 102, 97, 117, 108, 116]⟩
/-- The first source of a kind. -/
def findK (S : List Src) (K : ByteArray) : Option Src := S.find? fun s => decide (s.K = K)
def allowO (o : Option Src) (home host : ByteArray) : Bool := match o with | none => true | some s => fromB s.F home host
def pickS (S : List Src) (kind : ByteArray) : Option Src := match findK S kind with | some s => some s | none => findK S dfltS
/-- Whether sources allow a host. -/
def allowR (S : List Src) (kind home host : ByteArray) : Bool := validB S && nameB (bl kind) && hostB (bl home) && hostB (bl host) && allowO (pickS S kind) home host
theorem findK_snoc {S : List Src} {k : Nat} (h : k < S.length) (K : ByteArray) : findK (S.take (k + 1)) K = (findK (S.take k) K).or (if S[k].K = K then some S[k] else none) := by
  rw [findK, findK, List.take_succ_eq_append_getElem h, List.find?_append]
  congr 1
  by_cases e : S[k].K = K
  · rw [if_pos e, List.find?_cons_of_pos (by simpa using e)]
  · rw [if_neg e, List.find?_cons_of_neg (by simpa using e)]; rfl
theorem findK_at {S : List Src} {k : Nat} (h : k < S.length) {K : ByteArray} (h0 : findK (S.take k) K = none) (he : S[k].K = K) : findK S K = some S[k] := by
  have h1 := findK_snoc h K
  rw [h0, if_pos he, Option.none_or] at h1
  generalize S[k] = s0 at *
  have e : findK S K = ((S.take (k + 1)).find? fun s => decide (s.K = K)).or ((S.drop (k + 1)).find? fun s => decide (s.K = K)) := by
    rw [← List.find?_append, List.take_append_drop]; rfl
  rw [e, show ((S.take (k + 1)).find? fun s => decide (s.K = K)) = some s0 from h1]
  rfl
theorem findK_mem {S : List Src} {K : ByteArray} {s : Src} (h : findK S K = some s) : s ∈ S := List.mem_of_find?_eq_some h
theorem srcB_words {s : Src} (h : srcB s = true) : ∀ t ∈ s.F, wordB (bl t) = true ∨ bl t = noneL := by
  unfold srcB at h
  rw [Bool.and_eq_true, List.all_eq_true] at h
  intro t ht
  have := h.2 t ht
  rw [Bool.or_eq_true, Bool.and_eq_true, decide_eq_true_iff] at this
  rcases this with h | h
  · exact .inl h
  · exact .inr h.1
theorem srcB_lenA {s : Src} (h : srcB s = true) : 1 ≤ s.F.length ∧ s.F.length ≤ 4 := by
  unfold srcB at h
  rw [Bool.and_eq_true, Bool.and_eq_true, decide_eq_true_iff] at h
  exact h.1.2
theorem valid_allA {S : List Src} (h : validB S = true) : S.length ≤ 5 ∧ ∀ k (hk : k < S.length), srcB S[k] = true := by
  unfold validB at h
  rw [Bool.and_eq_true, decide_eq_true_iff] at h
  refine ⟨h.1, fun k hk => ?_⟩
  have h1 : okTo S (k + 1) = true := by
    rcases hb : okTo S (k + 1) with _ | _
    · have := okTo_bad hb (S.length - (k + 1))
      rw [show k + 1 + (S.length - (k + 1)) = S.length by omega, h.2] at this
      cases this
    · rfl
  rw [okTo_step hk, Bool.and_eq_true, Bool.and_eq_true] at h1
  exact h1.2.1
theorem allowW_b (t home host : List UInt8) : allowW t home host = (bif decide (t = noneL) then false else bif decide (t = selfL) then decide (host = home) else bif decide (t.take 2 = starL) then (decide ((t.drop 2).length + 1 < host.length) && Lib.hasSuffix host (46 :: t.drop 2)) else decide (t = host)) := by
  unfold allowW
  by_cases h1 : t = noneL
  · rw [if_pos h1, decide_eq_true h1]; rfl
  rw [if_neg h1, decide_eq_false h1]
  by_cases h2 : t = selfL
  · rw [if_pos h2, decide_eq_true h2]; rfl
  rw [if_neg h2, decide_eq_false h2]
  by_cases h3 : t.take 2 = starL
  · rw [if_pos h3, decide_eq_true h3]; rfl
  · rw [if_neg h3, decide_eq_false h3]; rfl
theorem dec_bl (a b : ByteArray) : decide (a = b) = decide (bl a = bl b) := by
  by_cases e : a = b
  · rw [decide_eq_true e, decide_eq_true (by rw [e])]
  · rw [decide_eq_false e, decide_eq_false (fun e2 => e (bl_inj e2))]
theorem cut_any (t : ByteArray) (w : World) : Calls Try.prog 33 #[.string t, .string ⟨#[42, 46]⟩] w fun e w' => e = .returned (.tuple #[.string (mkS (cutW (bl t))), .bool (decide ((bl t).take 2 = starL))]) ∧ w = w' := by
  refine (Try.strings_CutPrefix t ⟨#[42, 46]⟩ w).mono ?_
  rintro e w' ⟨rfl, rfl⟩
  refine ⟨?_, rfl⟩
  have e : Lib.hasPrefix (bl t) [42, 46] = decide ((bl t).take 2 = starL) := by
    generalize bl t = l
    rcases l with _ | ⟨x, _ | ⟨y, l⟩⟩
    · rfl
    · simp [Lib.hasPrefix, starL, List.isPrefixOf]
    · by_cases h1 : x = 42
      · by_cases h2 : y = 46
        · subst h1; subst h2; simp [Lib.hasPrefix, starL, List.isPrefixOf]
        · simp [Lib.hasPrefix, starL, List.isPrefixOf, h2, Ne.symm h2]
      · simp [Lib.hasPrefix, starL, List.isPrefixOf, h1, Ne.symm h1]
  have e2 : Lib.trimPrefix (bl t) [42, 46] = cutW (bl t) := by
    rw [Lib.trimPrefix, cutW, e]
    by_cases h : (bl t).take 2 = starL
    · rw [if_pos h, decide_eq_true h, if_pos rfl]; rfl
    · rw [if_neg h, decide_eq_false h, if_neg (by simp)]
  show Ending.returned (.tuple #[.string ⟨(Lib.trimPrefix (bl t) [42, 46]).toArray⟩, .bool (Lib.hasPrefix (bl t) [42, 46])]) = _
  rw [e2, e]; rfl
theorem suf_any (host rest : ByteArray) (w : World) (hs : host.size ≤ 1048576) : Calls Try.prog 34 #[.string host, .string (⟨#[46]⟩ ++ rest)] w fun e w' => e = .returned (.bool (Lib.hasSuffix (bl host) (46 :: bl rest))) ∧ w = w' := by
  have hx := Try.strings_HasSuffix host (⟨#[46]⟩ ++ rest) w (by omega)
  have e : (⟨#[46]⟩ ++ rest : ByteArray).data.toList = 46 :: bl rest := by
    have : bl (⟨#[46]⟩ ++ rest) = 46 :: bl rest := by rw [bl_app]; rfl
    exact this
  rw [e] at hx
  refine hx.mono ?_
  rintro e w' ⟨rfl, rfl⟩
  exact ⟨rfl, rfl⟩
def FromV (w : World) (v : Value) (o : Option Src) : Prop := match o with | none => v = .slice none 0 0 | some s => SlS w 0 v s.F ∧ 1 ≤ s.F.length

set_option maxRecDepth 100000 in
set_option maxHeartbeats 6400000 in
theorem spec_SourceAllows (a : Option Addr) (n c : Nat) (S : List Src) (kind home host : ByteArray) (w : World) (h : SrcsAt w 0 a S) (hn : S.length = n) (hn' : n ≤ 1048576) (hs : ∀ s ∈ S, SrcOk 1048576 s) (hk1 : kind.size ≤ 1048576) (hm1 : home.size ≤ 1048576) (hh1 : host.size ≤ 1048576) :
    Calls Try.prog 17 #[.slice a n c, .string kind, .string home, .string host] w fun e w' => e = .returned (.bool (allowR S kind home host)) ∧ Below w.heap.size w w' := by
  have CV : ∀ W, SrcsAt W 0 a S → Calls Try.prog 10 #[.slice a n c] W fun e w' => e = .returned (.bool (validB S)) ∧ Below W.heap.size W w' := fun W h => spec_SourcesValid a n c S W h hn hn' hs
  have CN : ∀ W, Calls Try.prog 25 #[.string kind] W fun e w' => e = .returned (.bool (nameB (bl kind))) ∧ W = w' := fun W => spec_NameValid kind W (by omega)
  have CH1 : ∀ W, Calls Try.prog 35 #[.string home] W fun e w' => e = .returned (.bool (hostB (bl home))) ∧ W = w' := fun W => spec_l32Host home W (by omega)
  have CH2 : ∀ W, Calls Try.prog 35 #[.string host] W fun e w' => e = .returned (.bool (hostB (bl host))) ∧ W = w' := fun W => spec_l32Host host W (by omega)
  have H := Lib.hid h; have HN := Lib.hid hn; have HS := Lib.hid hs
  have HVA := Lib.hid (@valid_allA S)
  have HAR : Hid (allowR S kind home host = (validB S && nameB (bl kind) && hostB (bl home) && hostB (bl host) && allowO (pickS S kind) home host)) := rfl
  have HHB : Hid (hostB (bl host) = true → hostB (bl host) = true) := fun h => h
  clear h hn hs
  generalize validB S = vb at *
  generalize nameB (bl kind) = nb at *
  generalize hostB (bl home) = b1 at *
  generalize hb2 : hostB (bl host) = b2 at *
  have HB2 := Lib.hid hb2
  clear hb2 HHB
  generalize allowR S kind home host = r at *
  cases vb
  case false =>
    have CVh := Lib.hid CV; have CNh := Lib.hid CN; have CH1h := Lib.hid CH1; have CH2h := Lib.hid CH2
    have HR : Hid (r = false) := by show _ = _; rw [HAR.out]; simp
    clear CV CN CH1 CH2 HAR HVA
    go_enter Try.func17, Try.ntmps17
    go_wp2_with fail
    refine (CVh.out _ H.out).mono ?_
    rintro e w1 ⟨rfl, bb1⟩
    go_wp2
    go_ret
    exact ⟨ret_bool HR.out.symm, bb1⟩
  cases nb
  case false =>
    have CVh := Lib.hid CV; have CNh := Lib.hid CN; have CH1h := Lib.hid CH1; have CH2h := Lib.hid CH2
    have HR : Hid (r = false) := by show _ = _; rw [HAR.out]; simp
    clear CV CN CH1 CH2 HAR HVA
    go_enter Try.func17, Try.ntmps17
    go_wp2_with fail
    refine (CVh.out _ H.out).mono ?_
    rintro e w1 ⟨rfl, bb1⟩
    go_wp2_with fail
    refine (CNh.out _).mono ?_
    rintro e w2 ⟨rfl, rfl⟩
    go_wp2
    go_ret
    exact ⟨ret_bool HR.out.symm, bb1⟩
  cases b1
  case false =>
    have CVh := Lib.hid CV; have CNh := Lib.hid CN; have CH1h := Lib.hid CH1; have CH2h := Lib.hid CH2
    have HR : Hid (r = false) := by show _ = _; rw [HAR.out]; simp
    clear CV CN CH1 CH2 HAR HVA
    go_enter Try.func17, Try.ntmps17
    go_wp2_with fail
    refine (CVh.out _ H.out).mono ?_
    rintro e w1 ⟨rfl, bb1⟩
    go_wp2_with fail
    refine (CNh.out _).mono ?_
    rintro e w2 ⟨rfl, rfl⟩
    go_wp2_with fail
    refine (CH1h.out _).mono ?_
    rintro e w2 ⟨rfl, rfl⟩
    go_wp2
    go_ret
    exact ⟨ret_bool HR.out.symm, bb1⟩
  cases b2
  case false =>
    have CVh := Lib.hid CV; have CNh := Lib.hid CN; have CH1h := Lib.hid CH1; have CH2h := Lib.hid CH2
    have HR : Hid (r = false) := by show _ = _; rw [HAR.out]; simp
    clear CV CN CH1 CH2 HAR HVA
    go_enter Try.func17, Try.ntmps17
    go_wp2_with fail
    refine (CVh.out _ H.out).mono ?_
    rintro e w1 ⟨rfl, bb1⟩
    go_wp2_with fail
    refine (CNh.out _).mono ?_
    rintro e w2 ⟨rfl, rfl⟩
    go_wp2_with fail
    refine (CH1h.out _).mono ?_
    rintro e w2 ⟨rfl, rfl⟩
    go_wp2_with fail
    refine (CH2h.out _).mono ?_
    rintro e w2 ⟨rfl, rfl⟩
    go_wp2
    go_ret
    exact ⟨ret_bool HR.out.symm, bb1⟩
  have HR : Hid (r = allowO (pickS S kind) home host) := by show _ = _; rw [HAR.out]; simp
  obtain ⟨hS5, hall⟩ := HVA.out rfl
  have HALL := Lib.hid hall
  have hn5 : n ≤ 5 := by rw [← HN.out]; exact hS5
  have CVh := Lib.hid CV; have CNh := Lib.hid CN; have CH1h := Lib.hid CH1; have CH2h := Lib.hid CH2
  clear CV CN CH1 CH2 HAR HVA hall
  go_enter Try.func17, Try.ntmps17
  go_wp2_with fail
  refine (CVh.out _ H.out).mono ?_
  rintro e w1 ⟨rfl, bb1⟩
  go_wp2_with fail
  refine (CNh.out _).mono ?_
  rintro e w2 ⟨rfl, rfl⟩
  go_wp2_with fail
  refine (CH1h.out _).mono ?_
  rintro e w2 ⟨rfl, rfl⟩
  go_wp2_with fail
  refine (CH2h.out _).mono ?_
  rintro e w2 ⟨rfl, rfl⟩
  have BB1 := Lib.hid bb1
  have hs1 := bb1.size
  clear CVh CNh CH1h CH2h bb1
  go_wp2
  go_loopw [10] (fun t wr => ∃ q : Nat, q ≤ 2 ∧ t = .int .i64 (q : Int) ∧ Hid (1 ≤ q → findK S kind = none) ∧ Hid (2 ≤ q → findK S dfltS = none) ∧ Below (w1.alloc (.cells #[.string kind, .string ⟨#[100, 101, 102, 97, 117, 108, 116]⟩] 9 (0, 0))).heap.size (w1.alloc (.cells #[.string kind, .string ⟨#[100, 101, 102, 97, 117, 108, 116]⟩] 9 (0, 0))) wr) (fun t _ => 2 - (intOf t).toNat)
  case atStart => exact ⟨0, by omega, rfl, fun h => by omega, fun h => by omega, Below.refl _ _⟩
  case round =>
    obtain ⟨q, hq, rfl, HF1, HF2, hbq⟩ := hrel
    have hq3 : q = 0 ∨ q = 1 ∨ q = 2 := by omega
    have HBQ := Lib.hid hbq
    clear hbq
    rename World => wo
    rcases hq3 with rfl | rfl | rfl
    · go_wp2
      go_loopw [11] (fun t wr => ∃ k : Nat, k ≤ n ∧ t = .int .i64 (k : Int) ∧ Hid (findK (S.take k) kind = none) ∧ Below (w1.alloc (.cells #[.string kind, .string ⟨#[100, 101, 102, 97, 117, 108, 116]⟩] 9 (0, 0))).heap.size (w1.alloc (.cells #[.string kind, .string ⟨#[100, 101, 102, 97, 117, 108, 116]⟩] 9 (0, 0))) wr) (fun t _ => n - (intOf t).toNat)
      case atStart => exact ⟨0, Nat.zero_le _, rfl, rfl, HBQ.out⟩
      case round =>
        obtain ⟨k, hk, rfl, HK, hbk⟩ := hrel
        have hbw1 := below_new hbk
        have hbw := BB1.out.trans (hbw1.mono hs1)
        have c0 : wr.cell? ⟨w1.heap.size, 0, none⟩ = some (.string kind) := kept_new hbk 0
        by_cases hkn : k < n
        · have hkS : k < S.length := by rw [HN.out]; exact hkn
          have hk0 : (0 : Int) ≤ (k : Int) := by omega
          have hkn2 : (k : Int) < (n : Int) := by omega
          obtain ⟨b, off, v, rfl, hbl, x0, x1, x2⟩ := H.out.below hbw k hkS
          obtain ⟨fa, fc, rfl, hrow, hf1, hf2, _⟩ := x2
          have hsb := HALL.out k hkS
          have hso := HS.out _ (List.getElem_mem hkS)
          have HW := Lib.hid (srcB_words hsb)
          have hty := tl_yn S[k].K kind
          have HSN := findK_snoc hkS kind
          rw [HK.out, Option.none_or] at HSN
          have HAT : Hid (∀ s, s = S[k] → s.K = kind → findK S kind = some s) := fun s e h => by subst e; exact findK_at hkS HK.out h
          have HSO := Lib.hid hso
          have hm := hso.2.1
          have hK2 := hso.1
          clear hsb hso
          generalize S[k] = s at *
          have HROW := Lib.hid hrow
          have HBK := Lib.hid hbk; have HBW := Lib.hid hbw
          clear hrow hbk hbw HK
          by_cases he : s.K = kind
          · rw [decide_eq_true he] at hty
            have HFR : Hid (allowO (pickS S kind) home host = fromB s.F home host) := by
              have h1 := HAT.out s rfl he
              show _ = _
              rw [pickS, h1]; rfl
            have CF : Hid (∀ W, RowAt W fa (s.F.map strV) → Calls Try.prog 36 #[.slice fa s.F.length fc, .string home, .string host] W fun e w' => e = .returned (.bool (fromB s.F home host)) ∧ Below W.heap.size W w') := fun W hr => spec_l38From fa _ fc s.F home host W hr rfl (by omega) HSO.out.2.2 HB2.out HW.out hh1
            clear he HSN
            generalize fromB s.F home host = rr at *
            generalize s.K = K at *
            go_wp2
            go_quiet (fail)
            go_wp2_with fail
            refine (CF.out _ (HROW.out.below (Nat.le_refl _) (below_drewN (Below.refl _ _) _))).mono ?_
            rintro e w3 ⟨rfl, b3⟩
            go_wp2
            go_ret
            exact ⟨ret_bool (by rw [HR.out, HFR.out]), (below_drewN HBW.out _).trans (b3.mono (below_drewN HBW.out _).size)⟩
          · rw [decide_eq_false he] at hty
            rw [if_neg he] at HSN
            have HSN2 := Lib.hid HSN
            clear he HSN
            generalize s.K = K at *
            go_wp2
            go_quiet (fail)
            go_wp2
            go_roundw
            case rel => exact ⟨k + 1, by omega, by go_num, HSN2.out, below_drewN HBK.out _⟩
            case measure => simp [intOf]; omega
        · obtain rfl : k = n := by omega
          have HNO : Hid (findK S kind = none) := by
            have := HK.out
            rwa [List.take_of_length_le (by rw [HN.out]; exact Nat.le_refl _)] at this
          go_wp2
          go_roundw
          case rel => exact ⟨1, by omega, by go_num, fun _ => HNO.out, fun h => by omega, hbk⟩
          case measure => simp [intOf]
    · go_wp2
      go_loopw [11] (fun t wr => ∃ k : Nat, k ≤ n ∧ t = .int .i64 (k : Int) ∧ Hid (findK (S.take k) dfltS = none) ∧ Below (w1.alloc (.cells #[.string kind, .string ⟨#[100, 101, 102, 97, 117, 108, 116]⟩] 9 (0, 0))).heap.size (w1.alloc (.cells #[.string kind, .string ⟨#[100, 101, 102, 97, 117, 108, 116]⟩] 9 (0, 0))) wr) (fun t _ => n - (intOf t).toNat)
      case atStart => exact ⟨0, Nat.zero_le _, rfl, rfl, HBQ.out⟩
      case round =>
        obtain ⟨k, hk, rfl, HK, hbk⟩ := hrel
        have hbw1 := below_new hbk
        have hbw := BB1.out.trans (hbw1.mono hs1)
        have c0 : wr.cell? ⟨w1.heap.size, 1, none⟩ = some (.string ⟨#[100, 101, 102, 97, 117, 108, 116]⟩) := kept_new hbk 1
        by_cases hkn : k < n
        · have hkS : k < S.length := by rw [HN.out]; exact hkn
          have hk0 : (0 : Int) ≤ (k : Int) := by omega
          have hkn2 : (k : Int) < (n : Int) := by omega
          obtain ⟨b, off, v, rfl, hbl, x0, x1, x2⟩ := H.out.below hbw k hkS
          obtain ⟨fa, fc, rfl, hrow, hf1, hf2, _⟩ := x2
          have hsb := HALL.out k hkS
          have hso := HS.out _ (List.getElem_mem hkS)
          have HW := Lib.hid (srcB_words hsb)
          have hty : (S[k].K.toList == [100, 101, 102, 97, 117, 108, 116]) = decide (S[k].K = dfltS) := by rw [dec_bl]; exact tl_lit _ _
          have HSN := findK_snoc hkS dfltS
          rw [HK.out, Option.none_or] at HSN
          have HAT : Hid (∀ s, s = S[k] → s.K = dfltS → findK S dfltS = some s) := fun s e h => by subst e; exact findK_at hkS HK.out h
          have HSO := Lib.hid hso
          have hm := hso.2.1
          have hK2 := hso.1
          clear hsb hso
          generalize S[k] = s at *
          have HROW := Lib.hid hrow
          have HBK := Lib.hid hbk; have HBW := Lib.hid hbw
          clear hrow hbk hbw HK
          by_cases he : s.K = dfltS
          · rw [decide_eq_true he] at hty
            have HFR : Hid (allowO (pickS S kind) home host = fromB s.F home host) := by
              have h1 := HAT.out s rfl he
              show _ = _
              rw [pickS, HF1.out (by omega), h1]; rfl
            have CF : Hid (∀ W, RowAt W fa (s.F.map strV) → Calls Try.prog 36 #[.slice fa s.F.length fc, .string home, .string host] W fun e w' => e = .returned (.bool (fromB s.F home host)) ∧ Below W.heap.size W w') := fun W hr => spec_l38From fa _ fc s.F home host W hr rfl (by omega) HSO.out.2.2 HB2.out HW.out hh1
            clear he HSN
            generalize fromB s.F home host = rr at *
            generalize s.K = K at *
            go_wp2
            go_quiet (fail)
            go_wp2_with fail
            refine (CF.out _ (HROW.out.below (Nat.le_refl _) (below_drewN (Below.refl _ _) _))).mono ?_
            rintro e w3 ⟨rfl, b3⟩
            go_wp2
            go_ret
            exact ⟨ret_bool (by rw [HR.out, HFR.out]), (below_drewN HBW.out _).trans (b3.mono (below_drewN HBW.out _).size)⟩
          · rw [decide_eq_false he] at hty
            rw [if_neg he] at HSN
            have HSN2 := Lib.hid HSN
            clear he HSN
            generalize s.K = K at *
            go_wp2
            go_quiet (fail)
            go_wp2
            go_roundw
            case rel => exact ⟨k + 1, by omega, by go_num, HSN2.out, below_drewN HBK.out _⟩
            case measure => simp [intOf]; omega
        · obtain rfl : k = n := by omega
          have HNO : Hid (findK S dfltS = none) := by
            have := HK.out
            rwa [List.take_of_length_le (by rw [HN.out]; exact Nat.le_refl _)] at this
          go_wp2
          go_roundw
          case rel => exact ⟨2, by omega, by go_num, fun _ => HF1.out (by omega), fun _ => HNO.out, hbk⟩
          case measure => simp [intOf]
    · have HT : Hid (allowO (pickS S kind) home host = true) := by
        show _ = _
        rw [pickS, HF1.out (by omega), HF2.out (by omega)]; rfl
      go_wp2
      go_ret
      exact ⟨ret_bool (by rw [HR.out, HT.out]), BB1.out.trans ((below_new HBQ.out).mono hs1)⟩
end Go.Proofs.Ytpplagecancccaa
