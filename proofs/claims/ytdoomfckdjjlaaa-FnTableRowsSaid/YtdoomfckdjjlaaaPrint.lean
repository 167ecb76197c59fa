/- impl.PrintTokens on tokens as tables have them. -/
import Derived.Test.YtdoomfckdjjlaaaEsc
import Derived.Test.YtdoomfckdjjlaaaTVal
namespace Go.Proofs.Ytdoomfckdjjlaaa
open Go.RowKit

def printT (t : Tok) : List UInt8 := if t.K = 1 then escR (bl t.V) else if t.K = 2 then [60] ++ bl t.N ++ [62] else [60, 47] ++ bl t.N ++ [62]
/-- The markup of tokens. -/
def printR (T : List Tok) : List UInt8 := T.flatMap printT
theorem printR_take {T : List Tok} {k : Nat} (h : k < T.length) : printR (T.take (k + 1)) = printR (T.take k) ++ printT T[k] := by
  rw [printR, printR, List.take_succ_eq_append_getElem h, List.flatMap_append, List.flatMap_cons, List.flatMap_nil, List.append_nil]
theorem strc (s : ByteArray) : Lib.strCells s = Lib.byteCells (bl s) := rfl
theorem printT_len {t : Tok} (h : GoodTok t) : (printT t).length ≤ 3613 := by
  obtain ⟨_, h1, h2⟩ := tokF_of h
  have := escR_len (bl t.V)
  rw [bl_len] at this
  unfold printT
  split
  · omega
  · split <;> (simp only [List.length_append, List.length_cons, List.length_nil, bl_len]; omega)
theorem printR_len : ∀ {T : List Tok}, (∀ t ∈ T, GoodTok t) → (printR T).length ≤ 3613 * T.length := by
  intro T
  induction T with
  | nil => intro _; simp [printR]
  | cons a T ih =>
    intro h
    have h1 := printT_len (h a (by simp))
    have h2 := ih (fun t ht => h t (by simp [ht]))
    unfold printR at h2 ⊢
    rw [List.flatMap_cons, List.length_append, List.length_cons]
    omega
/-- What PrintTokens answers. -/
def printA (T : List Tok) : ByteArray × Bool := if textB (printR T) = true then (mkS (printR T), true) else (⟨#[]⟩, false)
set_option maxRecDepth 100000 in
set_option maxHeartbeats 3200000 in
theorem impl_PrintTokens (a : Option Addr) (n c : Nat) (T : List Tok) (w : World) (h : TokAt w a T) (hn : T.length = n) (hn' : n ≤ 60) (hg : GoodToks T) :
    Calls Try.prog 34 #[.slice a n c] w fun e w' => e = .returned (.tuple #[.string (printA T).1, .bool (printA T).2]) ∧ Below w.heap.size w w' := by
  have CV := Lib.hid (impl_TokensValid a n c T w h hn hn' hg)
  have H := Lib.hid h; have HN := Lib.hid hn; have HG := Lib.hid hg.1
  clear h hn hg
  go_enter Try.func34, Try.ntmps34
  go_wp2_with fail
  refine CV.out.mono ?_
  rintro e w1 ⟨rfl, b1⟩
  have H1 := Lib.hid (H.out.below b1)
  have B1 := Lib.hid b1
  have hF := Lib.hid (Lib.fresh_isBuilder 73 5 w1)
  clear b1 H CV
  go_wp2
  go_loopw [14] (fun t wr => ∃ k : Nat, k ≤ n ∧ t = .int .i64 (k : Int) ∧ Hid (Lib.IsBuilder 73 5 w1.heap.size w1.heap.size (Lib.byteCells (printR (T.take k))) wr) ∧ Below w1.heap.size w1 wr) (fun t _ => n - (intOf t).toNat)
  case atStart => exact ⟨0, Nat.zero_le _, rfl, hF.out, (Below.refl _ _).alloc (Nat.le_refl _) _⟩
  case round =>
    obtain ⟨k, hk, rfl, HBd, hb⟩ := hrel
    have BW := Lib.hid hb
    have hws := hb.size
    clear hb hF
    by_cases hkn : k < n
    · have hkT : k < T.length := by rw [HN.out]; exact hkn
      obtain ⟨b, off, pa, pc, rfl, hbl, x0, x1, x2, x3⟩ := (H1.out.below BW.out) k hkT
      have hgt := HG.out _ (List.getElem_mem hkT)
      obtain ⟨hF, hNs, hVs⟩ := tokF_of hgt
      have HT := Lib.hid (printR_take hkT)
      have hl1 := printR_len (T := T.take k) (fun t ht => HG.out t (List.mem_of_mem_take ht))
      have hl2 : (printR (T.take k)).length ≤ 216780 := by rw [List.length_take] at hl1; omega
      have HPL := Lib.hid (printT_len hgt)
      have k0 : (0 : Int) ≤ (k : Int) := by omega
      have k1 : (k : Int) < (n : Int) := by omega
      clear hl1 hgt
      generalize T[k] = t at *
      obtain ⟨tK, tN, tV⟩ := t
      simp only at x0 x1 x2 hF hNs hVs
      unfold TokF at hF
      simp only at hF
      have hkind : tK = 1 ∨ tK = 2 ∨ tK = 3 := by
        rcases hF with ⟨h, _⟩ | ⟨h, _⟩ | ⟨h, _⟩
        · exact .inl h
        · exact .inr (.inl h)
        · exact .inr (.inr h)
      clear hF
      obtain ⟨P0, hP0⟩ : ∃ P0, printR (T.take k) = P0 := ⟨_, rfl⟩
      rw [hP0] at HBd HT hl2
      clear hP0
      have hbl0 := (World.block_lt_of_cell? _ _ x3)
      rcases hkind with rfl | rfl | rfl
      · have CE := Lib.hid (fun W => impl_EscapeText tV W (by omega))
        have HB1 := Lib.hid (bld_below HBd.out ((Below.refl wr.heap.size wr).alloc (Nat.le_refl _) (.cells #[.int .i64 1, .string tN, .string tV, .slice pa 0 pc] 53 (0, 0))))
        have BW1 := Lib.hid (BW.out.alloc hws (.cells #[.int .i64 1, .string tN, .string tV, .slice pa 0 pc] 53 (0, 0)))
        have hel := escR_len (bl tV)
        rw [bl_len] at hel
        have HT2 : Hid (Lib.byteCells P0 ++ Lib.strCells (mkS (escR (bl tV))) = Lib.byteCells (printR (T.take (k + 1)))) := by show _ = _; rw [HT.out, byte_app]; rfl
        have hw1 := BW1.out.size
        clear HPL HT
        generalize escR (bl tV) = E at *
        go_wp2_with fail
        refine (CE.out _).mono ?_
        rintro e w2 ⟨rfl, b2⟩
        have HB2 := Lib.hid (bld_below HB1.out b2)
        have BW2 := Lib.hid (BW1.out.trans (b2.mono hw1))
        have hw2 := BW2.out.size
        clear b2
        go_wp2_with fail
        refine (bld_WriteString _ _ _ (mkS E) _ HB2.out (by rw [byte_len, mkS_size]; omega) hw2).mono ?_
        rintro e w3 ⟨rfl, h3, b3, _⟩
        have HB3 := Lib.hid h3
        have BW3 := Lib.hid (BW2.out.trans b3)
        clear h3 b3
        go_wp2
        go_roundw
        case rel => exact ⟨k + 1, by omega, by go_num, by rw [← HT2.out]; exact HB3, BW3.out⟩
        case measure => simp [intOf]; omega
      · have HB1 := Lib.hid (bld_below HBd.out ((Below.refl wr.heap.size wr).alloc (Nat.le_refl _) (.cells #[.int .i64 2, .string tN, .string tV, .slice pa 0 pc] 53 (0, 0))))
        have BW1 := Lib.hid (BW.out.alloc hws (.cells #[.int .i64 2, .string tN, .string tV, .slice pa 0 pc] 53 (0, 0)))
        have HT2 : Hid (Lib.byteCells P0 ++ Lib.strCells (⟨#[60]⟩ ++ tN) ++ Lib.strCells ⟨#[62]⟩ = Lib.byteCells (printR (T.take (k + 1)))) := by
          show _ = _
          have e2 : printT ⟨2, tN, tV⟩ = [60] ++ bl tN ++ [62] := rfl
          have e3 : bl ⟨#[60]⟩ = [60] := rfl
          have e4 : bl ⟨#[62]⟩ = [62] := rfl
          rw [HT.out, strc, strc, bl_app, e2, e3, e4, ← byte_app, ← byte_app, List.append_assoc P0]
        have hw1 := BW1.out.size
        have hsz : (1 : Int) + (tN.size : Int) ≤ 9223372036854775807 := by omega
        clear HPL HT
        have CW := Lib.hid (bld_WriteString _ _ _ (⟨#[60]⟩ ++ tN) _ HB1.out (by rw [byte_len, ByteArray.size_append]; show P0.length + (1 + tN.size) ≤ _; omega) hw1)
        go_wp2_with fail
        refine (CW.out).mono ?_
        rintro e w2 ⟨rfl, h2, b2, kp2⟩
        have z3 : w2.cell? ⟨wr.heap.size, 3, none⟩ = some (.slice pa 0 pc) := kp2.cell (heap_alloc_new _ _) (by decide) (by decide)
        have HB2 := Lib.hid h2
        have BW2 := Lib.hid (BW1.out.trans b2)
        have hw2 := BW2.out.size
        clear h2 b2 kp2
        go_wp2
        have CW2 := Lib.hid (bld_WriteString _ _ _ ⟨#[62]⟩ _ HB2.out (by rw [List.length_append, byte_len, strc, byte_len, bl_app, List.length_append, bl_len, bl_len]; show P0.length + (1 + tN.size) + 1 ≤ _; omega) hw2)
        refine wp_loop_rounds 1 ?_
        rw [rounds_succ]
        go_wp2_with fail
        refine (CW2.out).mono ?_
        rintro e w3 ⟨rfl, h3, b3, _⟩
        have HB3 := Lib.hid h3
        have BW3 := Lib.hid (BW2.out.trans b3)
        clear h3 b3
        go_wp2
        go_roundw
        case rel => exact ⟨k + 1, by omega, by go_num, by rw [← HT2.out]; exact HB3, BW3.out⟩
        case measure => simp [intOf]; omega
      · have HB1 := Lib.hid (bld_below HBd.out ((Below.refl wr.heap.size wr).alloc (Nat.le_refl _) (.cells #[.int .i64 3, .string tN, .string tV, .slice pa 0 pc] 53 (0, 0))))
        have BW1 := Lib.hid (BW.out.alloc hws (.cells #[.int .i64 3, .string tN, .string tV, .slice pa 0 pc] 53 (0, 0)))
        have HT2 : Hid (Lib.byteCells P0 ++ Lib.strCells (⟨#[60, 47]⟩ ++ tN ++ ⟨#[62]⟩) = Lib.byteCells (printR (T.take (k + 1)))) := by
          show _ = _
          have e2 : printT ⟨3, tN, tV⟩ = [60, 47] ++ bl tN ++ [62] := rfl
          have e3 : bl ⟨#[60, 47]⟩ = [60, 47] := rfl
          have e4 : bl ⟨#[62]⟩ = [62] := rfl
          rw [HT.out, strc, bl_app, bl_app, e2, e3, e4, ← byte_app]
        have hw1 := BW1.out.size
        have hsz : (2 : Int) + (tN.size : Int) ≤ 9223372036854775807 := by omega
        have hsz2 : (⟨#[60, 47]⟩ ++ tN : ByteArray).size + 1 ≤ 9223372036854775807 := by rw [ByteArray.size_append]; show 2 + tN.size + 1 ≤ _; omega
        clear HPL HT
        have CW := Lib.hid (bld_WriteString _ _ _ (⟨#[60, 47]⟩ ++ tN ++ ⟨#[62]⟩) _ HB1.out (by rw [byte_len, ByteArray.size_append, ByteArray.size_append]; show P0.length + (2 + tN.size + 1) ≤ _; omega) hw1)
        go_wp2_with fail
        refine (CW.out).mono ?_
        rintro e w2 ⟨rfl, h2, b2, _⟩
        have HB2 := Lib.hid h2
        have BW2 := Lib.hid (BW1.out.trans b2)
        clear h2 b2
        go_wp2
        go_roundw
        case rel => exact ⟨k + 1, by omega, by go_num, by rw [← HT2.out]; exact HB2, BW2.out⟩
        case measure => simp [intOf]; omega
    · obtain rfl : k = n := by omega
      have hTk : T.take k = T := List.take_of_length_le (by rw [HN.out]; exact Nat.le_refl _)
      rw [hTk] at HBd
      clear hTk
      have hl := printR_len HG.out
      rw [HN.out] at hl
      have HPA : Hid (printA T = if textB (printR T) = true then (mkS (printR T), true) else (⟨#[]⟩, false)) := rfl
      generalize printR T = P at *
      have CT := fun W => impl_TextValid (mkS P) W (by rw [mkS_size]; omega)
      rw [bl_mkS] at CT
      go_wp2_with fail
      refine (Try.Builder_String_any_f _ _ P _ (Lib.IsBuilderF.of HBd.out) hws).mono ?_
      rintro e w2 ⟨rfl, h2, b2⟩
      have HB2 := Lib.hid h2
      have BW2 := Lib.hid (BW.out.trans b2)
      have hw2 := BW2.out.size
      clear h2 b2
      have emk : (⟨P.toArray⟩ : ByteArray) = mkS P := rfl
      rw [emk]
      rcases htb : textB P with _ | _
      · rw [htb] at CT HPA
        have CT2 := Lib.hid CT
        have HR : Hid (printA T = (⟨#[]⟩, false)) := HPA.out
        clear CT htb HPA
        go_wp2_with fail
        refine (CT2.out _).mono ?_
        rintro e w3 ⟨rfl, rfl⟩
        go_wp2
        exact bodyPost_ret (v := .tuple #[.string ⟨#[]⟩, .bool false]) (by simp [results, Try.results34, go_sem]) rfl ⟨by rw [HR.out], B1.out.trans (BW2.out.mono B1.out.size)⟩
      · rw [htb] at CT HPA
        have CT2 := Lib.hid CT
        have HR : Hid (printA T = (mkS P, true)) := HPA.out
        clear CT htb HPA
        go_wp2_with fail
        refine (CT2.out _).mono ?_
        rintro e w3 ⟨rfl, rfl⟩
        go_wp2_with fail
        refine (Try.Builder_String_any_f _ _ P _ HB2.out hw2).mono ?_
        rintro e w4 ⟨rfl, _, b4⟩
        have BW4 := Lib.hid (BW2.out.trans b4)
        clear b4
        rw [emk]
        go_wp2
        exact bodyPost_ret (v := .tuple #[.string (mkS P), .bool true]) (by simp [results, Try.results34, go_sem]) rfl ⟨by rw [HR.out], B1.out.trans (BW4.out.mono B1.out.size)⟩
end Go.Proofs.Ytdoomfckdjjlaaa
