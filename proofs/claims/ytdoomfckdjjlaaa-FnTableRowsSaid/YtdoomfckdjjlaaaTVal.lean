/- impl.TokensValid on tokens as tables have them. -/
import Derived.Test.YtdoomfckdjjlaaaTokP
namespace Go.Proofs.Ytdoomfckdjjlaaa
open Go.RowKit

theorem tok_cell {w : World} {b off : Nat} {T : List Tok} (h : TokAt w (some ⟨b, off, none⟩) T) (i : Nat) (hi : i < T.length) :
    ∃ pa pc, b < w.heap.size ∧ w.cell? ⟨b, off + i * 4, none⟩ = some (.int .i64 (T[i].K : Int)) ∧ w.cell? ⟨b, off + i * 4 + 1, none⟩ = some (.string T[i].N) ∧ w.cell? ⟨b, off + i * 4 + 2, none⟩ = some (.string T[i].V) ∧ w.cell? ⟨b, off + i * 4 + 3, none⟩ = some (.slice pa 0 pc) := by
  obtain ⟨b', off', pa, pc, e, h1, h2, h3, h4, h5⟩ := h i hi
  injection e with e
  injection e with e1 e2 _
  subst e1; subst e2
  exact ⟨pa, pc, h1, h2, h3, h4, h5⟩
theorem empty_yes {s : ByteArray} (h : s = ⟨#[]⟩) : s.toList.isEmpty = true := by subst h; rw [ByteArray.toList_eq]; rfl
theorem empty_no {s : ByteArray} (h : ¬ s = ⟨#[]⟩) : s.toList.isEmpty = false := by
  rw [ByteArray.toList_eq]
  rcases hb : s.data.toList.isEmpty with _ | _
  · rfl
  · rw [List.isEmpty_iff] at hb
    exact absurd (bl_inj (a := s) (b := ⟨#[]⟩) hb) h
/-- What the walk asks of a token. -/
def TokF (t : Tok) : Prop := (t.K = 1 ∧ t.N.toList.isEmpty = true ∧ t.V.toList.isEmpty = false ∧ textB (bl t.V) = true) ∨ (t.K = 2 ∧ nameB (bl t.N) = true ∧ (t.N.toList == [115, 99, 114, 105, 112, 116]) = false ∧ t.V.toList.isEmpty = true ∧ textB (bl t.V) = true) ∨ (t.K = 3 ∧ nameB (bl t.N) = true ∧ t.V.toList.isEmpty = true ∧ textB (bl t.V) = true)
theorem tokF_of {t : Tok} (h : GoodTok t) : TokF t ∧ t.N.size ≤ 10 ∧ t.V.size ≤ 600 := by
  have hts : ∀ V : ByteArray, textB (bl V) = true → V.size ≤ 600 := fun V hv => by
    rcases Nat.lt_or_ge 600 V.size with h1 | h1
    · rw [textB_long h1] at hv; cases hv
    · exact h1
  rcases h with ⟨h1, h2, h3, h4⟩ | ⟨h1, h2, h3⟩
  · refine ⟨.inl ⟨h1, empty_yes h2, empty_no h3, h4⟩, by rw [h2]; decide, hts _ h4⟩
  · obtain ⟨n1, n2, n3, n4⟩ := name_facts h2
    have hv : textB (bl t.V) = true := by rw [h3]; exact text_empty
    rcases h1 with h1 | h1
    · exact ⟨.inr (.inl ⟨h1, n1, n2, empty_yes h3, hv⟩), n4, hts _ hv⟩
    · exact ⟨.inr (.inr ⟨h1, n1, empty_yes h3, hv⟩), n4, hts _ hv⟩
set_option maxRecDepth 100000 in
set_option maxHeartbeats 3200000 in
theorem impl_TokensValid (a : Option Addr) (n c : Nat) (T : List Tok) (w : World) (h : TokAt w a T) (hn : T.length = n) (hn' : n ≤ 60) (hg : GoodToks T) :
    Calls Try.prog 29 #[.slice a n c] w fun e w' => e = .returned (.bool true) ∧ Below w.heap.size w w' := by
  have H := Lib.hid h; have HN := Lib.hid hn; have HG := Lib.hid hg.1; have HA := Lib.hid hg.2
  clear h hn hg
  go_enter Try.func29, Try.ntmps29
  go_wp2
  go_loopw [17] (fun t wr => ∃ k : Nat, k ≤ n ∧ t = .int .i64 (k : Int) ∧ Below w.heap.size w wr) (fun t _ => n - (intOf t).toNat)
  case atStart => exact ⟨0, Nat.zero_le _, rfl, Below.refl _ _⟩
  case round =>
    obtain ⟨k, hk, rfl, hb⟩ := hrel
    have BW := Lib.hid hb
    have hws := hb.size
    clear hb
    by_cases hkn : k < n
    · have hkT : k < T.length := by rw [HN.out]; exact hkn
      obtain ⟨b, off, _, _, rfl, _⟩ := (H.out.below BW.out) k hkT
      obtain ⟨pa, pc, hbl, x0, x1, x2, x3⟩ := tok_cell (H.out.below BW.out) k hkT
      obtain ⟨hF, hNs, hVs⟩ := tokF_of (HG.out _ (List.getElem_mem hkT))
      have k0 : (0 : Int) ≤ (k : Int) := by omega
      have k1 : (k : Int) < (n : Int) := by omega
      rcases k with _ | j
      · simp only [Nat.zero_mul, Nat.add_zero] at x0 x1 x2 x3
        generalize T[0] = t at *
        obtain ⟨tK, tN, tV⟩ := t
        simp only at x0 x1 x2 hF hNs hVs
        unfold TokF at hF
        simp only at hF
        rcases hF with ⟨rfl, h1, h2, hv⟩ | ⟨rfl, hnm, h2, h3, hv⟩ | ⟨rfl, hnm, h3, hv⟩
        · have CT := Lib.hid (fun W => (hv ▸ impl_TextValid tV W (by omega) : Calls Try.prog 40 #[.string tV] W fun e w' => e = .returned (.bool true) ∧ W = w'))
          clear hv
          go_wp2_with (first | (go_at_call 40; refine (CT.out _).mono ?_; rintro e w1 ⟨rfl, rfl⟩))
          go_roundw
          case rel => exact ⟨1, by omega, by go_num, by first | exact (BW.out.alloc hws (.cells #[.int .i64 1, .string tN, .string tV, .slice pa 0 pc] 53 (0, 0))).alloc (by simp; omega) (.cells #[.int .i64 0, .string ⟨#[]⟩, .string ⟨#[]⟩, .slice none 0 0] 53 (0, 0)) | exact ((BW.out.alloc hws (.cells #[.int .i64 1, .string tN, .string tV, .slice pa 0 pc] 53 (0, 0))).alloc (by simp; omega) _)⟩
          case measure => simp [intOf]; omega
        · have CT := Lib.hid (fun W => (hv ▸ impl_TextValid tV W (by omega) : Calls Try.prog 40 #[.string tV] W fun e w' => e = .returned (.bool true) ∧ W = w'))
          have CN := Lib.hid (fun W => (hnm ▸ impl_NameValid tN W (by omega) : Calls Try.prog 53 #[.string tN] W fun e w' => e = .returned (.bool true) ∧ W = w'))
          clear hv hnm
          go_wp2_with (first | (go_at_call 40; refine (CT.out _).mono ?_; rintro e w1 ⟨rfl, rfl⟩) | (go_at_call 53; refine (CN.out _).mono ?_; rintro e w1 ⟨rfl, rfl⟩))
          go_rounds 1
          go_roundw
          case rel => exact ⟨1, by omega, by go_num, by first | exact (BW.out.alloc hws (.cells #[.int .i64 2, .string tN, .string tV, .slice pa 0 pc] 53 (0, 0))).alloc (by simp; omega) (.cells #[.int .i64 0, .string ⟨#[]⟩, .string ⟨#[]⟩, .slice none 0 0] 53 (0, 0)) | exact ((BW.out.alloc hws (.cells #[.int .i64 2, .string tN, .string tV, .slice pa 0 pc] 53 (0, 0))).alloc (by simp; omega) _)⟩
          case measure => simp [intOf]; omega
        · have CT := Lib.hid (fun W => (hv ▸ impl_TextValid tV W (by omega) : Calls Try.prog 40 #[.string tV] W fun e w' => e = .returned (.bool true) ∧ W = w'))
          have CN := Lib.hid (fun W => (hnm ▸ impl_NameValid tN W (by omega) : Calls Try.prog 53 #[.string tN] W fun e w' => e = .returned (.bool true) ∧ W = w'))
          clear hv hnm
          go_wp2_with (first | (go_at_call 40; refine (CT.out _).mono ?_; rintro e w1 ⟨rfl, rfl⟩) | (go_at_call 53; refine (CN.out _).mono ?_; rintro e w1 ⟨rfl, rfl⟩))
          go_roundw
          case rel => exact ⟨1, by omega, by go_num, by first | exact (BW.out.alloc hws (.cells #[.int .i64 3, .string tN, .string tV, .slice pa 0 pc] 53 (0, 0))).alloc (by simp; omega) (.cells #[.int .i64 0, .string ⟨#[]⟩, .string ⟨#[]⟩, .slice none 0 0] 53 (0, 0)) | exact ((BW.out.alloc hws (.cells #[.int .i64 3, .string tN, .string tV, .slice pa 0 pc] 53 (0, 0))).alloc (by simp; omega) _)⟩
          case measure => simp [intOf]; omega
      · have hjT : j < T.length := by omega
        obtain ⟨qa, qc, _, y0, y1, y2, y3⟩ := tok_cell (H.out.below BW.out) j hjT
        obtain ⟨hP, _, _⟩ := tokF_of (HG.out _ (List.getElem_mem hjT))
        have hA : T[j + 1].K = 1 → T[j].K ≠ 1 := fun h1 h2 => HA.out j hkT h2 h1
        have j0 : (0 : Int) ≤ (j : Int) := by omega
        have j1 : (j : Int) < (n : Int) := by omega
        have j2 : IntKind.i64.wrap (j : Int) = (j : Int) := IntWalk.i64_in _ (by omega)
        generalize T[j + 1] = t at *
        generalize T[j] = pt at *
        obtain ⟨tK, tN, tV⟩ := t
        obtain ⟨pK, pN, pV⟩ := pt
        simp only at x0 x1 x2 y0 y1 y2 hF hP hA hNs hVs
        unfold TokF at hF hP
        simp only at hF hP
        have hp : ((pK : Int) == 5) = false ∧ (((pK : Int) == 2) = true ∧ (pN.toList == [115, 99, 114, 105, 112, 116]) = false ∨ ((pK : Int) == 2) = false) := by
          rcases hP with ⟨rfl, _⟩ | ⟨rfl, _, h, _⟩ | ⟨rfl, _⟩
          · exact ⟨rfl, .inr rfl⟩
          · exact ⟨rfl, .inl ⟨rfl, h⟩⟩
          · exact ⟨rfl, .inr rfl⟩
        have hA1 : tK = 1 → ((pK : Int) == 1) = false := fun h => by
          have := hA h
          simp
          omega
        obtain ⟨p5, hp2⟩ := hp
        clear hP hA
        rcases hp2 with ⟨p2, ps⟩ | p2
        · rcases hF with ⟨rfl, h1, h2, hv⟩ | ⟨rfl, hnm, h2, h3, hv⟩ | ⟨rfl, hnm, h3, hv⟩
          · have pp := hA1 rfl
            have CT := Lib.hid (fun W => (hv ▸ impl_TextValid tV W (by omega) : Calls Try.prog 40 #[.string tV] W fun e w' => e = .returned (.bool true) ∧ W = w'))
            clear hv
            go_wp2_with (first | (go_at_call 40; refine (CT.out _).mono ?_; rintro e w1 ⟨rfl, rfl⟩))
            go_roundw
            case rel => exact ⟨j + 1 + 1, by omega, by go_num, by first | exact (BW.out.alloc hws (.cells #[.int .i64 1, .string tN, .string tV, .slice pa 0 pc] 53 (0, 0))).alloc (by simp; omega) (.cells #[.int .i64 (pK : Int), .string pN, .string pV, .slice qa 0 qc] 53 (0, 0)) | exact ((BW.out.alloc hws (.cells #[.int .i64 1, .string tN, .string tV, .slice pa 0 pc] 53 (0, 0))).alloc (by simp; omega) _)⟩
            case measure => simp [intOf]; omega
          · have CT := Lib.hid (fun W => (hv ▸ impl_TextValid tV W (by omega) : Calls Try.prog 40 #[.string tV] W fun e w' => e = .returned (.bool true) ∧ W = w'))
            have CN := Lib.hid (fun W => (hnm ▸ impl_NameValid tN W (by omega) : Calls Try.prog 53 #[.string tN] W fun e w' => e = .returned (.bool true) ∧ W = w'))
            clear hv hnm
            go_wp2_with (first | (go_at_call 40; refine (CT.out _).mono ?_; rintro e w1 ⟨rfl, rfl⟩) | (go_at_call 53; refine (CN.out _).mono ?_; rintro e w1 ⟨rfl, rfl⟩))
            go_rounds 1
            go_roundw
            case rel => exact ⟨j + 1 + 1, by omega, by go_num, by first | exact (BW.out.alloc hws (.cells #[.int .i64 2, .string tN, .string tV, .slice pa 0 pc] 53 (0, 0))).alloc (by simp; omega) (.cells #[.int .i64 (pK : Int), .string pN, .string pV, .slice qa 0 qc] 53 (0, 0)) | exact ((BW.out.alloc hws (.cells #[.int .i64 2, .string tN, .string tV, .slice pa 0 pc] 53 (0, 0))).alloc (by simp; omega) _)⟩
            case measure => simp [intOf]; omega
          · have CT := Lib.hid (fun W => (hv ▸ impl_TextValid tV W (by omega) : Calls Try.prog 40 #[.string tV] W fun e w' => e = .returned (.bool true) ∧ W = w'))
            have CN := Lib.hid (fun W => (hnm ▸ impl_NameValid tN W (by omega) : Calls Try.prog 53 #[.string tN] W fun e w' => e = .returned (.bool true) ∧ W = w'))
            clear hv hnm
            go_wp2_with (first | (go_at_call 40; refine (CT.out _).mono ?_; rintro e w1 ⟨rfl, rfl⟩) | (go_at_call 53; refine (CN.out _).mono ?_; rintro e w1 ⟨rfl, rfl⟩))
            go_roundw
            case rel => exact ⟨j + 1 + 1, by omega, by go_num, by first | exact (BW.out.alloc hws (.cells #[.int .i64 3, .string tN, .string tV, .slice pa 0 pc] 53 (0, 0))).alloc (by simp; omega) (.cells #[.int .i64 (pK : Int), .string pN, .string pV, .slice qa 0 qc] 53 (0, 0)) | exact ((BW.out.alloc hws (.cells #[.int .i64 3, .string tN, .string tV, .slice pa 0 pc] 53 (0, 0))).alloc (by simp; omega) _)⟩
            case measure => simp [intOf]; omega
        · rcases hF with ⟨rfl, h1, h2, hv⟩ | ⟨rfl, hnm, h2, h3, hv⟩ | ⟨rfl, hnm, h3, hv⟩
          · have pp := hA1 rfl
            have CT := Lib.hid (fun W => (hv ▸ impl_TextValid tV W (by omega) : Calls Try.prog 40 #[.string tV] W fun e w' => e = .returned (.bool true) ∧ W = w'))
            clear hv
            go_wp2_with (first | (go_at_call 40; refine (CT.out _).mono ?_; rintro e w1 ⟨rfl, rfl⟩))
            go_roundw
            case rel => exact ⟨j + 1 + 1, by omega, by go_num, by first | exact (BW.out.alloc hws (.cells #[.int .i64 1, .string tN, .string tV, .slice pa 0 pc] 53 (0, 0))).alloc (by simp; omega) (.cells #[.int .i64 (pK : Int), .string pN, .string pV, .slice qa 0 qc] 53 (0, 0)) | exact ((BW.out.alloc hws (.cells #[.int .i64 1, .string tN, .string tV, .slice pa 0 pc] 53 (0, 0))).alloc (by simp; omega) _)⟩
            case measure => simp [intOf]; omega
          · have CT := Lib.hid (fun W => (hv ▸ impl_TextValid tV W (by omega) : Calls Try.prog 40 #[.string tV] W fun e w' => e = .returned (.bool true) ∧ W = w'))
            have CN := Lib.hid (fun W => (hnm ▸ impl_NameValid tN W (by omega) : Calls Try.prog 53 #[.string tN] W fun e w' => e = .returned (.bool true) ∧ W = w'))
            clear hv hnm
            go_wp2_with (first | (go_at_call 40; refine (CT.out _).mono ?_; rintro e w1 ⟨rfl, rfl⟩) | (go_at_call 53; refine (CN.out _).mono ?_; rintro e w1 ⟨rfl, rfl⟩))
            go_rounds 1
            go_roundw
            case rel => exact ⟨j + 1 + 1, by omega, by go_num, by first | exact (BW.out.alloc hws (.cells #[.int .i64 2, .string tN, .string tV, .slice pa 0 pc] 53 (0, 0))).alloc (by simp; omega) (.cells #[.int .i64 (pK : Int), .string pN, .string pV, .slice qa 0 qc] 53 (0, 0)) | exact ((BW.out.alloc hws (.cells #[.int .i64 2, .string tN, .string tV, .slice pa 0 pc] 53 (0, 0))).alloc (by simp; omega) _)⟩
            case measure => simp [intOf]; omega
          · have CT := Lib.hid (fun W => (hv ▸ impl_TextValid tV W (by omega) : Calls Try.prog 40 #[.string tV] W fun e w' => e = .returned (.bool true) ∧ W = w'))
            have CN := Lib.hid (fun W => (hnm ▸ impl_NameValid tN W (by omega) : Calls Try.prog 53 #[.string tN] W fun e w' => e = .returned (.bool true) ∧ W = w'))
            clear hv hnm
            go_wp2_with (first | (go_at_call 40; refine (CT.out _).mono ?_; rintro e w1 ⟨rfl, rfl⟩) | (go_at_call 53; refine (CN.out _).mono ?_; rintro e w1 ⟨rfl, rfl⟩))
            go_roundw
            case rel => exact ⟨j + 1 + 1, by omega, by go_num, by first | exact (BW.out.alloc hws (.cells #[.int .i64 3, .string tN, .string tV, .slice pa 0 pc] 53 (0, 0))).alloc (by simp; omega) (.cells #[.int .i64 (pK : Int), .string pN, .string pV, .slice qa 0 qc] 53 (0, 0)) | exact ((BW.out.alloc hws (.cells #[.int .i64 3, .string tN, .string tV, .slice pa 0 pc] 53 (0, 0))).alloc (by simp; omega) _)⟩
            case measure => simp [intOf]; omega
    · obtain rfl : k = n := by omega
      rcases k with _ | j
      · go_wp2
        go_ret
        exact ⟨rfl, BW.out⟩
      · have hjT : j < T.length := by rw [HN.out]; omega
        obtain ⟨b, off, _, _, rfl, _⟩ := (H.out.below BW.out) j hjT
        obtain ⟨qa, qc, hbl, y0, y1, y2, y3⟩ := tok_cell (H.out.below BW.out) j hjT
        obtain ⟨hP, _, _⟩ := tokF_of (HG.out _ (List.getElem_mem hjT))
        have j0 : (0 : Int) ≤ (j : Int) := by omega
        have j1 : (j : Int) < (j : Int) + 1 := by omega
        have j2 : IntKind.i64.wrap (j : Int) = (j : Int) := IntWalk.i64_in _ (by omega)
        generalize T[j] = pt at *
        obtain ⟨pK, pN, pV⟩ := pt
        simp only at y0 y1 y2 hP
        unfold TokF at hP
        simp only at hP
        have hp : ((pK : Int) == 5) = false ∧ (((pK : Int) == 2) = true ∧ (pN.toList == [115, 99, 114, 105, 112, 116]) = false ∨ ((pK : Int) == 2) = false) := by
          rcases hP with ⟨rfl, _⟩ | ⟨rfl, _, h, _⟩ | ⟨rfl, _⟩
          · exact ⟨rfl, .inr rfl⟩
          · exact ⟨rfl, .inl ⟨rfl, h⟩⟩
          · exact ⟨rfl, .inr rfl⟩
        obtain ⟨p5, hp2⟩ := hp
        clear hP
        have n5 : ((pK : Int) != 5) = true := by rw [bne, p5]; rfl
        rcases hp2 with ⟨p2, ps⟩ | p2
        · go_wp2
          go_ret
          exact ⟨rfl, BW.out.alloc hws _⟩
        · go_wp2
          go_ret
          exact ⟨rfl, BW.out.alloc hws _⟩
end Go.Proofs.Ytdoomfckdjjlaaa
