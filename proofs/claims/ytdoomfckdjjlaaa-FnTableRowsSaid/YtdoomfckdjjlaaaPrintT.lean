/- The reference's TokensValid and PrintTokens on tokens as tables have them. -/
import Derived.Test.YtdoomfckdjjlaaaPrintS
namespace Go.Proofs.Ytdoomfckdjjlaaa
open Go.RowKit

/-- The facts on the token before place k. -/
def BefF (T : List Tok) (k pK : Nat) (pN : ByteArray) : Prop := ((pK : Int) != 5) = true ∧ (((pK : Int) == 2) = true ∧ (pN.toList == [115, 99, 114, 105, 112, 116]) = false ∨ ((pK : Int) == 2) = false) ∧ (∀ h : k < T.length, T[k].K = 1 → ((pK : Int) != 1) = true)
theorem BefF.at {T : List Tok} {k pK : Nat} {pN : ByteArray} (h : BefF T k pK pN) (hk : k < T.length) : PrevF T[k].K pK pN := ⟨h.1, h.2.1, h.2.2 hk⟩
theorem BefF.next {T : List Tok} {k : Nat} (hg : GoodToks T) (hk : k < T.length) : BefF T (k + 1) T[k].K T[k].N := by
  obtain ⟨hF, _, _⟩ := tokF_of (hg.1 _ (List.getElem_mem hk))
  have hA := hg.2 k
  refine ⟨?_, ?_, fun h h1 => ?_⟩
  · unfold TokF at hF
    rcases hF with ⟨h, _⟩ | ⟨h, _⟩ | ⟨h, _⟩ <;> rw [h] <;> rfl
  · unfold TokF at hF
    rcases hF with ⟨h, _⟩ | ⟨h, _, h2, _⟩ | ⟨h, _⟩
    · exact .inr (by rw [h]; rfl)
    · exact .inl ⟨by rw [h]; rfl, h2⟩
    · exact .inr (by rw [h]; rfl)
  · have : T[k].K ≠ 1 := fun h2 => hA h h2 h1
    simp
    omega
theorem frozen_row {w : World} {b i : Nat} {C : Array Value} {t : TypeId} (h : w.heap[b]? = some (.cells C t (0, 0))) : w.frozen? ⟨b, i, none⟩ = false := by simp [World.frozen?, h]
set_option maxRecDepth 100000 in
set_option maxHeartbeats 3200000 in
theorem spec_TokensValid (a : Option Addr) (n c : Nat) (T : List Tok) (w : World) (h : TokAt w a T) (hn : T.length = n) (hn' : n ≤ 60) (hg : GoodToks T) :
    Calls Try.prog 61 #[.slice a n c] w fun e w' => e = .returned (.bool true) ∧ Below w.heap.size w w' := by
  have H := Lib.hid h; have HN := Lib.hid hn; have HG := Lib.hid hg
  clear h hn hg
  have H0 : Hid ((w.alloc (.cells #[.int .i64 0, .string ⟨#[]⟩, .string ⟨#[]⟩, .slice none 0 0] 53 (0, 0))).heap[w.heap.size]? = some (.cells #[.int .i64 ((0 : Nat) : Int), .string ⟨#[]⟩, .string ⟨#[]⟩, .slice none 0 0] 53 (0, 0))) := heap_alloc_new _ _
  go_enter Try.func61, Try.ntmps61
  go_wp2
  go_loopw [4] (fun t wr => ∃ (k pK : Nat) (pN pV : ByteArray) (qa : Option Addr) (qc : Nat), k ≤ n ∧ t = .int .i64 (k : Int) ∧ Hid (wr.heap[w.heap.size]? = some (.cells #[.int .i64 (pK : Int), .string pN, .string pV, .slice qa 0 qc] 53 (0, 0))) ∧ Hid (BefF T k pK pN) ∧ Below w.heap.size w wr) (fun t _ => n - (intOf t).toNat)
  case atStart => exact ⟨0, 0, ⟨#[]⟩, ⟨#[]⟩, none, 0, Nat.zero_le _, rfl, H0.out, ⟨rfl, .inr rfl, fun _ _ => rfl⟩, (Below.refl _ _).alloc (Nat.le_refl _) _⟩
  case round =>
    obtain ⟨k, pK, pN, pV, qa, qc, hk, rfl, HQ, HB, hb⟩ := hrel
    have BW := Lib.hid hb
    have hws := hb.size
    clear hb H0
    have hl2 := bld_lt HQ.out
    have y0 : wr.cell? ⟨w.heap.size, 0, none⟩ = some (.int .i64 (pK : Int)) := by rw [cell_of_row wr _ 0 _ _ _ HQ.out]; rfl
    have y1 : wr.cell? ⟨w.heap.size, 1, none⟩ = some (.string pN) := by rw [cell_of_row wr _ 1 _ _ _ HQ.out]; rfl
    have y2 : wr.cell? ⟨w.heap.size, 2, none⟩ = some (.string pV) := by rw [cell_of_row wr _ 2 _ _ _ HQ.out]; rfl
    have y3 : wr.cell? ⟨w.heap.size, 3, none⟩ = some (.slice qa 0 qc) := by rw [cell_of_row wr _ 3 _ _ _ HQ.out]; rfl
    by_cases hkn : k < n
    · have hkT : k < T.length := by rw [HN.out]; exact hkn
      obtain ⟨b, off, _, _, rfl, hl0, _⟩ := H.out k hkT
      obtain ⟨pa, pc, hl1, x0, x1, x2, x3⟩ := tok_cell (H.out.below BW.out) k hkT
      have HP := Lib.hid (HB.out.at hkT)
      have HX := Lib.hid (BefF.next HG.out hkT)
      obtain ⟨hF, hNs, hVs⟩ := tokF_of (HG.out.1 _ (List.getElem_mem hkT))
      have k0 : (0 : Int) ≤ (k : Int) := by omega
      have k1 : (k : Int) < (n : Int) := by omega
      generalize T[k] = t at *
      obtain ⟨tK, tN, tV⟩ := t
      simp only at x0 x1 x2 HP HX hNs hVs
      have CL := Lib.hid (fun W => spec_l6Token tK pK tN tV pN pV pa qa pc qc W hF hNs hVs HP.out)
      clear hF HP hNs hVs HB
      go_wp2
      go_region_held3 (fun w' => w'.cell? ⟨b, off + k * 4, none⟩ = some (.int .i64 (tK : Int)) ∧ w'.cell? ⟨b, off + k * 4 + 1, none⟩ = some (.string tN) ∧ w'.cell? ⟨b, off + k * 4 + 2, none⟩ = some (.string tV) ∧ w'.cell? ⟨b, off + k * 4 + 3, none⟩ = some (.slice pa 0 pc) ∧ w'.cell? ⟨w.heap.size, 0, none⟩ = some (.int .i64 (pK : Int)) ∧ w'.cell? ⟨w.heap.size, 1, none⟩ = some (.string pN) ∧ w'.cell? ⟨w.heap.size, 2, none⟩ = some (.string pV) ∧ w'.cell? ⟨w.heap.size, 3, none⟩ = some (.slice qa 0 qc)) (go_keep) (first | (go_at_call 81; refine (CL.out _).mono ?_; rintro e w1 ⟨rfl, hb1⟩; obtain ⟨hcc, _⟩ := bcell hb1; have z0 := (hcc _ (off + k * 4) hl1).trans x0; have z1 := (hcc _ (off + k * 4 + 1) hl1).trans x1; have z2 := (hcc _ (off + k * 4 + 2) hl1).trans x2; have z3 := (hcc _ (off + k * 4 + 3) hl1).trans x3; have z4 := (hcc _ 0 hl2).trans y0; have z5 := (hcc _ 1 hl2).trans y1; have z6 := (hcc _ 2 hl2).trans y2; have z7 := (hcc _ 3 hl2).trans y3; clear hcc))
      have HB1 := Lib.hid (BW.out.drew.trans (hb1.mono BW.out.size))
      have HQ1 : Hid (w1.heap[w.heap.size]? = some (.cells #[.int .i64 (pK : Int), .string pN, .string pV, .slice qa 0 qc] 53 (0, 0))) := (hb1.block _ hl2).trans HQ.out
      have f0 : w1.frozen? ⟨w.heap.size, 0, none⟩ = false := frozen_row HQ1.out
      have f1 : w1.frozen? ⟨w.heap.size, 1, none⟩ = false := frozen_row HQ1.out
      have f2 : w1.frozen? ⟨w.heap.size, 2, none⟩ = false := frozen_row HQ1.out
      have f3 : w1.frozen? ⟨w.heap.size, 3, none⟩ = false := frozen_row HQ1.out
      clear hb1
      go_wp2
      go_roundw
      case rel => exact ⟨k + 1, tK, tN, tV, pa, pc, by omega, by go_num, heap_setCell_same _ _ 3 _ _ (.slice pa 0 pc) (heap_setCell_same _ _ 2 _ _ (.string tV) (heap_setCell_same _ _ 1 _ _ (.string tN) (heap_setCell_same _ _ 0 _ _ (.int .i64 (tK : Int)) HQ1.out))), HX, (((HB1.out.setCell (p := ⟨w.heap.size, 0, none⟩) (Nat.le_refl _) _).setCell (p := ⟨w.heap.size, 1, none⟩) (Nat.le_refl _) _).setCell (p := ⟨w.heap.size, 2, none⟩) (Nat.le_refl _) _).setCell (p := ⟨w.heap.size, 3, none⟩) (Nat.le_refl _) _⟩
      case measure => simp [intOf]; omega
    · obtain rfl : k = n := by omega
      obtain ⟨p5, p2, _⟩ := HB.out
      have q5 : ((pK : Int) == 5) = false := by simpa [bne] using p5
      have hc : (k : Int) ≤ 60 := by omega
      rcases p2 with ⟨p2, ps⟩ | p2
      · go_wp2
        go_ret
        exact ⟨rfl, BW.out⟩
      · go_wp2
        go_ret
        exact ⟨rfl, BW.out⟩
/-- The markup of a table's tokens has no bad byte. -/
theorem esc_ok {l : List UInt8} (h : l.all okC = true) : (escR l).all okC = true := by
  rw [List.all_eq_true] at h ⊢
  intro x hx
  obtain ⟨b, hb, hxb⟩ := List.mem_flatMap.1 hx
  rcases ent_cases b with (rfl | rfl | rfl | rfl | rfl) | ⟨he, _⟩
  · exact (by decide : ∀ y ∈ escB 38, okC y = true) x hxb
  · exact (by decide : ∀ y ∈ escB 60, okC y = true) x hxb
  · exact (by decide : ∀ y ∈ escB 62, okC y = true) x hxb
  · exact (by decide : ∀ y ∈ escB 34, okC y = true) x hxb
  · exact (by decide : ∀ y ∈ escB 39, okC y = true) x hxb
  · unfold escB at hxb
    rw [if_pos he, List.mem_singleton] at hxb
    subst hxb
    exact h _ hb
theorem name_ok {N : ByteArray} (h : N = tableS ∨ N = trS ∨ N = tdS) : (bl N).all okC = true := by
  rcases h with rfl | rfl | rfl <;> rfl
theorem printT_ok {t : Tok} (h : GoodTok t) : (printT t).all okC = true := by
  rcases h with ⟨h1, _, _, h4⟩ | ⟨h1 | h1, h2, _⟩
  · unfold textB at h4
    rw [Bool.and_eq_true] at h4
    unfold printT
    rw [if_pos h1]
    exact esc_ok h4.2
  · unfold printT
    rw [if_neg (by omega), if_pos h1, List.all_append, List.all_append, name_ok h2]
    rfl
  · unfold printT
    rw [if_neg (by omega), if_neg (by omega), List.all_append, List.all_append, name_ok h2]
    rfl
theorem printR_ok {T : List Tok} (h : ∀ t ∈ T, GoodTok t) : (printR T).all okC = true := by
  rw [List.all_eq_true]
  intro x hx
  obtain ⟨t, ht, hxt⟩ := List.mem_flatMap.1 hx
  have := printT_ok (h t ht)
  rw [List.all_eq_true] at this
  exact this x hxt
theorem printA_yes {T : List Tok} (h : ∀ t ∈ T, GoodTok t) (hl : (printR T).length ≤ 600) : printA T = (mkS (printR T), true) := by
  unfold printA
  rw [if_pos]
  unfold textB
  rw [printR_ok h, decide_eq_true hl]
  rfl
theorem printA_no {T : List Tok} {k : Nat} (hl : 600 < (printR (T.take k)).length) : printA T = (⟨#[]⟩, false) := by
  have h1 : (printR (T.take k)).length ≤ (printR T).length := by
    conv => rhs; rw [← List.take_append_drop k T]
    unfold printR
    rw [List.flatMap_append, List.length_append]
    omega
  unfold printA
  rw [if_neg]
  unfold textB
  rw [decide_eq_false (by omega)]
  simp
set_option maxRecDepth 100000 in
set_option maxHeartbeats 3200000 in
theorem spec_PrintTokens (a : Option Addr) (n c : Nat) (T : List Tok) (w : World) (h : TokAt w a T) (hn : T.length = n) (hn' : n ≤ 60) (hg : GoodToks T) :
    Calls Try.prog 35 #[.slice a n c] w fun e w' => e = .returned (.tuple #[.string (printA T).1, .bool (printA T).2]) ∧ Below w.heap.size w w' := by
  have CV := Lib.hid (spec_TokensValid a n c T w h hn hn' hg)
  have H := Lib.hid h; have HN := Lib.hid hn; have HG := Lib.hid hg.1
  clear h hn hg
  go_enter Try.func35, Try.ntmps35
  go_wp2_with fail
  refine CV.out.mono ?_
  rintro e w1 ⟨rfl, b1⟩
  have B1 := Lib.hid b1
  clear b1 CV
  go_wp2
  go_loopw [4, 5] (fun o t wr => ∃ k : Nat, k ≤ n ∧ t = .int .i64 (k : Int) ∧ o = .string (mkS (printR (T.take k))) ∧ Hid ((printR (T.take k)).length ≤ 600) ∧ Below w.heap.size w wr) (fun _ t _ => n - (intOf t).toNat)
  case atStart => exact ⟨0, Nat.zero_le _, rfl, rfl, Nat.zero_le _, B1.out⟩
  case round =>
    obtain ⟨k, hk, rfl, rfl, HL, hb⟩ := hrel
    have BW := Lib.hid hb
    have hws := hb.size
    clear hb B1
    by_cases hkn : k < n
    · have hkT : k < T.length := by rw [HN.out]; exact hkn
      obtain ⟨b, off, pa, pc, rfl, hl1, x0, x1, x2, x3⟩ := (H.out.below BW.out) k hkT
      obtain ⟨hF, hNs, hVs⟩ := tokF_of (HG.out _ (List.getElem_mem hkT))
      have HTL := printT_len (HG.out _ (List.getElem_mem hkT))
      have HT := Lib.hid (printR_take hkT)
      have k0 : (0 : Int) ≤ (k : Int) := by omega
      have k1 : (k : Int) < (n : Int) := by omega
      generalize T[k] = t at *
      obtain ⟨tK, tN, tV⟩ := t
      simp only at x0 x1 x2 hNs hVs
      have CL := Lib.hid (fun W => spec_l7Token tK tN tV pa pc W hF hNs hVs)
      clear hF hNs hVs
      have hsz : (mkS (printR (T.take k))).size + (mkS (printT ⟨tK, tN, tV⟩)).size ≤ 9223372036854775807 := by rw [mkS_size, mkS_size]; have := HL.out; omega
      have hm : mkS (printR (T.take k)) ++ mkS (printT ⟨tK, tN, tV⟩) = mkS (printR (T.take (k + 1))) := by rw [HT.out, mkS_app]
      have hM : (mkS (printR (T.take k))).size + (mkS (printT ⟨tK, tN, tV⟩)).size = (printR (T.take (k + 1))).length := by rw [← ByteArray.size_append, hm, mkS_size]
      have HM := Lib.hid hm
      have HMS := Lib.hid hM
      clear hm hM HTL HT
      generalize mkS (printT ⟨tK, tN, tV⟩) = X at *
      generalize mkS (printR (T.take k)) = A at *
      by_cases hl : 600 < (printR (T.take (k + 1))).length
      · have HR := Lib.hid (printA_no hl)
        have hl2 : 600 < A.size + X.size := by rw [HMS.out]; exact hl
        have hl3 : (600 : Int) < (A.size : Int) + (X.size : Int) := by omega
        clear hl
        go_wp2_with fail
        refine (CL.out _).mono ?_
        rintro e w2 ⟨rfl, b2⟩
        have B2 := Lib.hid (BW.out.trans (b2.mono hws))
        clear b2
        go_wp2
        exact bodyPost_ret (v := .tuple #[.string ⟨#[]⟩, .bool false]) (by simp [results, Try.results35, go_sem]) rfl ⟨by rw [HR.out], B2.out⟩
      · have hl2 : A.size + X.size ≤ 600 := by rw [HMS.out]; omega
        have hl3 : (A.size : Int) + (X.size : Int) ≤ 600 := by omega
        have HLN : Hid ((printR (T.take (k + 1))).length ≤ 600) := by show _ ≤ _; omega
        clear hl
        go_wp2_with fail
        refine (CL.out _).mono ?_
        rintro e w2 ⟨rfl, b2⟩
        have B2 := Lib.hid (BW.out.trans (b2.mono hws))
        clear b2
        go_wp2
        go_roundw
        case rel => exact ⟨k + 1, by omega, by go_num, by rw [HM.out], HLN, B2.out⟩
        case measure => simp [intOf]; omega
    · obtain rfl : k = n := by omega
      have hTk : T.take k = T := List.take_of_length_le (by rw [HN.out]; exact Nat.le_refl _)
      rw [hTk] at HL ⊢
      have HR := Lib.hid (printA_yes HG.out HL.out)
      clear hTk
      generalize printR T = P at *
      go_wp2
      exact bodyPost_ret (v := .tuple #[.string (mkS P), .bool true]) (by simp [results, Try.results35, go_sem]) rfl ⟨by rw [HR.out], BW.out⟩
end Go.Proofs.Ytdoomfckdjjlaaa
