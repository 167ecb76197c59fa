/- impl.Tokenize on the markup of a table (printed by gen_tokz.py). -/
import Derived.Test.YtdoomfckdjjlaaaDoorTk
namespace Go.Proofs.YtdoomfckdjjlaaaDoor
open Go.RowKit

theorem TkI.home {w W : World} {out raw : Value} {o : List Tok} {r : List UInt8} {s s2 : St} {now : Array Value} {nb : Nat} (h : TkI w out raw o r s now nb s2 W) : TkI w out raw o r s now (w.heap.size + 1) s W := ⟨h.o, h.on, h.r, h.s, h.n, h.s, h.b⟩
theorem tk_start (w : World) : TkI w (.slice (some ⟨w.heap.size, 0, none⟩) 0 0) (.slice (some ⟨w.heap.size + 1 + 1, 0, none⟩) 0 0) [] [] ⟨0, [], [], false⟩ (nowC 0) (w.heap.size + 1) ⟨0, [], [], false⟩
    ((((w.alloc (.cells #[] 45 (0, 0))).alloc (.cells #[.int .i64 0, .string ⟨#[]⟩, .string ⟨#[]⟩, .bool false] 42 (0, 0))).alloc (.cells #[] 5 (0, 0))).alloc (.cells #[.int .i64 0, .string ⟨#[]⟩, .string ⟨#[]⟩, .slice none 0 0] 45 (0, 0))) := by
  obtain ⟨⟨p0, p1, p2⟩, bx⟩ := three_new w (.cells #[] 45 (0, 0)) (.cells #[.int .i64 0, .string ⟨#[]⟩, .string ⟨#[]⟩, .bool false] 42 (0, 0)) (.cells #[] 5 (0, 0))
  have hsz : (((w.alloc (.cells #[] 45 (0, 0))).alloc (.cells #[.int .i64 0, .string ⟨#[]⟩, .string ⟨#[]⟩, .bool false] 42 (0, 0))).alloc (.cells #[] 5 (0, 0))).heap.size = w.heap.size + 1 + 1 + 1 := by simp
  have pn := heap_alloc_new (((w.alloc (.cells #[] 45 (0, 0))).alloc (.cells #[.int .i64 0, .string ⟨#[]⟩, .string ⟨#[]⟩, .bool false] 42 (0, 0))).alloc (.cells #[] 5 (0, 0))) (.cells #[.int .i64 0, .string ⟨#[]⟩, .string ⟨#[]⟩, .slice none 0 0] 45 (0, 0))
  rw [hsz] at pn
  have old : ∀ {i : Nat} {o : Obj}, (((w.alloc (.cells #[] 45 (0, 0))).alloc (.cells #[.int .i64 0, .string ⟨#[]⟩, .string ⟨#[]⟩, .bool false] 42 (0, 0))).alloc (.cells #[] 5 (0, 0))).heap[i]? = some o → ((((w.alloc (.cells #[] 45 (0, 0))).alloc (.cells #[.int .i64 0, .string ⟨#[]⟩, .string ⟨#[]⟩, .bool false] 42 (0, 0))).alloc (.cells #[] 5 (0, 0))).alloc (.cells #[.int .i64 0, .string ⟨#[]⟩, .string ⟨#[]⟩, .slice none 0 0] 45 (0, 0))).heap[i]? = some o := fun h => (Lib.alloc_old _ _ _ (bld_ltS h)).trans h
  refine ⟨⟨rfl, .inr ⟨_, 0, _, rfl, Nat.le_refl _, old p0, Nat.le_refl _, Nat.zero_le _, rfl, rfl⟩⟩, ?_, ⟨rfl, .inr ⟨_, 0, _, rfl, by omega, old p2, Nat.le_refl _, Nat.zero_le _, rfl, rfl⟩⟩, old p1, pn, old p1, bx.alloc (by rw [hsz]; omega) _⟩
  intro e
  injection e with e
  simp only at e
  omega
set_option maxRecDepth 100000 in
set_option maxHeartbeats 25600000 in
theorem impl_Tokenize (s : ByteArray) (w : World) (hv : textB (bl s) = true) (z : Cf) (hz : runC cf0 (bl s) = some z) (h0 : z.M = 0) (h60 : (flushC z).length ≤ 60) :
    Calls Tryd.prog 9 #[.string s] w fun e w' => ∃ v, e = .returned (.tuple #[v, .bool true]) ∧ w'.ownsRow w.heap.size 45 4 v (flushC z).length (tokC (flushC z)) ∧ Below w.heap.size w w' := by
  have hs6 : s.size ≤ 600 := textB_size hv
  have CV := Lib.hid (fun W => (hv ▸ impl_TextValid s W (by omega) : Calls Tryd.prog 12 #[.string s] W fun e w' => e = .returned (.bool true) ∧ W = w'))
  have HZ := Lib.hid hz; have H0 := Lib.hid h0; have H60 := Lib.hid h60
  have TS := Lib.hid (tk_start w)
  clear hv hz h0 h60
  go_enter Tryd.func9, Tryd.ntmps9
  go_wp2_with fail
  refine (CV.out _).mono ?_
  rintro e w1 ⟨rfl, rfl⟩
  go_wp2
  go_loopw [4, 6, 8] (fun out raw t wr => ∃ (k : Nat) (c : Cf), k ≤ s.size ∧ t = .int .i64 (k : Int) ∧ Hid (runC cf0 ((bl s).take k) = some c) ∧ Hid (CfOk c) ∧ c.out.length ≤ k ∧ c.raw.length ≤ k ∧ Hid (TkI w out raw c.out c.raw ⟨c.M, c.T, [], false⟩ (nowC c.M) (w.heap.size + 1) ⟨c.M, c.T, [], false⟩ wr)) (fun _ _ t _ => s.size - (intOf t).toNat)
  case atStart => exact ⟨0, cf0, Nat.zero_le _, rfl, rfl, .inl ⟨rfl, rfl⟩, Nat.le_refl _, Nat.le_refl _, TS.out⟩
  case round =>
    clear TS
    obtain ⟨k, c, hk, rfl, HR, HOK, hol, hrl, TK⟩ := hrel
    by_cases hks : k < s.size
    · have hi : (k : Int) < (s.size : Int) := by omega
      have hk0 : (0 : Int) ≤ (k : Int) := by omega
      obtain ⟨c', hst, hrn⟩ := run_next HZ.out hks HR.out
      have HRN := Lib.hid hrn
      clear hrn
      obtain ⟨co, cM, cT, cr⟩ := c
      simp only at hol hrl TK
      rcases step_cases HOK.out hst with h | h | h | h | h | h | h | h

      · as_aux_lemma =>
        obtain ⟨rfl, rfl, hb, rfl⟩ := h
        have TK0 : Hid (TkI w _ _ co cr ⟨0, [], [], false⟩ #[.int .i64 0, .string ⟨#[]⟩, .string ⟨#[]⟩, .slice none 0 0] (w.heap.size + 1) ⟨0, [], [], false⟩ wr) := TK.out
        have s0 : wr.cell? ⟨w.heap.size + 1, 0, none⟩ = some (.int .i64 0) := TK0.out.cells.1.1
        have s1 : wr.cell? ⟨w.heap.size + 1, 1, none⟩ = some (.string (mkS [])) := TK0.out.cells.1.2.1
        have s2 : wr.cell? ⟨w.heap.size + 1, 2, none⟩ = some (.string (mkS [])) := TK0.out.cells.1.2.2.1
        have s3 : wr.cell? ⟨w.heap.size + 1, 3, none⟩ = some (.bool false) := TK0.out.cells.1.2.2.2
        have CS := Lib.hid (fun W => step_00 s[k] hb W)
        simp only [st_agg] at CS
        clear TK hst HR HOK hb
        go_wp2_with fail
        refine (CS.out _).mono ?_
        rintro e w1 ⟨rfl, b1⟩
        have TK1 := Lib.hid (TK0.out.below b1)
        have TK2 : Hid (TkI w _ _ co cr ⟨0, [], [], false⟩ #[.int .i64 0, .string ⟨#[]⟩, .string ⟨#[]⟩, .slice none 0 0] w1.heap.size ⟨0, [], [], false⟩ (w1.alloc (.cells #[.int .i64 0, .string (mkS []), .string (mkS []), .bool false] 42 (0, 0)))) := TK1.out.fresh ⟨0, [], [], false⟩
        have hnS : w1.heap.size ≠ w.heap.size + 1 := by have := bld_ltS TK1.out.s; omega
        have hnN : w1.heap.size ≠ w.heap.size + 1 + 1 + 1 := by have := bld_ltS TK1.out.n; omega
        have hws := TK2.out.b.size
        clear s0 s1 s2 s3 b1 TK0 TK1
        have s0 : (w1.alloc (.cells #[.int .i64 0, .string (mkS []), .string (mkS []), .bool false] 42 (0, 0))).cell? ⟨w.heap.size + 1, 0, none⟩ = some (.int .i64 0) := TK2.out.cells.1.1
        have s1 : (w1.alloc (.cells #[.int .i64 0, .string (mkS []), .string (mkS []), .bool false] 42 (0, 0))).cell? ⟨w.heap.size + 1, 1, none⟩ = some (.string (mkS [])) := TK2.out.cells.1.2.1
        have s2 : (w1.alloc (.cells #[.int .i64 0, .string (mkS []), .string (mkS []), .bool false] 42 (0, 0))).cell? ⟨w.heap.size + 1, 2, none⟩ = some (.string (mkS [])) := TK2.out.cells.1.2.2.1
        have s3 : (w1.alloc (.cells #[.int .i64 0, .string (mkS []), .string (mkS []), .bool false] 42 (0, 0))).cell? ⟨w.heap.size + 1, 3, none⟩ = some (.bool false) := TK2.out.cells.1.2.2.2
        have f0 : (w1.alloc (.cells #[.int .i64 0, .string (mkS []), .string (mkS []), .bool false] 42 (0, 0))).frozen? ⟨w.heap.size + 1, 0, none⟩ = false := TK2.out.cells.2.2.1
        have f1 : (w1.alloc (.cells #[.int .i64 0, .string (mkS []), .string (mkS []), .bool false] 42 (0, 0))).frozen? ⟨w.heap.size + 1, 1, none⟩ = false := TK2.out.cells.2.2.2.1
        have f2 : (w1.alloc (.cells #[.int .i64 0, .string (mkS []), .string (mkS []), .bool false] 42 (0, 0))).frozen? ⟨w.heap.size + 1, 2, none⟩ = false := TK2.out.cells.2.2.2.2.1
        have f3 : (w1.alloc (.cells #[.int .i64 0, .string (mkS []), .string (mkS []), .bool false] 42 (0, 0))).frozen? ⟨w.heap.size + 1, 3, none⟩ = false := TK2.out.cells.2.2.2.2.2
        go_wp2_with (at_builtin; refine wpList_pushB2 (.tmp 45) (.tmp 47) w.heap.size s[k] _ cr.length cr TK2.out.r hws (by omega) rfl (by rfl) (by rfl) (w1.heap.size + 1) (by simp) (by rfl) ?_; intro v5 w5 o5 g5 b5; have TK5 : Hid (TkI w _ v5 co (cr ++ [s[k]]) _ _ w1.heap.size ⟨0, [], [], false⟩ w5) := TK2.out.byte o5 g5; clear o5 g5 b5; have q0 : w5.cell? ⟨w.heap.size + 1, 0, none⟩ = some (.int .i64 0) := TK5.out.cells.1.1; have q1 : w5.cell? ⟨w.heap.size + 1, 1, none⟩ = some (.string (mkS [])) := TK5.out.cells.1.2.1; have q2 : w5.cell? ⟨w.heap.size + 1, 2, none⟩ = some (.string (mkS [])) := TK5.out.cells.1.2.2.1; have q3 : w5.cell? ⟨w.heap.size + 1, 3, none⟩ = some (.bool false) := TK5.out.cells.1.2.2.2; have g0 : w5.frozen? ⟨w.heap.size + 1, 0, none⟩ = false := TK5.out.cells.2.2.1; have g1 : w5.frozen? ⟨w.heap.size + 1, 1, none⟩ = false := TK5.out.cells.2.2.2.1; have g2 : w5.frozen? ⟨w.heap.size + 1, 2, none⟩ = false := TK5.out.cells.2.2.2.2.1; have g3 : w5.frozen? ⟨w.heap.size + 1, 3, none⟩ = false := TK5.out.cells.2.2.2.2.2; have m0 : w5.cell? ⟨w1.heap.size, 0, none⟩ = some (.int .i64 0) := TK5.out.cells.2.1.1; have m1 : w5.cell? ⟨w1.heap.size, 1, none⟩ = some (.string (mkS [])) := TK5.out.cells.2.1.2.1; have m2 : w5.cell? ⟨w1.heap.size, 2, none⟩ = some (.string (mkS [])) := TK5.out.cells.2.1.2.2.1; have m3 : w5.cell? ⟨w1.heap.size, 3, none⟩ = some (.bool false) := TK5.out.cells.2.1.2.2.2)
        go_roundw
        case rel => exact ⟨k + 1, _, by omega, by go_num, HRN.out, .inl ⟨rfl, rfl⟩, by simp only; omega, by simp only [List.length_append, List.length_cons, List.length_nil]; omega, ((TK5.out.setS ⟨0, [], [], false⟩ hnS).home)⟩
        case measure => simp [intOf]; omega
      · as_aux_lemma =>
        obtain ⟨rfl, rfl, hb, rfl⟩ := h
        have TK0 : Hid (TkI w _ _ co cr ⟨0, [], [], false⟩ #[.int .i64 0, .string ⟨#[]⟩, .string ⟨#[]⟩, .slice none 0 0] (w.heap.size + 1) ⟨0, [], [], false⟩ wr) := TK.out
        have s0 : wr.cell? ⟨w.heap.size + 1, 0, none⟩ = some (.int .i64 0) := TK0.out.cells.1.1
        have s1 : wr.cell? ⟨w.heap.size + 1, 1, none⟩ = some (.string (mkS [])) := TK0.out.cells.1.2.1
        have s2 : wr.cell? ⟨w.heap.size + 1, 2, none⟩ = some (.string (mkS [])) := TK0.out.cells.1.2.2.1
        have s3 : wr.cell? ⟨w.heap.size + 1, 3, none⟩ = some (.bool false) := TK0.out.cells.1.2.2.2
        have CS := Lib.hid (fun W => step_01 s[k] hb W)
        simp only [st_agg] at CS
        clear TK hst HR HOK hb
        go_wp2_with fail
        refine (CS.out _).mono ?_
        rintro e w1 ⟨rfl, b1⟩
        have TK1 := Lib.hid (TK0.out.below b1)
        have TK2 : Hid (TkI w _ _ co cr ⟨0, [], [], false⟩ #[.int .i64 0, .string ⟨#[]⟩, .string ⟨#[]⟩, .slice none 0 0] w1.heap.size ⟨1, [], [], false⟩ (w1.alloc (.cells #[.int .i64 1, .string (mkS []), .string (mkS []), .bool false] 42 (0, 0)))) := TK1.out.fresh ⟨1, [], [], false⟩
        have hnS : w1.heap.size ≠ w.heap.size + 1 := by have := bld_ltS TK1.out.s; omega
        have hnN : w1.heap.size ≠ w.heap.size + 1 + 1 + 1 := by have := bld_ltS TK1.out.n; omega
        have hws := TK2.out.b.size
        clear s0 s1 s2 s3 b1 TK0 TK1
        have s0 : (w1.alloc (.cells #[.int .i64 1, .string (mkS []), .string (mkS []), .bool false] 42 (0, 0))).cell? ⟨w.heap.size + 1, 0, none⟩ = some (.int .i64 0) := TK2.out.cells.1.1
        have s1 : (w1.alloc (.cells #[.int .i64 1, .string (mkS []), .string (mkS []), .bool false] 42 (0, 0))).cell? ⟨w.heap.size + 1, 1, none⟩ = some (.string (mkS [])) := TK2.out.cells.1.2.1
        have s2 : (w1.alloc (.cells #[.int .i64 1, .string (mkS []), .string (mkS []), .bool false] 42 (0, 0))).cell? ⟨w.heap.size + 1, 2, none⟩ = some (.string (mkS [])) := TK2.out.cells.1.2.2.1
        have s3 : (w1.alloc (.cells #[.int .i64 1, .string (mkS []), .string (mkS []), .bool false] 42 (0, 0))).cell? ⟨w.heap.size + 1, 3, none⟩ = some (.bool false) := TK2.out.cells.1.2.2.2
        have f0 : (w1.alloc (.cells #[.int .i64 1, .string (mkS []), .string (mkS []), .bool false] 42 (0, 0))).frozen? ⟨w.heap.size + 1, 0, none⟩ = false := TK2.out.cells.2.2.1
        have f1 : (w1.alloc (.cells #[.int .i64 1, .string (mkS []), .string (mkS []), .bool false] 42 (0, 0))).frozen? ⟨w.heap.size + 1, 1, none⟩ = false := TK2.out.cells.2.2.2.1
        have f2 : (w1.alloc (.cells #[.int .i64 1, .string (mkS []), .string (mkS []), .bool false] 42 (0, 0))).frozen? ⟨w.heap.size + 1, 2, none⟩ = false := TK2.out.cells.2.2.2.2.1
        have f3 : (w1.alloc (.cells #[.int .i64 1, .string (mkS []), .string (mkS []), .bool false] 42 (0, 0))).frozen? ⟨w.heap.size + 1, 3, none⟩ = false := TK2.out.cells.2.2.2.2.2
        by_cases hr0 : cr = []
        · have HFL : Hid (flushC ⟨co, 0, [], cr⟩ = co) := by show _ = _; unfold flushC; rw [if_pos hr0]
          subst hr0
          obtain ⟨ra, rc, rfl, _⟩ := own_formn TK2.out.r
          have TK5 := Lib.hid TK2.out.drop
          go_wp2
          go_roundw
          case rel => exact ⟨k + 1, ⟨co, 1, [], []⟩, by omega, by go_num, by rw [← HFL.out]; exact HRN.out, .inr (.inl ⟨rfl, rfl, rfl⟩), by simp only; omega, by simp only [List.length_nil]; omega, ((TK5.out.setS ⟨1, [], [], false⟩ hnS).home)⟩
          case measure => simp [intOf]; omega
        · have HFL : Hid (flushC ⟨co, 0, [], cr⟩ = co ++ [⟨1, ⟨#[]⟩, mkS (unescR cr)⟩]) := by show _ = _; unfold flushC; rw [if_neg hr0]
          have hl0 : 0 < cr.length := List.length_pos_iff.2 hr0
          have hl1 : (0 : Int) < (cr.length : Int) := by omega
          obtain ⟨ra, rc, rfl, rrow, _⟩ := own_formn TK2.out.r
          have kd := conv_row _ ra cr.length rc cr rrow rfl
          have CU := Lib.hid (fun W => impl_UnescapeText (mkS cr) W (by rw [mkS_size]; omega))
          simp only [bl_mkS] at CU
          clear rrow hr0
          go_wp2_with fail
          refine (CU.out _).mono ?_
          rintro e w3 ⟨rfl, b3⟩
          have TK3 := Lib.hid (TK2.out.below b3)
          have hw3 := TK3.out.b.size
          clear b3 kd CU s0 s1 s2 s3 f0 f1 f2 f3
          have s0 : w3.cell? ⟨w.heap.size + 1, 0, none⟩ = some (.int .i64 0) := TK3.out.cells.1.1
          have s1 : w3.cell? ⟨w.heap.size + 1, 1, none⟩ = some (.string (mkS [])) := TK3.out.cells.1.2.1
          have s2 : w3.cell? ⟨w.heap.size + 1, 2, none⟩ = some (.string (mkS [])) := TK3.out.cells.1.2.2.1
          have s3 : w3.cell? ⟨w.heap.size + 1, 3, none⟩ = some (.bool false) := TK3.out.cells.1.2.2.2
          have f0 : w3.frozen? ⟨w.heap.size + 1, 0, none⟩ = false := TK3.out.cells.2.2.1
          have f1 : w3.frozen? ⟨w.heap.size + 1, 1, none⟩ = false := TK3.out.cells.2.2.2.1
          have f2 : w3.frozen? ⟨w.heap.size + 1, 2, none⟩ = false := TK3.out.cells.2.2.2.2.1
          have f3 : w3.frozen? ⟨w.heap.size + 1, 3, none⟩ = false := TK3.out.cells.2.2.2.2.2
          have mm0 : w3.cell? ⟨w1.heap.size, 0, none⟩ = some (.int .i64 1) := TK3.out.cells.2.1.1
          have mm1 : w3.cell? ⟨w1.heap.size, 1, none⟩ = some (.string (mkS [])) := TK3.out.cells.2.1.2.1
          have mm2 : w3.cell? ⟨w1.heap.size, 2, none⟩ = some (.string (mkS [])) := TK3.out.cells.2.1.2.2.1
          have mm3 : w3.cell? ⟨w1.heap.size, 3, none⟩ = some (.bool false) := TK3.out.cells.2.1.2.2.2
          generalize unescR cr = U at *
          go_wp2_with (at_builtin; refine wpList_pushTokG (.tmp 56) (.tmp 61) w.heap.size ⟨1, ⟨#[]⟩, mkS U⟩ _ co.length co TK3.out.o hw3 (by omega) rfl (by rfl) (by rfl) (w3.heap.size) (by simp) (by rfl) ?_; intro v5 w5 o5 g5 a5; have TK5 : Hid (TkI w v5 _ (co ++ [⟨1, ⟨#[]⟩, mkS U⟩]) _ _ #[.int .i64 0, .string ⟨#[]⟩, .string ⟨#[]⟩, .slice none 0 0] w1.heap.size ⟨1, [], [], false⟩ w5) := TK3.out.tok o5 g5 a5; clear o5 g5 a5; have q0 : w5.cell? ⟨w.heap.size + 1, 0, none⟩ = some (.int .i64 0) := TK5.out.cells.1.1; have q1 : w5.cell? ⟨w.heap.size + 1, 1, none⟩ = some (.string (mkS [])) := TK5.out.cells.1.2.1; have q2 : w5.cell? ⟨w.heap.size + 1, 2, none⟩ = some (.string (mkS [])) := TK5.out.cells.1.2.2.1; have q3 : w5.cell? ⟨w.heap.size + 1, 3, none⟩ = some (.bool false) := TK5.out.cells.1.2.2.2; have g0 : w5.frozen? ⟨w.heap.size + 1, 0, none⟩ = false := TK5.out.cells.2.2.1; have g1 : w5.frozen? ⟨w.heap.size + 1, 1, none⟩ = false := TK5.out.cells.2.2.2.1; have g2 : w5.frozen? ⟨w.heap.size + 1, 2, none⟩ = false := TK5.out.cells.2.2.2.2.1; have g3 : w5.frozen? ⟨w.heap.size + 1, 3, none⟩ = false := TK5.out.cells.2.2.2.2.2; have m0 : w5.cell? ⟨w1.heap.size, 0, none⟩ = some (.int .i64 1) := TK5.out.cells.2.1.1; have m1 : w5.cell? ⟨w1.heap.size, 1, none⟩ = some (.string (mkS [])) := TK5.out.cells.2.1.2.1; have m2 : w5.cell? ⟨w1.heap.size, 2, none⟩ = some (.string (mkS [])) := TK5.out.cells.2.1.2.2.1; have m3 : w5.cell? ⟨w1.heap.size, 3, none⟩ = some (.bool false) := TK5.out.cells.2.1.2.2.2)
          have TK6 := Lib.hid TK5.out.drop
          go_roundw
          case rel => exact ⟨k + 1, (⟨co ++ [(⟨1, ⟨#[]⟩, mkS U⟩ : Tok)], 1, [], []⟩ : Cf), by omega, by go_num, by rw [← HFL.out]; exact HRN.out, .inr (.inl ⟨rfl, rfl, rfl⟩), by simp only [List.length_append, List.length_cons, List.length_nil]; omega, by simp only [List.length_nil]; omega, ((TK6.out.setS ⟨1, [], [], false⟩ hnS).home)⟩
          case measure => simp [intOf]; omega
      · obtain ⟨rfl, rfl, rfl, hb, hnm, rfl⟩ := h
        have TK0 : Hid (TkI w _ _ co [] ⟨1, [], [], false⟩ #[.int .i64 0, .string ⟨#[]⟩, .string ⟨#[]⟩, .slice none 0 0] (w.heap.size + 1) ⟨1, [], [], false⟩ wr) := TK.out
        have s0 : wr.cell? ⟨w.heap.size + 1, 0, none⟩ = some (.int .i64 1) := TK0.out.cells.1.1
        have s1 : wr.cell? ⟨w.heap.size + 1, 1, none⟩ = some (.string (mkS [])) := TK0.out.cells.1.2.1
        have s2 : wr.cell? ⟨w.heap.size + 1, 2, none⟩ = some (.string (mkS [])) := TK0.out.cells.1.2.2.1
        have s3 : wr.cell? ⟨w.heap.size + 1, 3, none⟩ = some (.bool false) := TK0.out.cells.1.2.2.2
        have CS := Lib.hid (fun W => step_12 s[k] hb W)
        simp only [st_agg] at CS
        clear TK hst HR HOK hb
        go_wp2_with fail
        refine (CS.out _).mono ?_
        rintro e w1 ⟨rfl, b1⟩
        have TK1 := Lib.hid (TK0.out.below b1)
        have TK2 : Hid (TkI w _ _ co [] ⟨1, [], [], false⟩ #[.int .i64 0, .string ⟨#[]⟩, .string ⟨#[]⟩, .slice none 0 0] w1.heap.size ⟨2, [lowC s[k]], [], false⟩ (w1.alloc (.cells #[.int .i64 2, .string (mkS [lowC s[k]]), .string (mkS []), .bool false] 42 (0, 0)))) := TK1.out.fresh ⟨2, [lowC s[k]], [], false⟩
        have hnS : w1.heap.size ≠ w.heap.size + 1 := by have := bld_ltS TK1.out.s; omega
        have hnN : w1.heap.size ≠ w.heap.size + 1 + 1 + 1 := by have := bld_ltS TK1.out.n; omega
        have hws := TK2.out.b.size
        clear s0 s1 s2 s3 b1 TK0 TK1
        have s0 : (w1.alloc (.cells #[.int .i64 2, .string (mkS [lowC s[k]]), .string (mkS []), .bool false] 42 (0, 0))).cell? ⟨w.heap.size + 1, 0, none⟩ = some (.int .i64 1) := TK2.out.cells.1.1
        have s1 : (w1.alloc (.cells #[.int .i64 2, .string (mkS [lowC s[k]]), .string (mkS []), .bool false] 42 (0, 0))).cell? ⟨w.heap.size + 1, 1, none⟩ = some (.string (mkS [])) := TK2.out.cells.1.2.1
        have s2 : (w1.alloc (.cells #[.int .i64 2, .string (mkS [lowC s[k]]), .string (mkS []), .bool false] 42 (0, 0))).cell? ⟨w.heap.size + 1, 2, none⟩ = some (.string (mkS [])) := TK2.out.cells.1.2.2.1
        have s3 : (w1.alloc (.cells #[.int .i64 2, .string (mkS [lowC s[k]]), .string (mkS []), .bool false] 42 (0, 0))).cell? ⟨w.heap.size + 1, 3, none⟩ = some (.bool false) := TK2.out.cells.1.2.2.2
        have f0 : (w1.alloc (.cells #[.int .i64 2, .string (mkS [lowC s[k]]), .string (mkS []), .bool false] 42 (0, 0))).frozen? ⟨w.heap.size + 1, 0, none⟩ = false := TK2.out.cells.2.2.1
        have f1 : (w1.alloc (.cells #[.int .i64 2, .string (mkS [lowC s[k]]), .string (mkS []), .bool false] 42 (0, 0))).frozen? ⟨w.heap.size + 1, 1, none⟩ = false := TK2.out.cells.2.2.2.1
        have f2 : (w1.alloc (.cells #[.int .i64 2, .string (mkS [lowC s[k]]), .string (mkS []), .bool false] 42 (0, 0))).frozen? ⟨w.heap.size + 1, 2, none⟩ = false := TK2.out.cells.2.2.2.2.1
        have f3 : (w1.alloc (.cells #[.int .i64 2, .string (mkS [lowC s[k]]), .string (mkS []), .bool false] 42 (0, 0))).frozen? ⟨w.heap.size + 1, 3, none⟩ = false := TK2.out.cells.2.2.2.2.2
        have n0 : (w1.alloc (.cells #[.int .i64 2, .string (mkS [lowC s[k]]), .string (mkS []), .bool false] 42 (0, 0))).cell? ⟨w.heap.size + 1 + 1 + 1, 0, none⟩ = some (.int .i64 0) := (TK2.out).nows.1.1
        have n1 : (w1.alloc (.cells #[.int .i64 2, .string (mkS [lowC s[k]]), .string (mkS []), .bool false] 42 (0, 0))).cell? ⟨w.heap.size + 1 + 1 + 1, 1, none⟩ = some (.string ⟨#[]⟩) := (TK2.out).nows.1.2.1
        have n2 : (w1.alloc (.cells #[.int .i64 2, .string (mkS [lowC s[k]]), .string (mkS []), .bool false] 42 (0, 0))).cell? ⟨w.heap.size + 1 + 1 + 1, 2, none⟩ = some (.string ⟨#[]⟩) := (TK2.out).nows.1.2.2.1
        have n3 : (w1.alloc (.cells #[.int .i64 2, .string (mkS [lowC s[k]]), .string (mkS []), .bool false] 42 (0, 0))).cell? ⟨w.heap.size + 1 + 1 + 1, 3, none⟩ = some (.slice none 0 0) := (TK2.out).nows.1.2.2.2
        have nf0 : (w1.alloc (.cells #[.int .i64 2, .string (mkS [lowC s[k]]), .string (mkS []), .bool false] 42 (0, 0))).frozen? ⟨w.heap.size + 1 + 1 + 1, 0, none⟩ = false := (TK2.out).nows.2.1
        have nf1 : (w1.alloc (.cells #[.int .i64 2, .string (mkS [lowC s[k]]), .string (mkS []), .bool false] 42 (0, 0))).frozen? ⟨w.heap.size + 1 + 1 + 1, 1, none⟩ = false := (TK2.out).nows.2.2.1
        have nf2 : (w1.alloc (.cells #[.int .i64 2, .string (mkS [lowC s[k]]), .string (mkS []), .bool false] 42 (0, 0))).frozen? ⟨w.heap.size + 1 + 1 + 1, 2, none⟩ = false := (TK2.out).nows.2.2.2.1
        have nf3 : (w1.alloc (.cells #[.int .i64 2, .string (mkS [lowC s[k]]), .string (mkS []), .bool false] 42 (0, 0))).frozen? ⟨w.heap.size + 1 + 1 + 1, 3, none⟩ = false := (TK2.out).nows.2.2.2.2
        have TK5 : Hid (TkI w _ _ co [] _ #[.int .i64 2, .string ⟨#[]⟩, .string ⟨#[]⟩, .slice none 0 0] w1.heap.size ⟨2, [lowC s[k]], [], false⟩ (((((w1.alloc (.cells #[.int .i64 2, .string (mkS [lowC s[k]]), .string (mkS []), .bool false] 42 (0, 0))).setCell ⟨w.heap.size + 1 + 1 + 1, 0, none⟩ (.int .i64 2)).setCell ⟨w.heap.size + 1 + 1 + 1, 1, none⟩ (.string ⟨#[]⟩)).setCell ⟨w.heap.size + 1 + 1 + 1, 2, none⟩ (.string ⟨#[]⟩)).setCell ⟨w.heap.size + 1 + 1 + 1, 3, none⟩ (.slice none 0 0))) := (((TK2.out.setN hnN 0 (.int .i64 2)).setN hnN 1 (.string ⟨#[]⟩)).setN hnN 2 (.string ⟨#[]⟩)).setN hnN 3 (.slice none 0 0)
        go_wp2
        go_roundw
        case rel => exact ⟨k + 1, ⟨co, 2, [lowC s[k]], []⟩, by omega, by go_num, HRN.out, .inr (.inr (.inl ⟨rfl, hnm, rfl⟩)), by simp only; omega, by simp only [List.length_nil]; omega, ((TK5.out.setS ⟨2, [lowC s[k]], [], false⟩ hnS).home)⟩
        case measure => simp [intOf]; omega
      · as_aux_lemma =>
        obtain ⟨rfl, rfl, rfl, hb, rfl⟩ := h
        have TK0 : Hid (TkI w _ _ co [] ⟨1, [], [], false⟩ #[.int .i64 0, .string ⟨#[]⟩, .string ⟨#[]⟩, .slice none 0 0] (w.heap.size + 1) ⟨1, [], [], false⟩ wr) := TK.out
        have s0 : wr.cell? ⟨w.heap.size + 1, 0, none⟩ = some (.int .i64 1) := TK0.out.cells.1.1
        have s1 : wr.cell? ⟨w.heap.size + 1, 1, none⟩ = some (.string (mkS [])) := TK0.out.cells.1.2.1
        have s2 : wr.cell? ⟨w.heap.size + 1, 2, none⟩ = some (.string (mkS [])) := TK0.out.cells.1.2.2.1
        have s3 : wr.cell? ⟨w.heap.size + 1, 3, none⟩ = some (.bool false) := TK0.out.cells.1.2.2.2
        have CS := Lib.hid (fun W => step_19 s[k] hb W)
        simp only [st_agg] at CS
        clear TK hst HR HOK hb
        go_wp2_with fail
        refine (CS.out _).mono ?_
        rintro e w1 ⟨rfl, b1⟩
        have TK1 := Lib.hid (TK0.out.below b1)
        have TK2 : Hid (TkI w _ _ co [] ⟨1, [], [], false⟩ #[.int .i64 0, .string ⟨#[]⟩, .string ⟨#[]⟩, .slice none 0 0] w1.heap.size ⟨9, [], [], false⟩ (w1.alloc (.cells #[.int .i64 9, .string (mkS []), .string (mkS []), .bool false] 42 (0, 0)))) := TK1.out.fresh ⟨9, [], [], false⟩
        have hnS : w1.heap.size ≠ w.heap.size + 1 := by have := bld_ltS TK1.out.s; omega
        have hnN : w1.heap.size ≠ w.heap.size + 1 + 1 + 1 := by have := bld_ltS TK1.out.n; omega
        have hws := TK2.out.b.size
        clear s0 s1 s2 s3 b1 TK0 TK1
        have s0 : (w1.alloc (.cells #[.int .i64 9, .string (mkS []), .string (mkS []), .bool false] 42 (0, 0))).cell? ⟨w.heap.size + 1, 0, none⟩ = some (.int .i64 1) := TK2.out.cells.1.1
        have s1 : (w1.alloc (.cells #[.int .i64 9, .string (mkS []), .string (mkS []), .bool false] 42 (0, 0))).cell? ⟨w.heap.size + 1, 1, none⟩ = some (.string (mkS [])) := TK2.out.cells.1.2.1
        have s2 : (w1.alloc (.cells #[.int .i64 9, .string (mkS []), .string (mkS []), .bool false] 42 (0, 0))).cell? ⟨w.heap.size + 1, 2, none⟩ = some (.string (mkS [])) := TK2.out.cells.1.2.2.1
        have s3 : (w1.alloc (.cells #[.int .i64 9, .string (mkS []), .string (mkS []), .bool false] 42 (0, 0))).cell? ⟨w.heap.size + 1, 3, none⟩ = some (.bool false) := TK2.out.cells.1.2.2.2
        have f0 : (w1.alloc (.cells #[.int .i64 9, .string (mkS []), .string (mkS []), .bool false] 42 (0, 0))).frozen? ⟨w.heap.size + 1, 0, none⟩ = false := TK2.out.cells.2.2.1
        have f1 : (w1.alloc (.cells #[.int .i64 9, .string (mkS []), .string (mkS []), .bool false] 42 (0, 0))).frozen? ⟨w.heap.size + 1, 1, none⟩ = false := TK2.out.cells.2.2.2.1
        have f2 : (w1.alloc (.cells #[.int .i64 9, .string (mkS []), .string (mkS []), .bool false] 42 (0, 0))).frozen? ⟨w.heap.size + 1, 2, none⟩ = false := TK2.out.cells.2.2.2.2.1
        have f3 : (w1.alloc (.cells #[.int .i64 9, .string (mkS []), .string (mkS []), .bool false] 42 (0, 0))).frozen? ⟨w.heap.size + 1, 3, none⟩ = false := TK2.out.cells.2.2.2.2.2
        go_wp2
        go_roundw
        case rel => exact ⟨k + 1, ⟨co, 9, [], []⟩, by omega, by go_num, HRN.out, .inr (.inr (.inr ⟨rfl, .inl rfl, rfl⟩)), by simp only; omega, by simp only [List.length_nil]; omega, ((TK2.out.setS ⟨9, [], [], false⟩ hnS).home)⟩
        case measure => simp [intOf]; omega
      · obtain ⟨rfl, hnm, rfl, hb, hsc, rfl⟩ := h
        have TK0 : Hid (TkI w _ _ co [] ⟨2, cT, [], false⟩ #[.int .i64 2, .string ⟨#[]⟩, .string ⟨#[]⟩, .slice none 0 0] (w.heap.size + 1) ⟨2, cT, [], false⟩ wr) := TK.out
        have s0 : wr.cell? ⟨w.heap.size + 1, 0, none⟩ = some (.int .i64 2) := TK0.out.cells.1.1
        have s1 : wr.cell? ⟨w.heap.size + 1, 1, none⟩ = some (.string (mkS cT)) := TK0.out.cells.1.2.1
        have s2 : wr.cell? ⟨w.heap.size + 1, 2, none⟩ = some (.string (mkS [])) := TK0.out.cells.1.2.2.1
        have s3 : wr.cell? ⟨w.heap.size + 1, 3, none⟩ = some (.bool false) := TK0.out.cells.1.2.2.2
        have CS := Lib.hid (fun W => step_20 cT s[k] hnm hb hsc W)
        simp only [st_agg] at CS
        clear TK hst HR HOK hb
        go_wp2_with fail
        refine (CS.out _).mono ?_
        rintro e w1 ⟨rfl, b1⟩
        have TK1 := Lib.hid (TK0.out.below b1)
        have TK2 : Hid (TkI w _ _ co [] ⟨2, cT, [], false⟩ #[.int .i64 2, .string ⟨#[]⟩, .string ⟨#[]⟩, .slice none 0 0] w1.heap.size ⟨0, [], [], false⟩ (w1.alloc (.cells #[.int .i64 0, .string (mkS []), .string (mkS []), .bool false] 42 (0, 0)))) := TK1.out.fresh ⟨0, [], [], false⟩
        have hnS : w1.heap.size ≠ w.heap.size + 1 := by have := bld_ltS TK1.out.s; omega
        have hnN : w1.heap.size ≠ w.heap.size + 1 + 1 + 1 := by have := bld_ltS TK1.out.n; omega
        have hws := TK2.out.b.size
        clear s0 s1 s2 s3 b1 TK0 TK1
        have s0 : (w1.alloc (.cells #[.int .i64 0, .string (mkS []), .string (mkS []), .bool false] 42 (0, 0))).cell? ⟨w.heap.size + 1, 0, none⟩ = some (.int .i64 2) := TK2.out.cells.1.1
        have s1 : (w1.alloc (.cells #[.int .i64 0, .string (mkS []), .string (mkS []), .bool false] 42 (0, 0))).cell? ⟨w.heap.size + 1, 1, none⟩ = some (.string (mkS cT)) := TK2.out.cells.1.2.1
        have s2 : (w1.alloc (.cells #[.int .i64 0, .string (mkS []), .string (mkS []), .bool false] 42 (0, 0))).cell? ⟨w.heap.size + 1, 2, none⟩ = some (.string (mkS [])) := TK2.out.cells.1.2.2.1
        have s3 : (w1.alloc (.cells #[.int .i64 0, .string (mkS []), .string (mkS []), .bool false] 42 (0, 0))).cell? ⟨w.heap.size + 1, 3, none⟩ = some (.bool false) := TK2.out.cells.1.2.2.2
        have f0 : (w1.alloc (.cells #[.int .i64 0, .string (mkS []), .string (mkS []), .bool false] 42 (0, 0))).frozen? ⟨w.heap.size + 1, 0, none⟩ = false := TK2.out.cells.2.2.1
        have f1 : (w1.alloc (.cells #[.int .i64 0, .string (mkS []), .string (mkS []), .bool false] 42 (0, 0))).frozen? ⟨w.heap.size + 1, 1, none⟩ = false := TK2.out.cells.2.2.2.1
        have f2 : (w1.alloc (.cells #[.int .i64 0, .string (mkS []), .string (mkS []), .bool false] 42 (0, 0))).frozen? ⟨w.heap.size + 1, 2, none⟩ = false := TK2.out.cells.2.2.2.2.1
        have f3 : (w1.alloc (.cells #[.int .i64 0, .string (mkS []), .string (mkS []), .bool false] 42 (0, 0))).frozen? ⟨w.heap.size + 1, 3, none⟩ = false := TK2.out.cells.2.2.2.2.2
        have n0 : (w1.alloc (.cells #[.int .i64 0, .string (mkS []), .string (mkS []), .bool false] 42 (0, 0))).cell? ⟨w.heap.size + 1 + 1 + 1, 0, none⟩ = some (.int .i64 2) := (TK2.out).nows.1.1
        have n1 : (w1.alloc (.cells #[.int .i64 0, .string (mkS []), .string (mkS []), .bool false] 42 (0, 0))).cell? ⟨w.heap.size + 1 + 1 + 1, 1, none⟩ = some (.string ⟨#[]⟩) := (TK2.out).nows.1.2.1
        have n2 : (w1.alloc (.cells #[.int .i64 0, .string (mkS []), .string (mkS []), .bool false] 42 (0, 0))).cell? ⟨w.heap.size + 1 + 1 + 1, 2, none⟩ = some (.string ⟨#[]⟩) := (TK2.out).nows.1.2.2.1
        have n3 : (w1.alloc (.cells #[.int .i64 0, .string (mkS []), .string (mkS []), .bool false] 42 (0, 0))).cell? ⟨w.heap.size + 1 + 1 + 1, 3, none⟩ = some (.slice none 0 0) := (TK2.out).nows.1.2.2.2
        have nf0 : (w1.alloc (.cells #[.int .i64 0, .string (mkS []), .string (mkS []), .bool false] 42 (0, 0))).frozen? ⟨w.heap.size + 1 + 1 + 1, 0, none⟩ = false := (TK2.out).nows.2.1
        have nf1 : (w1.alloc (.cells #[.int .i64 0, .string (mkS []), .string (mkS []), .bool false] 42 (0, 0))).frozen? ⟨w.heap.size + 1 + 1 + 1, 1, none⟩ = false := (TK2.out).nows.2.2.1
        have nf2 : (w1.alloc (.cells #[.int .i64 0, .string (mkS []), .string (mkS []), .bool false] 42 (0, 0))).frozen? ⟨w.heap.size + 1 + 1 + 1, 2, none⟩ = false := (TK2.out).nows.2.2.2.1
        have nf3 : (w1.alloc (.cells #[.int .i64 0, .string (mkS []), .string (mkS []), .bool false] 42 (0, 0))).frozen? ⟨w.heap.size + 1 + 1 + 1, 3, none⟩ = false := (TK2.out).nows.2.2.2.2
        have TK3 : Hid (TkI w _ _ co [] _ #[.int .i64 2, .string (mkS cT), .string ⟨#[]⟩, .slice none 0 0] w1.heap.size ⟨0, [], [], false⟩ ((w1.alloc (.cells #[.int .i64 0, .string (mkS []), .string (mkS []), .bool false] 42 (0, 0))).setCell ⟨w.heap.size + 1 + 1 + 1, 1, none⟩ (.string (mkS cT)))) := TK2.out.setN hnN 1 (.string (mkS cT))
        have hw3 := TK3.out.b.size
        go_wp2
        refine wp_loop_rounds 1 ?_
        rw [rounds_succ]
        go_wp2_with (at_builtin; refine wpList_pushTokG (.tmp 249) (.tmp 251) w.heap.size ⟨2, mkS cT, ⟨#[]⟩⟩ _ co.length co TK3.out.o hw3 (by omega) rfl (by rfl) (by rfl) (w1.heap.size + 1) (by simp) (by rfl) ?_; intro v5 w5 o5 g5 a5; have TK5 : Hid (TkI w v5 _ (co ++ [⟨2, mkS cT, ⟨#[]⟩⟩]) _ _ #[.int .i64 2, .string (mkS cT), .string ⟨#[]⟩, .slice none 0 0] w1.heap.size ⟨0, [], [], false⟩ w5) := TK3.out.tok o5 g5 a5; clear o5 g5 a5; have q0 : w5.cell? ⟨w.heap.size + 1, 0, none⟩ = some (.int .i64 2) := TK5.out.cells.1.1; have q1 : w5.cell? ⟨w.heap.size + 1, 1, none⟩ = some (.string (mkS cT)) := TK5.out.cells.1.2.1; have q2 : w5.cell? ⟨w.heap.size + 1, 2, none⟩ = some (.string (mkS [])) := TK5.out.cells.1.2.2.1; have q3 : w5.cell? ⟨w.heap.size + 1, 3, none⟩ = some (.bool false) := TK5.out.cells.1.2.2.2; have g0 : w5.frozen? ⟨w.heap.size + 1, 0, none⟩ = false := TK5.out.cells.2.2.1; have g1 : w5.frozen? ⟨w.heap.size + 1, 1, none⟩ = false := TK5.out.cells.2.2.2.1; have g2 : w5.frozen? ⟨w.heap.size + 1, 2, none⟩ = false := TK5.out.cells.2.2.2.2.1; have g3 : w5.frozen? ⟨w.heap.size + 1, 3, none⟩ = false := TK5.out.cells.2.2.2.2.2; have m0 : w5.cell? ⟨w1.heap.size, 0, none⟩ = some (.int .i64 0) := TK5.out.cells.2.1.1; have m1 : w5.cell? ⟨w1.heap.size, 1, none⟩ = some (.string (mkS [])) := TK5.out.cells.2.1.2.1; have m2 : w5.cell? ⟨w1.heap.size, 2, none⟩ = some (.string (mkS [])) := TK5.out.cells.2.1.2.2.1; have m3 : w5.cell? ⟨w1.heap.size, 3, none⟩ = some (.bool false) := TK5.out.cells.2.1.2.2.2; have p0 : w5.cell? ⟨w.heap.size + 1 + 1 + 1, 0, none⟩ = some (.int .i64 2) := (TK5.out).nows.1.1; have p1 : w5.cell? ⟨w.heap.size + 1 + 1 + 1, 1, none⟩ = some (.string (mkS cT)) := (TK5.out).nows.1.2.1; have p2 : w5.cell? ⟨w.heap.size + 1 + 1 + 1, 2, none⟩ = some (.string ⟨#[]⟩) := (TK5.out).nows.1.2.2.1; have p3 : w5.cell? ⟨w.heap.size + 1 + 1 + 1, 3, none⟩ = some (.slice none 0 0) := (TK5.out).nows.1.2.2.2; have pf0 : w5.frozen? ⟨w.heap.size + 1 + 1 + 1, 0, none⟩ = false := (TK5.out).nows.2.1; have pf1 : w5.frozen? ⟨w.heap.size + 1 + 1 + 1, 1, none⟩ = false := (TK5.out).nows.2.2.1; have pf2 : w5.frozen? ⟨w.heap.size + 1 + 1 + 1, 2, none⟩ = false := (TK5.out).nows.2.2.2.1; have pf3 : w5.frozen? ⟨w.heap.size + 1 + 1 + 1, 3, none⟩ = false := (TK5.out).nows.2.2.2.2)
        have TK6 : Hid (TkI w _ _ _ [] _ #[.int .i64 0, .string ⟨#[]⟩, .string ⟨#[]⟩, .slice none 0 0] w1.heap.size ⟨0, [], [], false⟩ ((((w5.setCell ⟨w.heap.size + 1 + 1 + 1, 0, none⟩ (.int .i64 0)).setCell ⟨w.heap.size + 1 + 1 + 1, 1, none⟩ (.string ⟨#[]⟩)).setCell ⟨w.heap.size + 1 + 1 + 1, 2, none⟩ (.string ⟨#[]⟩)).setCell ⟨w.heap.size + 1 + 1 + 1, 3, none⟩ (.slice none 0 0))) := (((TK5.out.setN hnN 0 (.int .i64 0)).setN hnN 1 (.string ⟨#[]⟩)).setN hnN 2 (.string ⟨#[]⟩)).setN hnN 3 (.slice none 0 0)
        go_roundw
        case rel => exact ⟨k + 1, (⟨co ++ [(⟨2, mkS cT, ⟨#[]⟩⟩ : Tok)], 0, [], []⟩ : Cf), by omega, by go_num, HRN.out, .inl ⟨rfl, rfl⟩, by simp only [List.length_append, List.length_cons, List.length_nil]; omega, by simp only [List.length_nil]; omega, ((TK6.out.setS ⟨0, [], [], false⟩ hnS).home)⟩
        case measure => simp [intOf]; omega
      · as_aux_lemma =>
        obtain ⟨rfl, hnm, rfl, hb, hnm2, rfl⟩ := h
        have TK0 : Hid (TkI w _ _ co [] ⟨2, cT, [], false⟩ #[.int .i64 2, .string ⟨#[]⟩, .string ⟨#[]⟩, .slice none 0 0] (w.heap.size + 1) ⟨2, cT, [], false⟩ wr) := TK.out
        have s0 : wr.cell? ⟨w.heap.size + 1, 0, none⟩ = some (.int .i64 2) := TK0.out.cells.1.1
        have s1 : wr.cell? ⟨w.heap.size + 1, 1, none⟩ = some (.string (mkS cT)) := TK0.out.cells.1.2.1
        have s2 : wr.cell? ⟨w.heap.size + 1, 2, none⟩ = some (.string (mkS [])) := TK0.out.cells.1.2.2.1
        have s3 : wr.cell? ⟨w.heap.size + 1, 3, none⟩ = some (.bool false) := TK0.out.cells.1.2.2.2
        have CS := Lib.hid (fun W => (long_name (M := 2) hnm2) ▸ step_22 cT s[k] hnm hb W)
        simp only [st_agg] at CS
        clear TK hst HR HOK hb
        go_wp2_with fail
        refine (CS.out _).mono ?_
        rintro e w1 ⟨rfl, b1⟩
        have TK1 := Lib.hid (TK0.out.below b1)
        have TK2 : Hid (TkI w _ _ co [] ⟨2, cT, [], false⟩ #[.int .i64 2, .string ⟨#[]⟩, .string ⟨#[]⟩, .slice none 0 0] w1.heap.size ⟨2, (cT ++ [lowC s[k]]), [], false⟩ (w1.alloc (.cells #[.int .i64 2, .string (mkS (cT ++ [lowC s[k]])), .string (mkS []), .bool false] 42 (0, 0)))) := TK1.out.fresh ⟨2, (cT ++ [lowC s[k]]), [], false⟩
        have hnS : w1.heap.size ≠ w.heap.size + 1 := by have := bld_ltS TK1.out.s; omega
        have hnN : w1.heap.size ≠ w.heap.size + 1 + 1 + 1 := by have := bld_ltS TK1.out.n; omega
        have hws := TK2.out.b.size
        clear s0 s1 s2 s3 b1 TK0 TK1
        have s0 : (w1.alloc (.cells #[.int .i64 2, .string (mkS (cT ++ [lowC s[k]])), .string (mkS []), .bool false] 42 (0, 0))).cell? ⟨w.heap.size + 1, 0, none⟩ = some (.int .i64 2) := TK2.out.cells.1.1
        have s1 : (w1.alloc (.cells #[.int .i64 2, .string (mkS (cT ++ [lowC s[k]])), .string (mkS []), .bool false] 42 (0, 0))).cell? ⟨w.heap.size + 1, 1, none⟩ = some (.string (mkS cT)) := TK2.out.cells.1.2.1
        have s2 : (w1.alloc (.cells #[.int .i64 2, .string (mkS (cT ++ [lowC s[k]])), .string (mkS []), .bool false] 42 (0, 0))).cell? ⟨w.heap.size + 1, 2, none⟩ = some (.string (mkS [])) := TK2.out.cells.1.2.2.1
        have s3 : (w1.alloc (.cells #[.int .i64 2, .string (mkS (cT ++ [lowC s[k]])), .string (mkS []), .bool false] 42 (0, 0))).cell? ⟨w.heap.size + 1, 3, none⟩ = some (.bool false) := TK2.out.cells.1.2.2.2
        have f0 : (w1.alloc (.cells #[.int .i64 2, .string (mkS (cT ++ [lowC s[k]])), .string (mkS []), .bool false] 42 (0, 0))).frozen? ⟨w.heap.size + 1, 0, none⟩ = false := TK2.out.cells.2.2.1
        have f1 : (w1.alloc (.cells #[.int .i64 2, .string (mkS (cT ++ [lowC s[k]])), .string (mkS []), .bool false] 42 (0, 0))).frozen? ⟨w.heap.size + 1, 1, none⟩ = false := TK2.out.cells.2.2.2.1
        have f2 : (w1.alloc (.cells #[.int .i64 2, .string (mkS (cT ++ [lowC s[k]])), .string (mkS []), .bool false] 42 (0, 0))).frozen? ⟨w.heap.size + 1, 2, none⟩ = false := TK2.out.cells.2.2.2.2.1
        have f3 : (w1.alloc (.cells #[.int .i64 2, .string (mkS (cT ++ [lowC s[k]])), .string (mkS []), .bool false] 42 (0, 0))).frozen? ⟨w.heap.size + 1, 3, none⟩ = false := TK2.out.cells.2.2.2.2.2
        have n0 : (w1.alloc (.cells #[.int .i64 2, .string (mkS (cT ++ [lowC s[k]])), .string (mkS []), .bool false] 42 (0, 0))).cell? ⟨w.heap.size + 1 + 1 + 1, 0, none⟩ = some (.int .i64 2) := (TK2.out).nows.1.1
        have n1 : (w1.alloc (.cells #[.int .i64 2, .string (mkS (cT ++ [lowC s[k]])), .string (mkS []), .bool false] 42 (0, 0))).cell? ⟨w.heap.size + 1 + 1 + 1, 1, none⟩ = some (.string ⟨#[]⟩) := (TK2.out).nows.1.2.1
        have n2 : (w1.alloc (.cells #[.int .i64 2, .string (mkS (cT ++ [lowC s[k]])), .string (mkS []), .bool false] 42 (0, 0))).cell? ⟨w.heap.size + 1 + 1 + 1, 2, none⟩ = some (.string ⟨#[]⟩) := (TK2.out).nows.1.2.2.1
        have n3 : (w1.alloc (.cells #[.int .i64 2, .string (mkS (cT ++ [lowC s[k]])), .string (mkS []), .bool false] 42 (0, 0))).cell? ⟨w.heap.size + 1 + 1 + 1, 3, none⟩ = some (.slice none 0 0) := (TK2.out).nows.1.2.2.2
        go_wp2
        go_roundw
        case rel => exact ⟨k + 1, ⟨co, 2, cT ++ [lowC s[k]], []⟩, by omega, by go_num, HRN.out, .inr (.inr (.inl ⟨rfl, hnm2, rfl⟩)), by simp only; omega, by simp only [List.length_nil]; omega, ((TK2.out.setS ⟨2, (cT ++ [lowC s[k]]), [], false⟩ hnS).home)⟩
        case measure => simp [intOf]; omega
      · as_aux_lemma =>
        obtain ⟨rfl, hT9, rfl, hb, hne, rfl⟩ := h
        have TK0 : Hid (TkI w _ _ co [] ⟨9, cT, [], false⟩ #[.int .i64 0, .string ⟨#[]⟩, .string ⟨#[]⟩, .slice none 0 0] (w.heap.size + 1) ⟨9, cT, [], false⟩ wr) := TK.out
        have s0 : wr.cell? ⟨w.heap.size + 1, 0, none⟩ = some (.int .i64 9) := TK0.out.cells.1.1
        have s1 : wr.cell? ⟨w.heap.size + 1, 1, none⟩ = some (.string (mkS cT)) := TK0.out.cells.1.2.1
        have s2 : wr.cell? ⟨w.heap.size + 1, 2, none⟩ = some (.string (mkS [])) := TK0.out.cells.1.2.2.1
        have s3 : wr.cell? ⟨w.heap.size + 1, 3, none⟩ = some (.bool false) := TK0.out.cells.1.2.2.2
        have CS := Lib.hid (fun W => step_90 cT s[k] hT9 (by rcases hT9 with rfl | h9; exact Nat.zero_le _; exact Nat.le_trans (nameB_len (T := cT) h9) (by omega)) hb hne W)
        simp only [st_agg] at CS
        clear TK hst HR HOK hb
        go_wp2_with fail
        refine (CS.out _).mono ?_
        rintro e w1 ⟨rfl, b1⟩
        have TK1 := Lib.hid (TK0.out.below b1)
        have TK2 : Hid (TkI w _ _ co [] ⟨9, cT, [], false⟩ #[.int .i64 0, .string ⟨#[]⟩, .string ⟨#[]⟩, .slice none 0 0] w1.heap.size ⟨0, [], [], false⟩ (w1.alloc (.cells #[.int .i64 0, .string (mkS []), .string (mkS []), .bool false] 42 (0, 0)))) := TK1.out.fresh ⟨0, [], [], false⟩
        have hnS : w1.heap.size ≠ w.heap.size + 1 := by have := bld_ltS TK1.out.s; omega
        have hnN : w1.heap.size ≠ w.heap.size + 1 + 1 + 1 := by have := bld_ltS TK1.out.n; omega
        have hws := TK2.out.b.size
        clear s0 s1 s2 s3 b1 TK0 TK1
        have s0 : (w1.alloc (.cells #[.int .i64 0, .string (mkS []), .string (mkS []), .bool false] 42 (0, 0))).cell? ⟨w.heap.size + 1, 0, none⟩ = some (.int .i64 9) := TK2.out.cells.1.1
        have s1 : (w1.alloc (.cells #[.int .i64 0, .string (mkS []), .string (mkS []), .bool false] 42 (0, 0))).cell? ⟨w.heap.size + 1, 1, none⟩ = some (.string (mkS cT)) := TK2.out.cells.1.2.1
        have s2 : (w1.alloc (.cells #[.int .i64 0, .string (mkS []), .string (mkS []), .bool false] 42 (0, 0))).cell? ⟨w.heap.size + 1, 2, none⟩ = some (.string (mkS [])) := TK2.out.cells.1.2.2.1
        have s3 : (w1.alloc (.cells #[.int .i64 0, .string (mkS []), .string (mkS []), .bool false] 42 (0, 0))).cell? ⟨w.heap.size + 1, 3, none⟩ = some (.bool false) := TK2.out.cells.1.2.2.2
        have f0 : (w1.alloc (.cells #[.int .i64 0, .string (mkS []), .string (mkS []), .bool false] 42 (0, 0))).frozen? ⟨w.heap.size + 1, 0, none⟩ = false := TK2.out.cells.2.2.1
        have f1 : (w1.alloc (.cells #[.int .i64 0, .string (mkS []), .string (mkS []), .bool false] 42 (0, 0))).frozen? ⟨w.heap.size + 1, 1, none⟩ = false := TK2.out.cells.2.2.2.1
        have f2 : (w1.alloc (.cells #[.int .i64 0, .string (mkS []), .string (mkS []), .bool false] 42 (0, 0))).frozen? ⟨w.heap.size + 1, 2, none⟩ = false := TK2.out.cells.2.2.2.2.1
        have f3 : (w1.alloc (.cells #[.int .i64 0, .string (mkS []), .string (mkS []), .bool false] 42 (0, 0))).frozen? ⟨w.heap.size + 1, 3, none⟩ = false := TK2.out.cells.2.2.2.2.2
        go_wp2_with (at_builtin; refine wpList_pushTokG (.tmp 82) (.tmp 86) w.heap.size ⟨3, mkS cT, ⟨#[]⟩⟩ _ co.length co TK2.out.o hws (by omega) rfl (by rfl) (by rfl) (w1.heap.size + 1) (by simp) (by rfl) ?_; intro v5 w5 o5 g5 a5; have TK5 : Hid (TkI w v5 _ (co ++ [⟨3, mkS cT, ⟨#[]⟩⟩]) _ _ #[.int .i64 0, .string ⟨#[]⟩, .string ⟨#[]⟩, .slice none 0 0] w1.heap.size ⟨0, [], [], false⟩ w5) := TK2.out.tok o5 g5 a5; clear o5 g5 a5; have q0 : w5.cell? ⟨w.heap.size + 1, 0, none⟩ = some (.int .i64 9) := TK5.out.cells.1.1; have q1 : w5.cell? ⟨w.heap.size + 1, 1, none⟩ = some (.string (mkS cT)) := TK5.out.cells.1.2.1; have q2 : w5.cell? ⟨w.heap.size + 1, 2, none⟩ = some (.string (mkS [])) := TK5.out.cells.1.2.2.1; have q3 : w5.cell? ⟨w.heap.size + 1, 3, none⟩ = some (.bool false) := TK5.out.cells.1.2.2.2; have g0 : w5.frozen? ⟨w.heap.size + 1, 0, none⟩ = false := TK5.out.cells.2.2.1; have g1 : w5.frozen? ⟨w.heap.size + 1, 1, none⟩ = false := TK5.out.cells.2.2.2.1; have g2 : w5.frozen? ⟨w.heap.size + 1, 2, none⟩ = false := TK5.out.cells.2.2.2.2.1; have g3 : w5.frozen? ⟨w.heap.size + 1, 3, none⟩ = false := TK5.out.cells.2.2.2.2.2; have m0 : w5.cell? ⟨w1.heap.size, 0, none⟩ = some (.int .i64 0) := TK5.out.cells.2.1.1; have m1 : w5.cell? ⟨w1.heap.size, 1, none⟩ = some (.string (mkS [])) := TK5.out.cells.2.1.2.1; have m2 : w5.cell? ⟨w1.heap.size, 2, none⟩ = some (.string (mkS [])) := TK5.out.cells.2.1.2.2.1; have m3 : w5.cell? ⟨w1.heap.size, 3, none⟩ = some (.bool false) := TK5.out.cells.2.1.2.2.2)
        go_roundw
        case rel => exact ⟨k + 1, (⟨co ++ [(⟨3, mkS cT, ⟨#[]⟩⟩ : Tok)], 0, [], []⟩ : Cf), by omega, by go_num, HRN.out, .inl ⟨rfl, rfl⟩, by simp only [List.length_append, List.length_cons, List.length_nil]; omega, by simp only [List.length_nil]; omega, ((TK5.out.setS ⟨0, [], [], false⟩ hnS).home)⟩
        case measure => simp [intOf]; omega
      · as_aux_lemma =>
        obtain ⟨rfl, hT9, rfl, hb, hnm2, rfl⟩ := h
        have TK0 : Hid (TkI w _ _ co [] ⟨9, cT, [], false⟩ #[.int .i64 0, .string ⟨#[]⟩, .string ⟨#[]⟩, .slice none 0 0] (w.heap.size + 1) ⟨9, cT, [], false⟩ wr) := TK.out
        have s0 : wr.cell? ⟨w.heap.size + 1, 0, none⟩ = some (.int .i64 9) := TK0.out.cells.1.1
        have s1 : wr.cell? ⟨w.heap.size + 1, 1, none⟩ = some (.string (mkS cT)) := TK0.out.cells.1.2.1
        have s2 : wr.cell? ⟨w.heap.size + 1, 2, none⟩ = some (.string (mkS [])) := TK0.out.cells.1.2.2.1
        have s3 : wr.cell? ⟨w.heap.size + 1, 3, none⟩ = some (.bool false) := TK0.out.cells.1.2.2.2
        have CS := Lib.hid (fun W => (long_name (M := 9) hnm2) ▸ step_99 cT s[k] hT9 (by rcases hT9 with rfl | h9; exact Nat.zero_le _; exact Nat.le_trans (nameB_len (T := cT) h9) (by omega)) hb W)
        simp only [st_agg] at CS
        clear TK hst HR HOK hb
        go_wp2_with fail
        refine (CS.out _).mono ?_
        rintro e w1 ⟨rfl, b1⟩
        have TK1 := Lib.hid (TK0.out.below b1)
        have TK2 : Hid (TkI w _ _ co [] ⟨9, cT, [], false⟩ #[.int .i64 0, .string ⟨#[]⟩, .string ⟨#[]⟩, .slice none 0 0] w1.heap.size ⟨9, (cT ++ [lowC s[k]]), [], false⟩ (w1.alloc (.cells #[.int .i64 9, .string (mkS (cT ++ [lowC s[k]])), .string (mkS []), .bool false] 42 (0, 0)))) := TK1.out.fresh ⟨9, (cT ++ [lowC s[k]]), [], false⟩
        have hnS : w1.heap.size ≠ w.heap.size + 1 := by have := bld_ltS TK1.out.s; omega
        have hnN : w1.heap.size ≠ w.heap.size + 1 + 1 + 1 := by have := bld_ltS TK1.out.n; omega
        have hws := TK2.out.b.size
        clear s0 s1 s2 s3 b1 TK0 TK1
        have s0 : (w1.alloc (.cells #[.int .i64 9, .string (mkS (cT ++ [lowC s[k]])), .string (mkS []), .bool false] 42 (0, 0))).cell? ⟨w.heap.size + 1, 0, none⟩ = some (.int .i64 9) := TK2.out.cells.1.1
        have s1 : (w1.alloc (.cells #[.int .i64 9, .string (mkS (cT ++ [lowC s[k]])), .string (mkS []), .bool false] 42 (0, 0))).cell? ⟨w.heap.size + 1, 1, none⟩ = some (.string (mkS cT)) := TK2.out.cells.1.2.1
        have s2 : (w1.alloc (.cells #[.int .i64 9, .string (mkS (cT ++ [lowC s[k]])), .string (mkS []), .bool false] 42 (0, 0))).cell? ⟨w.heap.size + 1, 2, none⟩ = some (.string (mkS [])) := TK2.out.cells.1.2.2.1
        have s3 : (w1.alloc (.cells #[.int .i64 9, .string (mkS (cT ++ [lowC s[k]])), .string (mkS []), .bool false] 42 (0, 0))).cell? ⟨w.heap.size + 1, 3, none⟩ = some (.bool false) := TK2.out.cells.1.2.2.2
        have f0 : (w1.alloc (.cells #[.int .i64 9, .string (mkS (cT ++ [lowC s[k]])), .string (mkS []), .bool false] 42 (0, 0))).frozen? ⟨w.heap.size + 1, 0, none⟩ = false := TK2.out.cells.2.2.1
        have f1 : (w1.alloc (.cells #[.int .i64 9, .string (mkS (cT ++ [lowC s[k]])), .string (mkS []), .bool false] 42 (0, 0))).frozen? ⟨w.heap.size + 1, 1, none⟩ = false := TK2.out.cells.2.2.2.1
        have f2 : (w1.alloc (.cells #[.int .i64 9, .string (mkS (cT ++ [lowC s[k]])), .string (mkS []), .bool false] 42 (0, 0))).frozen? ⟨w.heap.size + 1, 2, none⟩ = false := TK2.out.cells.2.2.2.2.1
        have f3 : (w1.alloc (.cells #[.int .i64 9, .string (mkS (cT ++ [lowC s[k]])), .string (mkS []), .bool false] 42 (0, 0))).frozen? ⟨w.heap.size + 1, 3, none⟩ = false := TK2.out.cells.2.2.2.2.2
        go_wp2
        go_roundw
        case rel => exact ⟨k + 1, ⟨co, 9, cT ++ [lowC s[k]], []⟩, by omega, by go_num, HRN.out, .inr (.inr (.inr ⟨rfl, .inr hnm2, rfl⟩)), by simp only; omega, by simp only [List.length_nil]; omega, ((TK2.out.setS ⟨9, (cT ++ [lowC s[k]]), [], false⟩ hnS).home)⟩
        case measure => simp [intOf]; omega
    · as_aux_lemma =>
      obtain rfl : k = s.size := by omega
      obtain rfl : c = z := by
        have := HR.out
        rw [List.take_of_length_le (by rw [bl_len]; exact Nat.le_refl _), HZ.out] at this
        injection this with this
        exact this.symm
      obtain ⟨co, cM, cT, cr⟩ := c
      obtain rfl : cM = 0 := H0.out
      obtain rfl : cT = [] := by
        rcases HOK.out with h | h | h | h
        · exact h.2
        · have := h.1; simp only at this; omega
        · have := h.1; simp only at this; omega
        · have := h.1; simp only at this; omega
      simp only at hol hrl
      have TK0 : Hid (TkI w _ _ co cr ⟨0, [], [], false⟩ #[.int .i64 0, .string ⟨#[]⟩, .string ⟨#[]⟩, .slice none 0 0] (w.heap.size + 1) ⟨0, [], [], false⟩ wr) := TK.out
      have hws := TK0.out.b.size
      clear TK HR HOK H0 HZ CV
      have s0 : wr.cell? ⟨w.heap.size + 1, 0, none⟩ = some (.int .i64 0) := TK0.out.cells.1.1
      have s1 : wr.cell? ⟨w.heap.size + 1, 1, none⟩ = some (.string (mkS [])) := TK0.out.cells.1.2.1
      have s2 : wr.cell? ⟨w.heap.size + 1, 2, none⟩ = some (.string (mkS [])) := TK0.out.cells.1.2.2.1
      have s3 : wr.cell? ⟨w.heap.size + 1, 3, none⟩ = some (.bool false) := TK0.out.cells.1.2.2.2
      by_cases hr0 : cr = []
      · have HFL : Hid (flushC ⟨co, 0, [], cr⟩ = co) := by show _ = _; unfold flushC; rw [if_pos hr0]
        subst hr0
        have h6 := H60.out
        rw [HFL.out] at h6
        have h60 : (co.length : Int) ≤ 60 := by omega
        obtain ⟨ra, rc, rfl, _⟩ := own_formn TK0.out.r
        obtain ⟨oa, oc, rfl, _⟩ := ownN_formn TK0.out.o
        go_wp2
        exact bodyPost_ret (v := .tuple #[.slice oa co.length oc, .bool true]) (by simp [results, Tryd.results9, go_sem]) rfl ⟨_, rfl, by rw [HFL.out]; exact TK0.out.o, TK0.out.b⟩
      · have HFL : Hid (flushC ⟨co, 0, [], cr⟩ = co ++ [(⟨1, ⟨#[]⟩, mkS (unescR cr)⟩ : Tok)]) := by show _ = _; unfold flushC; rw [if_neg hr0]
        have h6 := H60.out
        rw [HFL.out, List.length_append] at h6
        simp only [List.length_cons, List.length_nil, Nat.zero_add] at h6
        have h60 : (co.length : Int) + 1 ≤ 60 := by omega
        have hl0 : 0 < cr.length := List.length_pos_iff.2 hr0
        have hl1 : (0 : Int) < (cr.length : Int) := by omega
        obtain ⟨ra, rc, rfl, rrow, _⟩ := own_formn TK0.out.r
        have kd := conv_row _ ra cr.length rc cr rrow rfl
        have CU := Lib.hid (fun W => impl_UnescapeText (mkS cr) W (by rw [mkS_size]; omega))
        simp only [bl_mkS] at CU
        clear rrow hr0
        go_wp2_with fail
        refine (CU.out _).mono ?_
        rintro e w3 ⟨rfl, b3⟩
        have TK3 := Lib.hid (TK0.out.below b3)
        have hw3 := TK3.out.b.size
        clear b3 kd CU s0 s1 s2 s3
        generalize unescR cr = U at *
        go_wp2_with (at_builtin; refine wpList_pushTokG (.tmp 261) (.tmp 266) w.heap.size ⟨1, ⟨#[]⟩, mkS U⟩ _ co.length co TK3.out.o hw3 (by omega) rfl (by rfl) (by rfl) w3.heap.size (by simp) (by rfl) ?_; intro v5 w5 o5 g5 a5; have TK5 := Lib.hid (TK3.out.tok o5 g5 a5); clear o5 g5 a5; obtain ⟨oa, oc, rfl, _⟩ := ownN_formn TK5.out.o)
        exact bodyPost_ret (v := .tuple #[.slice oa (co.length + 1) oc, .bool true]) (by simp [results, Tryd.results9, go_sem]) rfl ⟨_, rfl, by rw [HFL.out]; have := TK5.out.o; rw [List.length_append] at this ⊢; exact this, TK5.out.b⟩
end Go.Proofs.YtdoomfckdjjlaaaDoor
