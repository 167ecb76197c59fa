/- laws.sameTokens on equal sources (printed by gen_sametok.py). -/
import Derived.Test.YtdoomfckdjjlaaaTokC
namespace Go.Proofs.Ytdoomfckdjjlaaa
open Go.RowKit

def smtSlot (b1 o1 b2 o2 n c1 c2 k K : Nat) (N V : ByteArray) (pa qa : Option Addr) (pc qc : Nat) : Nat → World → Value → Prop
  | 0, _, v => v = .slice (some ⟨b1, o1, none⟩) n c1
  | 1, _, v => v = .int .i64 (k : Int)
  | 2, _, v => v = .pointer (some ⟨b1, o1 + k * 4, none⟩)
  | 3, _, v => v = .pointer (some ⟨b1, o1 + k * 4, none⟩)
  | 4, _, v => v = .int .i64 (K : Int)
  | 5, _, v => v = .slice (some ⟨b2, o2, none⟩) n c2
  | 6, _, v => v = .int .i64 (k : Int)
  | 7, _, v => v = .pointer (some ⟨b2, o2 + k * 4, none⟩)
  | 8, _, v => v = .pointer (some ⟨b2, o2 + k * 4, none⟩)
  | 9, _, v => v = .int .i64 (K : Int)
  | 10, _, v => v = .bool false
  | 11, _, v => v = .bool false
  | 12, _, v => v = .slice (some ⟨b1, o1, none⟩) n c1
  | 13, _, v => v = .int .i64 (k : Int)
  | 14, _, v => v = .pointer (some ⟨b1, o1 + k * 4, none⟩)
  | 15, _, v => v = .pointer (some ⟨b1, o1 + k * 4 + 1, none⟩)
  | 16, _, v => v = .string N
  | 17, _, v => v = .slice (some ⟨b2, o2, none⟩) n c2
  | 18, _, v => v = .int .i64 (k : Int)
  | 19, _, v => v = .pointer (some ⟨b2, o2 + k * 4, none⟩)
  | 20, _, v => v = .pointer (some ⟨b2, o2 + k * 4 + 1, none⟩)
  | 21, _, v => v = .string N
  | 22, _, v => v = .bool false
  | 23, _, v => v = .bool false
  | 24, _, v => v = .bool false
  | 25, _, v => v = .slice (some ⟨b1, o1, none⟩) n c1
  | 26, _, v => v = .int .i64 (k : Int)
  | 27, _, v => v = .pointer (some ⟨b1, o1 + k * 4, none⟩)
  | 28, _, v => v = .pointer (some ⟨b1, o1 + k * 4 + 2, none⟩)
  | 29, _, v => v = .string V
  | 30, _, v => v = .slice (some ⟨b2, o2, none⟩) n c2
  | 31, _, v => v = .int .i64 (k : Int)
  | 32, _, v => v = .pointer (some ⟨b2, o2 + k * 4, none⟩)
  | 33, _, v => v = .pointer (some ⟨b2, o2 + k * 4 + 2, none⟩)
  | 34, _, v => v = .string V
  | 35, _, v => v = .bool false
  | 36, _, v => v = .bool false
  | 37, _, v => v = .bool false
  | 38, _, v => v = .slice (some ⟨b1, o1, none⟩) n c1
  | 39, _, v => v = .int .i64 (k : Int)
  | 40, _, v => v = .pointer (some ⟨b1, o1 + k * 4, none⟩)
  | 41, _, v => v = .pointer (some ⟨b1, o1 + k * 4 + 3, none⟩)
  | 42, _, v => v = .slice pa 0 pc
  | 43, _, v => v = .int .i64 0
  | 44, _, v => v = .slice (some ⟨b2, o2, none⟩) n c2
  | 45, _, v => v = .int .i64 (k : Int)
  | 46, _, v => v = .pointer (some ⟨b2, o2 + k * 4, none⟩)
  | 47, _, v => v = .pointer (some ⟨b2, o2 + k * 4 + 3, none⟩)
  | 48, _, v => v = .slice qa 0 qc
  | 49, _, v => v = .int .i64 0
  | 50, _, v => v = .bool false
  | 51, _, v => v = .bool false
  | _, _, _ => True
theorem smt_any {b1 o1 b2 o2 n c1 c2 k K : Nat} {N V : ByteArray} {pa qa : Option Addr} {pc qc : Nat} {j : Nat} {w w' : World} {v : Value} (h : smtSlot b1 o1 b2 o2 n c1 c2 k K N V pa qa pc qc j w v) : smtSlot b1 o1 b2 o2 n c1 c2 k K N V pa qa pc qc j w' v := by
  unfold smtSlot at h ⊢
  split at h <;> exact h
set_option maxRecDepth 100000 in
set_option maxHeartbeats 1600000 in
theorem sameTokens_any (a1 a2 : Option Addr) (n c1 c2 : Nat) (T : List Tok) (w : World) (h1 : TokAt w a1 T) (h2 : TokAt w a2 T) (hn : T.length = n) (hn' : n ≤ 1048576) :
    Calls Try.prog 18 #[.slice a1 n c1, .slice a2 n c2] w fun e w' => e = .returned (.bool true) ∧ Below w.heap.size w w' := by
  have H1 := Lib.hid h1; have H2 := Lib.hid h2; have HN := Lib.hid hn
  clear h1 h2 hn
  go_enter Try.func18, Try.ntmps18
  go_wp2
  go_loopw [5] (fun t wr => ∃ k : Nat, k ≤ n ∧ t = .int .i64 (k : Int) ∧ Below w.heap.size w wr) (fun t _ => n - (intOf t).toNat)
  case atStart => exact ⟨0, Nat.zero_le _, rfl, Below.refl _ _⟩
  case round =>
    obtain ⟨k, hk, rfl, hb⟩ := hrel
    have BW := Lib.hid hb
    by_cases hlt : k < n
    · have hks : k < T.length := by rw [HN.out]; exact hlt
      obtain ⟨b1, o1, pa, pc, rfl, hb1, hk1, hn1, hv1, hp1⟩ := (H1.out.below hb) k hks
      obtain ⟨b2, o2, qa, qc, rfl, hb2, hk2, hn2, hv2, hp2⟩ := (H2.out.below hb) k hks
      clear hb
      generalize T[k].K = K at hk1 hk2
      generalize T[k].N = N at hn1 hn2
      generalize T[k].V = V at hv1 hv2
      go_wp2
      refine wp_region_any (by kernel_rfl) ?_
      rename_i KK hKK
      refine region_guard (smtSlot b1 o1 b2 o2 n c1 c2 k K N V pa qa pc qc) (fun _ w2 => Below wr.heap.size wr w2) 97 52 (by kernel_rfl) (by kernel_rfl) ?gd (Nat.le_refl 97) (by kernel_rfl) rfl rfl (by decide) ?start ?step ?done
      case gd =>
        intro i o j b ho hg w v hp
        have hlt : i < 52 := by have := (Array.getElem?_eq_some_iff.1 ho).1; simpa using this
        rcases (show i = 0 ∨ i = 1 ∨ i = 2 ∨ i = 3 ∨ i = 4 ∨ i = 5 ∨ i = 6 ∨ i = 7 ∨ i = 8 ∨ i = 9 ∨ i = 10 ∨ i = 11 ∨ i = 12 ∨ i = 13 ∨ i = 14 ∨ i = 15 ∨ i = 16 ∨ i = 17 ∨ i = 18 ∨ i = 19 ∨ i = 20 ∨ i = 21 ∨ i = 22 ∨ i = 23 ∨ i = 24 ∨ i = 25 ∨ i = 26 ∨ i = 27 ∨ i = 28 ∨ i = 29 ∨ i = 30 ∨ i = 31 ∨ i = 32 ∨ i = 33 ∨ i = 34 ∨ i = 35 ∨ i = 36 ∨ i = 37 ∨ i = 38 ∨ i = 39 ∨ i = 40 ∨ i = 41 ∨ i = 42 ∨ i = 43 ∨ i = 44 ∨ i = 45 ∨ i = 46 ∨ i = 47 ∨ i = 48 ∨ i = 49 ∨ i = 50 ∨ i = 51 by omega) with rfl | rfl | rfl | rfl | rfl | rfl | rfl | rfl | rfl | rfl | rfl | rfl | rfl | rfl | rfl | rfl | rfl | rfl | rfl | rfl | rfl | rfl | rfl | rfl | rfl | rfl | rfl | rfl | rfl | rfl | rfl | rfl | rfl | rfl | rfl | rfl | rfl | rfl | rfl | rfl | rfl | rfl | rfl | rfl | rfl | rfl | rfl | rfl | rfl | rfl | rfl | rfl
        all_goals (obtain rfl := Option.some.inj ho; first | (cases hg; done) | (cases hg; exact hp))
      case start => exact (Below.refl _ _).drew
      case step =>
        intro i o ho listed wx a hls hli hdp hG hD KC hK
        have hlt : i < 52 := by have := (Array.getElem?_eq_some_iff.1 ho).1; simpa using this
        rcases (show i = 0 ∨ i = 1 ∨ i = 2 ∨ i = 3 ∨ i = 4 ∨ i = 5 ∨ i = 6 ∨ i = 7 ∨ i = 8 ∨ i = 9 ∨ i = 10 ∨ i = 11 ∨ i = 12 ∨ i = 13 ∨ i = 14 ∨ i = 15 ∨ i = 16 ∨ i = 17 ∨ i = 18 ∨ i = 19 ∨ i = 20 ∨ i = 21 ∨ i = 22 ∨ i = 23 ∨ i = 24 ∨ i = 25 ∨ i = 26 ∨ i = 27 ∨ i = 28 ∨ i = 29 ∨ i = 30 ∨ i = 31 ∨ i = 32 ∨ i = 33 ∨ i = 34 ∨ i = 35 ∨ i = 36 ∨ i = 37 ∨ i = 38 ∨ i = 39 ∨ i = 40 ∨ i = 41 ∨ i = 42 ∨ i = 43 ∨ i = 44 ∨ i = 45 ∨ i = 46 ∨ i = 47 ∨ i = 48 ∨ i = 49 ∨ i = 50 ∨ i = 51 by omega) with rfl | rfl | rfl | rfl | rfl | rfl | rfl | rfl | rfl | rfl | rfl | rfl | rfl | rfl | rfl | rfl | rfl | rfl | rfl | rfl | rfl | rfl | rfl | rfl | rfl | rfl | rfl | rfl | rfl | rfl | rfl | rfl | rfl | rfl | rfl | rfl | rfl | rfl | rfl | rfl | rfl | rfl | rfl | rfl | rfl | rfl | rfl | rfl | rfl | rfl | rfl | rfl
        · have h0 := hD.old 0 (by kernel_rfl)
          obtain rfl := Option.some.inj ho
          clear hD
          unfold Oper.wp
          simp [execOp, Act.eval, h0]
          exact hK _ _ (.inr rfl) (fun _ _ _ _ h => h) hG
        · have h5 := hD.old 5 (by kernel_rfl)
          obtain rfl := Option.some.inj ho
          clear hD
          unfold Oper.wp
          simp [execOp, Act.eval, h5]
          exact hK _ _ (.inr rfl) (fun _ _ _ _ h => h) hG
        · obtain ⟨v0, s0, rfl⟩ := hD.dep 0 18 rfl rfl (by obtain rfl := Option.some.inj ho; kernel_rfl)
          obtain ⟨v1, s1, rfl⟩ := hD.dep 1 19 rfl rfl (by obtain rfl := Option.some.inj ho; kernel_rfl)
          obtain rfl := Option.some.inj ho
          clear hD
          unfold Oper.wp
          simp [execOp, Act.eval, s0, s1]
          go_simp
          (try rw [if_pos (by omega)])
          exact hK _ _ (.inr rfl) (fun _ _ _ _ h => h) hG
        · obtain ⟨v2, s2, rfl⟩ := hD.dep 2 20 rfl rfl (by obtain rfl := Option.some.inj ho; kernel_rfl)
          obtain rfl := Option.some.inj ho
          clear hD
          unfold Oper.wp
          simp [execOp, Act.eval, s2]
          go_simp
          exact hK _ _ (.inr rfl) (fun _ _ _ _ h => h) hG
        · obtain ⟨v3, s3, rfl⟩ := hD.dep 3 21 rfl rfl (by obtain rfl := Option.some.inj ho; kernel_rfl)
          obtain rfl := Option.some.inj ho
          clear hD
          have hcc := (hG.cell (p := ⟨b1, o1 + k * 4, none⟩) (by first | exact hb1 | exact hb2)).trans hk1
          unfold Oper.wp
          simp [execOp, Act.eval, s3]
          go_simp
          exact hK _ _ (.inr rfl) (fun _ _ _ _ h => h) hG
        · have h1 := hD.old 1 (by kernel_rfl)
          obtain rfl := Option.some.inj ho
          clear hD
          unfold Oper.wp
          simp [execOp, Act.eval, h1]
          exact hK _ _ (.inr rfl) (fun _ _ _ _ h => h) hG
        · have h5 := hD.old 5 (by kernel_rfl)
          obtain rfl := Option.some.inj ho
          clear hD
          unfold Oper.wp
          simp [execOp, Act.eval, h5]
          exact hK _ _ (.inr rfl) (fun _ _ _ _ h => h) hG
        · obtain ⟨v5, s5, rfl⟩ := hD.dep 5 23 rfl rfl (by obtain rfl := Option.some.inj ho; kernel_rfl)
          obtain ⟨v6, s6, rfl⟩ := hD.dep 6 24 rfl rfl (by obtain rfl := Option.some.inj ho; kernel_rfl)
          obtain rfl := Option.some.inj ho
          clear hD
          unfold Oper.wp
          simp [execOp, Act.eval, s5, s6]
          go_simp
          (try rw [if_pos (by omega)])
          exact hK _ _ (.inr rfl) (fun _ _ _ _ h => h) hG
        · obtain ⟨v7, s7, rfl⟩ := hD.dep 7 25 rfl rfl (by obtain rfl := Option.some.inj ho; kernel_rfl)
          obtain rfl := Option.some.inj ho
          clear hD
          unfold Oper.wp
          simp [execOp, Act.eval, s7]
          go_simp
          exact hK _ _ (.inr rfl) (fun _ _ _ _ h => h) hG
        · obtain ⟨v8, s8, rfl⟩ := hD.dep 8 26 rfl rfl (by obtain rfl := Option.some.inj ho; kernel_rfl)
          obtain rfl := Option.some.inj ho
          clear hD
          have hcc := (hG.cell (p := ⟨b2, o2 + k * 4, none⟩) (by first | exact hb1 | exact hb2)).trans hk2
          unfold Oper.wp
          simp [execOp, Act.eval, s8]
          go_simp
          exact hK _ _ (.inr rfl) (fun _ _ _ _ h => h) hG
        · obtain ⟨v4, s4, rfl⟩ := hD.dep 4 22 rfl rfl (by obtain rfl := Option.some.inj ho; kernel_rfl)
          obtain ⟨v9, s9, rfl⟩ := hD.dep 9 27 rfl rfl (by obtain rfl := Option.some.inj ho; kernel_rfl)
          obtain rfl := Option.some.inj ho
          clear hD
          unfold Oper.wp
          simp [execOp, Act.eval, s4, s9]
          go_simp
          exact hK _ _ (.inr rfl) (fun _ _ _ _ h => h) hG
        · obtain ⟨v10, s10, rfl⟩ := hD.dep 10 28 rfl rfl (by obtain rfl := Option.some.inj ho; kernel_rfl)
          obtain rfl := Option.some.inj ho
          clear hD
          unfold Oper.wp
          simp [execOp, Act.eval, s10]
          exact hK _ _ (.inr rfl) (fun _ _ _ _ h => h) hG
        · have h0 := hD.old 0 (by kernel_rfl)
          obtain rfl := Option.some.inj ho
          clear hD
          unfold Oper.wp
          simp [execOp, Act.eval, h0]
          exact hK _ _ (.inr rfl) (fun _ _ _ _ h => h) hG
        · have h5 := hD.old 5 (by kernel_rfl)
          obtain rfl := Option.some.inj ho
          clear hD
          unfold Oper.wp
          simp [execOp, Act.eval, h5]
          exact hK _ _ (.inr rfl) (fun _ _ _ _ h => h) hG
        · obtain ⟨v12, s12, rfl⟩ := hD.dep 12 30 rfl rfl (by obtain rfl := Option.some.inj ho; kernel_rfl)
          obtain ⟨v13, s13, rfl⟩ := hD.dep 13 31 rfl rfl (by obtain rfl := Option.some.inj ho; kernel_rfl)
          obtain rfl := Option.some.inj ho
          clear hD
          unfold Oper.wp
          simp [execOp, Act.eval, s12, s13]
          go_simp
          (try rw [if_pos (by omega)])
          exact hK _ _ (.inr rfl) (fun _ _ _ _ h => h) hG
        · obtain ⟨v14, s14, rfl⟩ := hD.dep 14 32 rfl rfl (by obtain rfl := Option.some.inj ho; kernel_rfl)
          obtain rfl := Option.some.inj ho
          clear hD
          unfold Oper.wp
          simp [execOp, Act.eval, s14]
          go_simp
          exact hK _ _ (.inr rfl) (fun _ _ _ _ h => h) hG
        · obtain ⟨v15, s15, rfl⟩ := hD.dep 15 33 rfl rfl (by obtain rfl := Option.some.inj ho; kernel_rfl)
          obtain rfl := Option.some.inj ho
          clear hD
          have hcc := (hG.cell (p := ⟨b1, o1 + k * 4 + 1, none⟩) (by first | exact hb1 | exact hb2)).trans hn1
          unfold Oper.wp
          simp [execOp, Act.eval, s15]
          go_simp
          exact hK _ _ (.inr rfl) (fun _ _ _ _ h => h) hG
        · have h1 := hD.old 1 (by kernel_rfl)
          obtain rfl := Option.some.inj ho
          clear hD
          unfold Oper.wp
          simp [execOp, Act.eval, h1]
          exact hK _ _ (.inr rfl) (fun _ _ _ _ h => h) hG
        · have h5 := hD.old 5 (by kernel_rfl)
          obtain rfl := Option.some.inj ho
          clear hD
          unfold Oper.wp
          simp [execOp, Act.eval, h5]
          exact hK _ _ (.inr rfl) (fun _ _ _ _ h => h) hG
        · obtain ⟨v17, s17, rfl⟩ := hD.dep 17 35 rfl rfl (by obtain rfl := Option.some.inj ho; kernel_rfl)
          obtain ⟨v18, s18, rfl⟩ := hD.dep 18 36 rfl rfl (by obtain rfl := Option.some.inj ho; kernel_rfl)
          obtain rfl := Option.some.inj ho
          clear hD
          unfold Oper.wp
          simp [execOp, Act.eval, s17, s18]
          go_simp
          (try rw [if_pos (by omega)])
          exact hK _ _ (.inr rfl) (fun _ _ _ _ h => h) hG
        · obtain ⟨v19, s19, rfl⟩ := hD.dep 19 37 rfl rfl (by obtain rfl := Option.some.inj ho; kernel_rfl)
          obtain rfl := Option.some.inj ho
          clear hD
          unfold Oper.wp
          simp [execOp, Act.eval, s19]
          go_simp
          exact hK _ _ (.inr rfl) (fun _ _ _ _ h => h) hG
        · obtain ⟨v20, s20, rfl⟩ := hD.dep 20 38 rfl rfl (by obtain rfl := Option.some.inj ho; kernel_rfl)
          obtain rfl := Option.some.inj ho
          clear hD
          have hcc := (hG.cell (p := ⟨b2, o2 + k * 4 + 1, none⟩) (by first | exact hb1 | exact hb2)).trans hn2
          unfold Oper.wp
          simp [execOp, Act.eval, s20]
          go_simp
          exact hK _ _ (.inr rfl) (fun _ _ _ _ h => h) hG
        · obtain ⟨v16, s16, rfl⟩ := hD.dep 16 34 rfl rfl (by obtain rfl := Option.some.inj ho; kernel_rfl)
          obtain ⟨v21, s21, rfl⟩ := hD.dep 21 39 rfl rfl (by obtain rfl := Option.some.inj ho; kernel_rfl)
          obtain rfl := Option.some.inj ho
          clear hD
          unfold Oper.wp
          simp [execOp, Act.eval, s16, s21]
          go_simp
          exact hK _ _ (.inr rfl) (fun _ _ _ _ h => h) hG
        · obtain ⟨v11, s11, rfl⟩ := hD.dep 11 29 rfl rfl (by obtain rfl := Option.some.inj ho; kernel_rfl)
          obtain ⟨v22, s22, rfl⟩ := hD.dep 22 40 rfl rfl (by obtain rfl := Option.some.inj ho; kernel_rfl)
          obtain rfl := Option.some.inj ho
          clear hD
          unfold Oper.wp
          simp [execOp, Act.eval, s11, s22]
          go_simp
          exact hK _ _ (.inr rfl) (fun _ _ _ _ h => h) hG
        · obtain ⟨v23, s23, rfl⟩ := hD.dep 23 41 rfl rfl (by obtain rfl := Option.some.inj ho; kernel_rfl)
          obtain rfl := Option.some.inj ho
          clear hD
          unfold Oper.wp
          simp [execOp, Act.eval, s23]
          exact hK _ _ (.inr rfl) (fun _ _ _ _ h => h) hG
        · have h0 := hD.old 0 (by kernel_rfl)
          obtain rfl := Option.some.inj ho
          clear hD
          unfold Oper.wp
          simp [execOp, Act.eval, h0]
          exact hK _ _ (.inr rfl) (fun _ _ _ _ h => h) hG
        · have h5 := hD.old 5 (by kernel_rfl)
          obtain rfl := Option.some.inj ho
          clear hD
          unfold Oper.wp
          simp [execOp, Act.eval, h5]
          exact hK _ _ (.inr rfl) (fun _ _ _ _ h => h) hG
        · obtain ⟨v25, s25, rfl⟩ := hD.dep 25 43 rfl rfl (by obtain rfl := Option.some.inj ho; kernel_rfl)
          obtain ⟨v26, s26, rfl⟩ := hD.dep 26 44 rfl rfl (by obtain rfl := Option.some.inj ho; kernel_rfl)
          obtain rfl := Option.some.inj ho
          clear hD
          unfold Oper.wp
          simp [execOp, Act.eval, s25, s26]
          go_simp
          (try rw [if_pos (by omega)])
          exact hK _ _ (.inr rfl) (fun _ _ _ _ h => h) hG
        · obtain ⟨v27, s27, rfl⟩ := hD.dep 27 45 rfl rfl (by obtain rfl := Option.some.inj ho; kernel_rfl)
          obtain rfl := Option.some.inj ho
          clear hD
          unfold Oper.wp
          simp [execOp, Act.eval, s27]
          go_simp
          exact hK _ _ (.inr rfl) (fun _ _ _ _ h => h) hG
        · obtain ⟨v28, s28, rfl⟩ := hD.dep 28 46 rfl rfl (by obtain rfl := Option.some.inj ho; kernel_rfl)
          obtain rfl := Option.some.inj ho
          clear hD
          have hcc := (hG.cell (p := ⟨b1, o1 + k * 4 + 2, none⟩) (by first | exact hb1 | exact hb2)).trans hv1
          unfold Oper.wp
          simp [execOp, Act.eval, s28]
          go_simp
          exact hK _ _ (.inr rfl) (fun _ _ _ _ h => h) hG
        · have h1 := hD.old 1 (by kernel_rfl)
          obtain rfl := Option.some.inj ho
          clear hD
          unfold Oper.wp
          simp [execOp, Act.eval, h1]
          exact hK _ _ (.inr rfl) (fun _ _ _ _ h => h) hG
        · have h5 := hD.old 5 (by kernel_rfl)
          obtain rfl := Option.some.inj ho
          clear hD
          unfold Oper.wp
          simp [execOp, Act.eval, h5]
          exact hK _ _ (.inr rfl) (fun _ _ _ _ h => h) hG
        · obtain ⟨v30, s30, rfl⟩ := hD.dep 30 48 rfl rfl (by obtain rfl := Option.some.inj ho; kernel_rfl)
          obtain ⟨v31, s31, rfl⟩ := hD.dep 31 49 rfl rfl (by obtain rfl := Option.some.inj ho; kernel_rfl)
          obtain rfl := Option.some.inj ho
          clear hD
          unfold Oper.wp
          simp [execOp, Act.eval, s30, s31]
          go_simp
          (try rw [if_pos (by omega)])
          exact hK _ _ (.inr rfl) (fun _ _ _ _ h => h) hG
        · obtain ⟨v32, s32, rfl⟩ := hD.dep 32 50 rfl rfl (by obtain rfl := Option.some.inj ho; kernel_rfl)
          obtain rfl := Option.some.inj ho
          clear hD
          unfold Oper.wp
          simp [execOp, Act.eval, s32]
          go_simp
          exact hK _ _ (.inr rfl) (fun _ _ _ _ h => h) hG
        · obtain ⟨v33, s33, rfl⟩ := hD.dep 33 51 rfl rfl (by obtain rfl := Option.some.inj ho; kernel_rfl)
          obtain rfl := Option.some.inj ho
          clear hD
          have hcc := (hG.cell (p := ⟨b2, o2 + k * 4 + 2, none⟩) (by first | exact hb1 | exact hb2)).trans hv2
          unfold Oper.wp
          simp [execOp, Act.eval, s33]
          go_simp
          exact hK _ _ (.inr rfl) (fun _ _ _ _ h => h) hG
        · obtain ⟨v29, s29, rfl⟩ := hD.dep 29 47 rfl rfl (by obtain rfl := Option.some.inj ho; kernel_rfl)
          obtain ⟨v34, s34, rfl⟩ := hD.dep 34 52 rfl rfl (by obtain rfl := Option.some.inj ho; kernel_rfl)
          obtain rfl := Option.some.inj ho
          clear hD
          unfold Oper.wp
          simp [execOp, Act.eval, s29, s34]
          go_simp
          exact hK _ _ (.inr rfl) (fun _ _ _ _ h => h) hG
        · obtain ⟨v24, s24, rfl⟩ := hD.dep 24 42 rfl rfl (by obtain rfl := Option.some.inj ho; kernel_rfl)
          obtain ⟨v35, s35, rfl⟩ := hD.dep 35 53 rfl rfl (by obtain rfl := Option.some.inj ho; kernel_rfl)
          obtain rfl := Option.some.inj ho
          clear hD
          unfold Oper.wp
          simp [execOp, Act.eval, s24, s35]
          go_simp
          exact hK _ _ (.inr rfl) (fun _ _ _ _ h => h) hG
        · obtain ⟨v36, s36, rfl⟩ := hD.dep 36 54 rfl rfl (by obtain rfl := Option.some.inj ho; kernel_rfl)
          obtain rfl := Option.some.inj ho
          clear hD
          unfold Oper.wp
          simp [execOp, Act.eval, s36]
          exact hK _ _ (.inr rfl) (fun _ _ _ _ h => h) hG
        · have h0 := hD.old 0 (by kernel_rfl)
          obtain rfl := Option.some.inj ho
          clear hD
          unfold Oper.wp
          simp [execOp, Act.eval, h0]
          exact hK _ _ (.inr rfl) (fun _ _ _ _ h => h) hG
        · have h5 := hD.old 5 (by kernel_rfl)
          obtain rfl := Option.some.inj ho
          clear hD
          unfold Oper.wp
          simp [execOp, Act.eval, h5]
          exact hK _ _ (.inr rfl) (fun _ _ _ _ h => h) hG
        · obtain ⟨v38, s38, rfl⟩ := hD.dep 38 56 rfl rfl (by obtain rfl := Option.some.inj ho; kernel_rfl)
          obtain ⟨v39, s39, rfl⟩ := hD.dep 39 57 rfl rfl (by obtain rfl := Option.some.inj ho; kernel_rfl)
          obtain rfl := Option.some.inj ho
          clear hD
          unfold Oper.wp
          simp [execOp, Act.eval, s38, s39]
          go_simp
          (try rw [if_pos (by omega)])
          exact hK _ _ (.inr rfl) (fun _ _ _ _ h => h) hG
        · obtain ⟨v40, s40, rfl⟩ := hD.dep 40 58 rfl rfl (by obtain rfl := Option.some.inj ho; kernel_rfl)
          obtain rfl := Option.some.inj ho
          clear hD
          unfold Oper.wp
          simp [execOp, Act.eval, s40]
          go_simp
          exact hK _ _ (.inr rfl) (fun _ _ _ _ h => h) hG
        · obtain ⟨v41, s41, rfl⟩ := hD.dep 41 59 rfl rfl (by obtain rfl := Option.some.inj ho; kernel_rfl)
          obtain rfl := Option.some.inj ho
          clear hD
          have hcc := (hG.cell (p := ⟨b1, o1 + k * 4 + 3, none⟩) (by first | exact hb1 | exact hb2)).trans hp1
          unfold Oper.wp
          simp [execOp, Act.eval, s41]
          go_simp
          exact hK _ _ (.inr rfl) (fun _ _ _ _ h => h) hG
        · obtain ⟨v42, s42, rfl⟩ := hD.dep 42 60 rfl rfl (by obtain rfl := Option.some.inj ho; kernel_rfl)
          obtain rfl := Option.some.inj ho
          clear hD
          unfold Oper.wp
          simp [execOp]
          go_simp
          exact hK _ _ (.inr rfl) (fun _ _ _ _ h => h) hG
        · have h1 := hD.old 1 (by kernel_rfl)
          obtain rfl := Option.some.inj ho
          clear hD
          unfold Oper.wp
          simp [execOp, Act.eval, h1]
          exact hK _ _ (.inr rfl) (fun _ _ _ _ h => h) hG
        · have h5 := hD.old 5 (by kernel_rfl)
          obtain rfl := Option.some.inj ho
          clear hD
          unfold Oper.wp
          simp [execOp, Act.eval, h5]
          exact hK _ _ (.inr rfl) (fun _ _ _ _ h => h) hG
        · obtain ⟨v44, s44, rfl⟩ := hD.dep 44 62 rfl rfl (by obtain rfl := Option.some.inj ho; kernel_rfl)
          obtain ⟨v45, s45, rfl⟩ := hD.dep 45 63 rfl rfl (by obtain rfl := Option.some.inj ho; kernel_rfl)
          obtain rfl := Option.some.inj ho
          clear hD
          unfold Oper.wp
          simp [execOp, Act.eval, s44, s45]
          go_simp
          (try rw [if_pos (by omega)])
          exact hK _ _ (.inr rfl) (fun _ _ _ _ h => h) hG
        · obtain ⟨v46, s46, rfl⟩ := hD.dep 46 64 rfl rfl (by obtain rfl := Option.some.inj ho; kernel_rfl)
          obtain rfl := Option.some.inj ho
          clear hD
          unfold Oper.wp
          simp [execOp, Act.eval, s46]
          go_simp
          exact hK _ _ (.inr rfl) (fun _ _ _ _ h => h) hG
        · obtain ⟨v47, s47, rfl⟩ := hD.dep 47 65 rfl rfl (by obtain rfl := Option.some.inj ho; kernel_rfl)
          obtain rfl := Option.some.inj ho
          clear hD
          have hcc := (hG.cell (p := ⟨b2, o2 + k * 4 + 3, none⟩) (by first | exact hb1 | exact hb2)).trans hp2
          unfold Oper.wp
          simp [execOp, Act.eval, s47]
          go_simp
          exact hK _ _ (.inr rfl) (fun _ _ _ _ h => h) hG
        · obtain ⟨v48, s48, rfl⟩ := hD.dep 48 66 rfl rfl (by obtain rfl := Option.some.inj ho; kernel_rfl)
          obtain rfl := Option.some.inj ho
          clear hD
          unfold Oper.wp
          simp [execOp]
          go_simp
          exact hK _ _ (.inr rfl) (fun _ _ _ _ h => h) hG
        · obtain ⟨v43, s43, rfl⟩ := hD.dep 43 61 rfl rfl (by obtain rfl := Option.some.inj ho; kernel_rfl)
          obtain ⟨v49, s49, rfl⟩ := hD.dep 49 67 rfl rfl (by obtain rfl := Option.some.inj ho; kernel_rfl)
          obtain rfl := Option.some.inj ho
          clear hD
          unfold Oper.wp
          simp [execOp, Act.eval, s43, s49]
          go_simp
          exact hK _ _ (.inr rfl) (fun _ _ _ _ h => h) hG
        · obtain ⟨v37, s37, rfl⟩ := hD.dep 37 55 rfl rfl (by obtain rfl := Option.some.inj ho; kernel_rfl)
          obtain ⟨v50, s50, rfl⟩ := hD.dep 50 68 rfl rfl (by obtain rfl := Option.some.inj ho; kernel_rfl)
          obtain rfl := Option.some.inj ho
          clear hD
          unfold Oper.wp
          simp [execOp, Act.eval, s37, s50]
          go_simp
          exact hK _ _ (.inr rfl) (fun _ _ _ _ h => h) hG
      case done =>
        intro listed a wx hall hd hsz hold hdst hG
        obtain ⟨v69, h69, hv69⟩ := hdst 51 69 _ rfl rfl
        obtain rfl : v69 = .bool false := hv69
        have e69 : a.tmps.getD 69 undef = .bool false := by rw [Array.getD_eq_getD_getElem?, h69]; rfl
        have hsz2 : a.tmps.size = 97 := hsz
        have ht : a.tmps = #[a.tmps.getD 0 undef, a.tmps.getD 1 undef, a.tmps.getD 2 undef, a.tmps.getD 3 undef, a.tmps.getD 4 undef, a.tmps.getD 5 undef, a.tmps.getD 6 undef, a.tmps.getD 7 undef, a.tmps.getD 8 undef, a.tmps.getD 9 undef, a.tmps.getD 10 undef, a.tmps.getD 11 undef, a.tmps.getD 12 undef, a.tmps.getD 13 undef, a.tmps.getD 14 undef, a.tmps.getD 15 undef, a.tmps.getD 16 undef, a.tmps.getD 17 undef, a.tmps.getD 18 undef, a.tmps.getD 19 undef, a.tmps.getD 20 undef, a.tmps.getD 21 undef, a.tmps.getD 22 undef, a.tmps.getD 23 undef, a.tmps.getD 24 undef, a.tmps.getD 25 undef, a.tmps.getD 26 undef, a.tmps.getD 27 undef, a.tmps.getD 28 undef, a.tmps.getD 29 undef, a.tmps.getD 30 undef, a.tmps.getD 31 undef, a.tmps.getD 32 undef, a.tmps.getD 33 undef, a.tmps.getD 34 undef, a.tmps.getD 35 undef, a.tmps.getD 36 undef, a.tmps.getD 37 undef, a.tmps.getD 38 undef, a.tmps.getD 39 undef, a.tmps.getD 40 undef, a.tmps.getD 41 undef, a.tmps.getD 42 undef, a.tmps.getD 43 undef, a.tmps.getD 44 undef, a.tmps.getD 45 undef, a.tmps.getD 46 undef, a.tmps.getD 47 undef, a.tmps.getD 48 undef, a.tmps.getD 49 undef, a.tmps.getD 50 undef, a.tmps.getD 51 undef, a.tmps.getD 52 undef, a.tmps.getD 53 undef, a.tmps.getD 54 undef, a.tmps.getD 55 undef, a.tmps.getD 56 undef, a.tmps.getD 57 undef, a.tmps.getD 58 undef, a.tmps.getD 59 undef, a.tmps.getD 60 undef, a.tmps.getD 61 undef, a.tmps.getD 62 undef, a.tmps.getD 63 undef, a.tmps.getD 64 undef, a.tmps.getD 65 undef, a.tmps.getD 66 undef, a.tmps.getD 67 undef, a.tmps.getD 68 undef, a.tmps.getD 69 undef, a.tmps.getD 70 undef, a.tmps.getD 71 undef, a.tmps.getD 72 undef, a.tmps.getD 73 undef, a.tmps.getD 74 undef, a.tmps.getD 75 undef, a.tmps.getD 76 undef, a.tmps.getD 77 undef, a.tmps.getD 78 undef, a.tmps.getD 79 undef, a.tmps.getD 80 undef, a.tmps.getD 81 undef, a.tmps.getD 82 undef, a.tmps.getD 83 undef, a.tmps.getD 84 undef, a.tmps.getD 85 undef, a.tmps.getD 86 undef, a.tmps.getD 87 undef, a.tmps.getD 88 undef, a.tmps.getD 89 undef, a.tmps.getD 90 undef, a.tmps.getD 91 undef, a.tmps.getD 92 undef, a.tmps.getD 93 undef, a.tmps.getD 94 undef, a.tmps.getD 95 undef, a.tmps.getD 96 undef] := frame_ofFn a.tmps 97 hsz2
        rw [getD_of (hold 0 (by kernel_rfl)), getD_of (hold 1 (by kernel_rfl)), getD_of (hold 2 (by kernel_rfl)), getD_of (hold 3 (by kernel_rfl)), getD_of (hold 4 (by kernel_rfl)), getD_of (hold 5 (by kernel_rfl)), getD_of (hold 6 (by kernel_rfl)), getD_of (hold 7 (by kernel_rfl)), getD_of (hold 8 (by kernel_rfl)), getD_of (hold 9 (by kernel_rfl)), getD_of (hold 10 (by kernel_rfl)), getD_of (hold 11 (by kernel_rfl)), getD_of (hold 12 (by kernel_rfl)), getD_of (hold 13 (by kernel_rfl)), getD_of (hold 14 (by kernel_rfl)), getD_of (hold 15 (by kernel_rfl)), getD_of (hold 16 (by kernel_rfl)), getD_of (hold 17 (by kernel_rfl)), getD_of (hold 70 (by kernel_rfl)), getD_of (hold 71 (by kernel_rfl)), getD_of (hold 72 (by kernel_rfl)), getD_of (hold 73 (by kernel_rfl)), getD_of (hold 74 (by kernel_rfl)), getD_of (hold 75 (by kernel_rfl)), getD_of (hold 76 (by kernel_rfl)), getD_of (hold 77 (by kernel_rfl)), getD_of (hold 78 (by kernel_rfl)), getD_of (hold 79 (by kernel_rfl)), getD_of (hold 80 (by kernel_rfl)), getD_of (hold 81 (by kernel_rfl)), getD_of (hold 82 (by kernel_rfl)), getD_of (hold 83 (by kernel_rfl)), getD_of (hold 84 (by kernel_rfl)), getD_of (hold 85 (by kernel_rfl)), getD_of (hold 86 (by kernel_rfl)), getD_of (hold 87 (by kernel_rfl)), getD_of (hold 88 (by kernel_rfl)), getD_of (hold 89 (by kernel_rfl)), getD_of (hold 90 (by kernel_rfl)), getD_of (hold 91 (by kernel_rfl)), getD_of (hold 92 (by kernel_rfl)), getD_of (hold 93 (by kernel_rfl)), getD_of (hold 94 (by kernel_rfl)), getD_of (hold 95 (by kernel_rfl)), getD_of (hold 96 (by kernel_rfl))] at ht
        rw [e69] at ht
        generalize a.tmps.getD 18 undef = y18, a.tmps.getD 19 undef = y19, a.tmps.getD 20 undef = y20, a.tmps.getD 21 undef = y21, a.tmps.getD 22 undef = y22, a.tmps.getD 23 undef = y23, a.tmps.getD 24 undef = y24, a.tmps.getD 25 undef = y25, a.tmps.getD 26 undef = y26, a.tmps.getD 27 undef = y27, a.tmps.getD 28 undef = y28, a.tmps.getD 29 undef = y29, a.tmps.getD 30 undef = y30, a.tmps.getD 31 undef = y31, a.tmps.getD 32 undef = y32, a.tmps.getD 33 undef = y33, a.tmps.getD 34 undef = y34, a.tmps.getD 35 undef = y35, a.tmps.getD 36 undef = y36, a.tmps.getD 37 undef = y37, a.tmps.getD 38 undef = y38, a.tmps.getD 39 undef = y39, a.tmps.getD 40 undef = y40, a.tmps.getD 41 undef = y41, a.tmps.getD 42 undef = y42, a.tmps.getD 43 undef = y43, a.tmps.getD 44 undef = y44, a.tmps.getD 45 undef = y45, a.tmps.getD 46 undef = y46, a.tmps.getD 47 undef = y47, a.tmps.getD 48 undef = y48, a.tmps.getD 49 undef = y49, a.tmps.getD 50 undef = y50, a.tmps.getD 51 undef = y51, a.tmps.getD 52 undef = y52, a.tmps.getD 53 undef = y53, a.tmps.getD 54 undef = y54, a.tmps.getD 55 undef = y55, a.tmps.getD 56 undef = y56, a.tmps.getD 57 undef = y57, a.tmps.getD 58 undef = y58, a.tmps.getD 59 undef = y59, a.tmps.getD 60 undef = y60, a.tmps.getD 61 undef = y61, a.tmps.getD 62 undef = y62, a.tmps.getD 63 undef = y63, a.tmps.getD 64 undef = y64, a.tmps.getD 65 undef = y65, a.tmps.getD 66 undef = y66, a.tmps.getD 67 undef = y67, a.tmps.getD 68 undef = y68 at ht
        have BX := Lib.hid (BW.out.trans (hG.mono BW.out.size))
        have hx3 := (hG.cell (p := ⟨b1, o1 + k * 4 + 3, none⟩) hb1).trans hp1
        clear hall hsz hsz2 hold hdst hG h69 e69
        obtain ⟨tm, df⟩ := a
        simp only at ht hd
        subst ht
        subst hd
        refine hKK _ _ ?_
        go_wp2
        go_rounds 1
        go_roundw
        case rel => (repeat apply Exists.intro); exact ⟨⟨k + 1, by omega, by go_num, BX.out⟩, rfl⟩
        case measure => simp [intOf]; omega
    · obtain rfl : k = n := by omega
      go_wp2
      go_ret
      exact ⟨rfl, hb⟩
end Go.Proofs.Ytdoomfckdjjlaaa
