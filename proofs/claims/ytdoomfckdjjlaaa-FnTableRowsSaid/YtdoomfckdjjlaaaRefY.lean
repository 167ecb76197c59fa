/- Joined texts (SameTok, Alive, LawRows). -/
import Derived.Test.YtdoomfckdjjlaaaTokC
import Derived.Test.YtdoomfckdjjlaaaBase
import Derived.Lib.SlBytesConst
import Derived.Test.YtdoomfckdjjlaaaRefC
import Derived.Test.YtdoomfckdjjlaaaRefB
import Derived.Test.YtdoomfckdjjlaaaMark
import Derived.Test.YtdoomfckdjjlaaaTabDraw

/-! laws.sameTokens on equal sources (printed by gen_sametok.py). -/
namespace Go.Proofs.Ytdoomfckdjjlaaa
open Go.RowKit

def smtSlot (b1 o1 b2 o2 n c1 c2 k K : Nat) (N V : ByteArray) (pa qa : Option Addr) (pc qc : Nat) : Nat → World → Value → Prop
  | 0, _, v => v = .slice (some ⟨b1, o1, none⟩) n c1
  | 1, _, v => v = .int .i64 (k : Int)
  | 2, _, v => v = .pointer (some ⟨b1, o1 + k * 4, none⟩)
  | 3, _, v => v = .pointer (some ⟨b1, o1 + k * 4, none⟩)
  | 4, _, v => v = .int .i64 (K : Int)
  | 5, _, v => v = .slice (some ⟨b2, o2, none⟩) n c2
  | 6, _, v => v = .int .i64 (k : Int)
  | 7, _, v => v = .pointer (some ⟨b2, o2 + k * 4, none⟩)
  | 8, _, v => v = .pointer (some ⟨b2, o2 + k * 4, none⟩)
  | 9, _, v => v = .int .i64 (K : Int)
  | 10, _, v => v = .bool false
  | 11, _, v => v = .bool false
  | 12, _, v => v = .slice (some ⟨b1, o1, none⟩) n c1
  | 13, _, v => v = .int .i64 (k : Int)
  | 14, _, v => v = .pointer (some ⟨b1, o1 + k * 4, none⟩)
  | 15, _, v => v = .pointer (some ⟨b1, o1 + k * 4 + 1, none⟩)
  | 16, _, v => v = .string N
  | 17, _, v => v = .slice (some ⟨b2, o2, none⟩) n c2
  | 18, _, v => v = .int .i64 (k : Int)
  | 19, _, v => v = .pointer (some ⟨b2, o2 + k * 4, none⟩)
  | 20, _, v => v = .pointer (some ⟨b2, o2 + k * 4 + 1, none⟩)
  | 21, _, v => v = .string N
  | 22, _, v => v = .bool false
  | 23, _, v => v = .bool false
  | 24, _, v => v = .bool false
  | 25, _, v => v = .slice (some ⟨b1, o1, none⟩) n c1
  | 26, _, v => v = .int .i64 (k : Int)
  | 27, _, v => v = .pointer (some ⟨b1, o1 + k * 4, none⟩)
  | 28, _, v => v = .pointer (some ⟨b1, o1 + k * 4 + 2, none⟩)
  | 29, _, v => v = .string V
  | 30, _, v => v = .slice (some ⟨b2, o2, none⟩) n c2
  | 31, _, v => v = .int .i64 (k : Int)
  | 32, _, v => v = .pointer (some ⟨b2, o2 + k * 4, none⟩)
  | 33, _, v => v = .pointer (some ⟨b2, o2 + k * 4 + 2, none⟩)
  | 34, _, v => v = .string V
  | 35, _, v => v = .bool false
  | 36, _, v => v = .bool false
  | 37, _, v => v = .bool false
  | 38, _, v => v = .slice (some ⟨b1, o1, none⟩) n c1
  | 39, _, v => v = .int .i64 (k : Int)
  | 40, _, v => v = .pointer (some ⟨b1, o1 + k * 4, none⟩)
  | 41, _, v => v = .pointer (some ⟨b1, o1 + k * 4 + 3, none⟩)
  | 42, _, v => v = .slice pa 0 pc
  | 43, _, v => v = .int .i64 0
  | 44, _, v => v = .slice (some ⟨b2, o2, none⟩) n c2
  | 45, _, v => v = .int .i64 (k : Int)
  | 46, _, v => v = .pointer (some ⟨b2, o2 + k * 4, none⟩)
  | 47, _, v => v = .pointer (some ⟨b2, o2 + k * 4 + 3, none⟩)
  | 48, _, v => v = .slice qa 0 qc
  | 49, _, v => v = .int .i64 0
  | 50, _, v => v = .bool false
  | 51, _, v => v = .bool false
  | _, _, _ => True
theorem smt_any {b1 o1 b2 o2 n c1 c2 k K : Nat} {N V : ByteArray} {pa qa : Option Addr} {pc qc : Nat} {j : Nat} {w w' : World} {v : Value} (h : smtSlot b1 o1 b2 o2 n c1 c2 k K N V pa qa pc qc j w v) : smtSlot b1 o1 b2 o2 n c1 c2 k K N V pa qa pc qc j w' v := by
  unfold smtSlot at h ⊢
  split at h <;> exact h
set_option maxRecDepth 100000 in
set_option maxHeartbeats 1600000 in
theorem sameTokens_any (a1 a2 : Option Addr) (n c1 c2 : Nat) (T : List Tok) (w : World) (h1 : TokAt w a1 T) (h2 : TokAt w a2 T) (hn : T.length = n) (hn' : n ≤ 1048576) :
    Calls Try.prog 18 #[.slice a1 n c1, .slice a2 n c2] w fun e w' => e = .returned (.bool true) ∧ Below w.heap.size w w' := by
  have H1 := Lib.hid h1; have H2 := Lib.hid h2; have HN := Lib.hid hn
  clear h1 h2 hn
  go_enter Try.func18, Try.ntmps18
  go_wp2
  go_loopw [5] (fun t wr => ∃ k : Nat, k ≤ n ∧ t = .int .i64 (k : Int) ∧ Below w.heap.size w wr) (fun t _ => n - (intOf t).toNat)
  case atStart => exact ⟨0, Nat.zero_le _, rfl, Below.refl _ _⟩
  case round =>
    obtain ⟨k, hk, rfl, hb⟩ := hrel
    have BW := Lib.hid hb
    by_cases hlt : k < n
    · have hks : k < T.length := by rw [HN.out]; exact hlt
      obtain ⟨b1, o1, pa, pc, rfl, hb1, hk1, hn1, hv1, hp1⟩ := (H1.out.below hb) k hks
      obtain ⟨b2, o2, qa, qc, rfl, hb2, hk2, hn2, hv2, hp2⟩ := (H2.out.below hb) k hks
      clear hb
      generalize T[k].K = K at hk1 hk2
      generalize T[k].N = N at hn1 hn2
      generalize T[k].V = V at hv1 hv2
      go_wp2
      refine wp_region_any (by kernel_rfl) ?_
      rename_i KK hKK
      refine region_guard (smtSlot b1 o1 b2 o2 n c1 c2 k K N V pa qa pc qc) (fun _ w2 => Below wr.heap.size wr w2) 97 52 (by kernel_rfl) (by kernel_rfl) ?gd (Nat.le_refl 97) (by kernel_rfl) rfl rfl (by decide) ?start ?step ?done
      case gd =>
        intro i o j b ho hg w v hp
        have hlt : i < 52 := by have := (Array.getElem?_eq_some_iff.1 ho).1; simpa using this
        rcases (show i = 0 ∨ i = 1 ∨ i = 2 ∨ i = 3 ∨ i = 4 ∨ i = 5 ∨ i = 6 ∨ i = 7 ∨ i = 8 ∨ i = 9 ∨ i = 10 ∨ i = 11 ∨ i = 12 ∨ i = 13 ∨ i = 14 ∨ i = 15 ∨ i = 16 ∨ i = 17 ∨ i = 18 ∨ i = 19 ∨ i = 20 ∨ i = 21 ∨ i = 22 ∨ i = 23 ∨ i = 24 ∨ i = 25 ∨ i = 26 ∨ i = 27 ∨ i = 28 ∨ i = 29 ∨ i = 30 ∨ i = 31 ∨ i = 32 ∨ i = 33 ∨ i = 34 ∨ i = 35 ∨ i = 36 ∨ i = 37 ∨ i = 38 ∨ i = 39 ∨ i = 40 ∨ i = 41 ∨ i = 42 ∨ i = 43 ∨ i = 44 ∨ i = 45 ∨ i = 46 ∨ i = 47 ∨ i = 48 ∨ i = 49 ∨ i = 50 ∨ i = 51 by omega) with rfl | rfl | rfl | rfl | rfl | rfl | rfl | rfl | rfl | rfl | rfl | rfl | rfl | rfl | rfl | rfl | rfl | rfl | rfl | rfl | rfl | rfl | rfl | rfl | rfl | rfl | rfl | rfl | rfl | rfl | rfl | rfl | rfl | rfl | rfl | rfl | rfl | rfl | rfl | rfl | rfl | rfl | rfl | rfl | rfl | rfl | rfl | rfl | rfl | rfl | rfl | rfl
        all_goals (obtain rfl := Option.some.inj ho; first | (cases hg; done) | (cases hg; exact hp))
      case start => exact (Below.refl _ _).drew
      case step =>
        intro i o ho listed wx a hls hli hdp hG hD KC hK
        have hlt : i < 52 := by have := (Array.getElem?_eq_some_iff.1 ho).1; simpa using this
        rcases (show i = 0 ∨ i = 1 ∨ i = 2 ∨ i = 3 ∨ i = 4 ∨ i = 5 ∨ i = 6 ∨ i = 7 ∨ i = 8 ∨ i = 9 ∨ i = 10 ∨ i = 11 ∨ i = 12 ∨ i = 13 ∨ i = 14 ∨ i = 15 ∨ i = 16 ∨ i = 17 ∨ i = 18 ∨ i = 19 ∨ i = 20 ∨ i = 21 ∨ i = 22 ∨ i = 23 ∨ i = 24 ∨ i = 25 ∨ i = 26 ∨ i = 27 ∨ i = 28 ∨ i = 29 ∨ i = 30 ∨ i = 31 ∨ i = 32 ∨ i = 33 ∨ i = 34 ∨ i = 35 ∨ i = 36 ∨ i = 37 ∨ i = 38 ∨ i = 39 ∨ i = 40 ∨ i = 41 ∨ i = 42 ∨ i = 43 ∨ i = 44 ∨ i = 45 ∨ i = 46 ∨ i = 47 ∨ i = 48 ∨ i = 49 ∨ i = 50 ∨ i = 51 by omega) with rfl | rfl | rfl | rfl | rfl | rfl | rfl | rfl | rfl | rfl | rfl | rfl | rfl | rfl | rfl | rfl | rfl | rfl | rfl | rfl | rfl | rfl | rfl | rfl | rfl | rfl | rfl | rfl | rfl | rfl | rfl | rfl | rfl | rfl | rfl | rfl | rfl | rfl | rfl | rfl | rfl | rfl | rfl | rfl | rfl | rfl | rfl | rfl | rfl | rfl | rfl | rfl
        · have h0 := hD.old 0 (by kernel_rfl)
          obtain rfl := Option.some.inj ho
          clear hD
          unfold Oper.wp
          simp [execOp, Act.eval, h0]
          exact hK _ _ (.inr rfl) (fun _ _ _ _ h => h) hG
        · have h5 := hD.old 5 (by kernel_rfl)
          obtain rfl := Option.some.inj ho
          clear hD
          unfold Oper.wp
          simp [execOp, Act.eval, h5]
          exact hK _ _ (.inr rfl) (fun _ _ _ _ h => h) hG
        · obtain ⟨v0, s0, rfl⟩ := hD.dep 0 18 rfl rfl (by obtain rfl := Option.some.inj ho; kernel_rfl)
          obtain ⟨v1, s1, rfl⟩ := hD.dep 1 19 rfl rfl (by obtain rfl := Option.some.inj ho; kernel_rfl)
          obtain rfl := Option.some.inj ho
          clear hD
          unfold Oper.wp
          simp [execOp, Act.eval, s0, s1]
          go_simp
          (try rw [if_pos (by omega)])
          exact hK _ _ (.inr rfl) (fun _ _ _ _ h => h) hG
        · obtain ⟨v2, s2, rfl⟩ := hD.dep 2 20 rfl rfl (by obtain rfl := Option.some.inj ho; kernel_rfl)
          obtain rfl := Option.some.inj ho
          clear hD
          unfold Oper.wp
          simp [execOp, Act.eval, s2]
          go_simp
          exact hK _ _ (.inr rfl) (fun _ _ _ _ h => h) hG
        · obtain ⟨v3, s3, rfl⟩ := hD.dep 3 21 rfl rfl (by obtain rfl := Option.some.inj ho; kernel_rfl)
          obtain rfl := Option.some.inj ho
          clear hD
          have hcc := (hG.cell (p := ⟨b1, o1 + k * 4, none⟩) (by first | exact hb1 | exact hb2)).trans hk1
          unfold Oper.wp
          simp [execOp, Act.eval, s3]
          go_simp
          exact hK _ _ (.inr rfl) (fun _ _ _ _ h => h) hG
        · have h1 := hD.old 1 (by kernel_rfl)
          obtain rfl := Option.some.inj ho
          clear hD
          unfold Oper.wp
          simp [execOp, Act.eval, h1]
          exact hK _ _ (.inr rfl) (fun _ _ _ _ h => h) hG
        · have h5 := hD.old 5 (by kernel_rfl)
          obtain rfl := Option.some.inj ho
          clear hD
          unfold Oper.wp
          simp [execOp, Act.eval, h5]
          exact hK _ _ (.inr rfl) (fun _ _ _ _ h => h) hG
        · obtain ⟨v5, s5, rfl⟩ := hD.dep 5 23 rfl rfl (by obtain rfl := Option.some.inj ho; kernel_rfl)
          obtain ⟨v6, s6, rfl⟩ := hD.dep 6 24 rfl rfl (by obtain rfl := Option.some.inj ho; kernel_rfl)
          obtain rfl := Option.some.inj ho
          clear hD
          unfold Oper.wp
          simp [execOp, Act.eval, s5, s6]
          go_simp
          (try rw [if_pos (by omega)])
          exact hK _ _ (.inr rfl) (fun _ _ _ _ h => h) hG
        · obtain ⟨v7, s7, rfl⟩ := hD.dep 7 25 rfl rfl (by obtain rfl := Option.some.inj ho; kernel_rfl)
          obtain rfl := Option.some.inj ho
          clear hD
          unfold Oper.wp
          simp [execOp, Act.eval, s7]
          go_simp
          exact hK _ _ (.inr rfl) (fun _ _ _ _ h => h) hG
        · obtain ⟨v8, s8, rfl⟩ := hD.dep 8 26 rfl rfl (by obtain rfl := Option.some.inj ho; kernel_rfl)
          obtain rfl := Option.some.inj ho
          clear hD
          have hcc := (hG.cell (p := ⟨b2, o2 + k * 4, none⟩) (by first | exact hb1 | exact hb2)).trans hk2
          unfold Oper.wp
          simp [execOp, Act.eval, s8]
          go_simp
          exact hK _ _ (.inr rfl) (fun _ _ _ _ h => h) hG
        · obtain ⟨v4, s4, rfl⟩ := hD.dep 4 22 rfl rfl (by obtain rfl := Option.some.inj ho; kernel_rfl)
          obtain ⟨v9, s9, rfl⟩ := hD.dep 9 27 rfl rfl (by obtain rfl := Option.some.inj ho; kernel_rfl)
          obtain rfl := Option.some.inj ho
          clear hD
          unfold Oper.wp
          simp [execOp, Act.eval, s4, s9]
          go_simp
          exact hK _ _ (.inr rfl) (fun _ _ _ _ h => h) hG
        · obtain ⟨v10, s10, rfl⟩ := hD.dep 10 28 rfl rfl (by obtain rfl := Option.some.inj ho; kernel_rfl)
          obtain rfl := Option.some.inj ho
          clear hD
          unfold Oper.wp
          simp [execOp, Act.eval, s10]
          exact hK _ _ (.inr rfl) (fun _ _ _ _ h => h) hG
        · have h0 := hD.old 0 (by kernel_rfl)
          obtain rfl := Option.some.inj ho
          clear hD
          unfold Oper.wp
          simp [execOp, Act.eval, h0]
          exact hK _ _ (.inr rfl) (fun _ _ _ _ h => h) hG
        · have h5 := hD.old 5 (by kernel_rfl)
          obtain rfl := Option.some.inj ho
          clear hD
          unfold Oper.wp
          simp [execOp, Act.eval, h5]
          exact hK _ _ (.inr rfl) (fun _ _ _ _ h => h) hG
        · obtain ⟨v12, s12, rfl⟩ := hD.dep 12 30 rfl rfl (by obtain rfl := Option.some.inj ho; kernel_rfl)
          obtain ⟨v13, s13, rfl⟩ := hD.dep 13 31 rfl rfl (by obtain rfl := Option.some.inj ho; kernel_rfl)
          obtain rfl := Option.some.inj ho
          clear hD
          unfold Oper.wp
          simp [execOp, Act.eval, s12, s13]
          go_simp
          (try rw [if_pos (by omega)])
          exact hK _ _ (.inr rfl) (fun _ _ _ _ h => h) hG
        · obtain ⟨v14, s14, rfl⟩ := hD.dep 14 32 rfl rfl (by obtain rfl := Option.some.inj ho; kernel_rfl)
          obtain rfl := Option.some.inj ho
          clear hD
          unfold Oper.wp
          simp [execOp, Act.eval, s14]
          go_simp
          exact hK _ _ (.inr rfl) (fun _ _ _ _ h => h) hG
        · obtain ⟨v15, s15, rfl⟩ := hD.dep 15 33 rfl rfl (by obtain rfl := Option.some.inj ho; kernel_rfl)
          obtain rfl := Option.some.inj ho
          clear hD
          have hcc := (hG.cell (p := ⟨b1, o1 + k * 4 + 1, none⟩) (by first | exact hb1 | exact hb2)).trans hn1
          unfold Oper.wp
          simp [execOp, Act.eval, s15]
          go_simp
          exact hK _ _ (.inr rfl) (fun _ _ _ _ h => h) hG
        · have h1 := hD.old 1 (by kernel_rfl)
          obtain rfl := Option.some.inj ho
          clear hD
          unfold Oper.wp
          simp [execOp, Act.eval, h1]
          exact hK _ _ (.inr rfl) (fun _ _ _ _ h => h) hG
        · have h5 := hD.old 5 (by kernel_rfl)
          obtain rfl := Option.some.inj ho
          clear hD
          unfold Oper.wp
          simp [execOp, Act.eval, h5]
          exact hK _ _ (.inr rfl) (fun _ _ _ _ h => h) hG
        · obtain ⟨v17, s17, rfl⟩ := hD.dep 17 35 rfl rfl (by obtain rfl := Option.some.inj ho; kernel_rfl)
          obtain ⟨v18, s18, rfl⟩ := hD.dep 18 36 rfl rfl (by obtain rfl := Option.some.inj ho; kernel_rfl)
          obtain rfl := Option.some.inj ho
          clear hD
          unfold Oper.wp
          simp [execOp, Act.eval, s17, s18]
          go_simp
          (try rw [if_pos (by omega)])
          exact hK _ _ (.inr rfl) (fun _ _ _ _ h => h) hG
        · obtain ⟨v19, s19, rfl⟩ := hD.dep 19 37 rfl rfl (by obtain rfl := Option.some.inj ho; kernel_rfl)
          obtain rfl := Option.some.inj ho
          clear hD
          unfold Oper.wp
          simp [execOp, Act.eval, s19]
          go_simp
          exact hK _ _ (.inr rfl) (fun _ _ _ _ h => h) hG
        · obtain ⟨v20, s20, rfl⟩ := hD.dep 20 38 rfl rfl (by obtain rfl := Option.some.inj ho; kernel_rfl)
          obtain rfl := Option.some.inj ho
          clear hD
          have hcc := (hG.cell (p := ⟨b2, o2 + k * 4 + 1, none⟩) (by first | exact hb1 | exact hb2)).trans hn2
          unfold Oper.wp
          simp [execOp, Act.eval, s20]
          go_simp
          exact hK _ _ (.inr rfl) (fun _ _ _ _ h => h) hG
        · obtain ⟨v16, s16, rfl⟩ := hD.dep 16 34 rfl rfl (by obtain rfl := Option.some.inj ho; kernel_rfl)
          obtain ⟨v21, s21, rfl⟩ := hD.dep 21 39 rfl rfl (by obtain rfl := Option.some.inj ho; kernel_rfl)
          obtain rfl := Option.some.inj ho
          clear hD
          unfold Oper.wp
          simp [execOp, Act.eval, s16, s21]
          go_simp
          exact hK _ _ (.inr rfl) (fun _ _ _ _ h => h) hG
        · obtain ⟨v11, s11, rfl⟩ := hD.dep 11 29 rfl rfl (by obtain rfl := Option.some.inj ho; kernel_rfl)
          obtain ⟨v22, s22, rfl⟩ := hD.dep 22 40 rfl rfl (by obtain rfl := Option.some.inj ho; kernel_rfl)
          obtain rfl := Option.some.inj ho
          clear hD
          unfold Oper.wp
          simp [execOp, Act.eval, s11, s22]
          go_simp
          exact hK _ _ (.inr rfl) (fun _ _ _ _ h => h) hG
        · obtain ⟨v23, s23, rfl⟩ := hD.dep 23 41 rfl rfl (by obtain rfl := Option.some.inj ho; kernel_rfl)
          obtain rfl := Option.some.inj ho
          clear hD
          unfold Oper.wp
          simp [execOp, Act.eval, s23]
          exact hK _ _ (.inr rfl) (fun _ _ _ _ h => h) hG
        · have h0 := hD.old 0 (by kernel_rfl)
          obtain rfl := Option.some.inj ho
          clear hD
          unfold Oper.wp
          simp [execOp, Act.eval, h0]
          exact hK _ _ (.inr rfl) (fun _ _ _ _ h => h) hG
        · have h5 := hD.old 5 (by kernel_rfl)
          obtain rfl := Option.some.inj ho
          clear hD
          unfold Oper.wp
          simp [execOp, Act.eval, h5]
          exact hK _ _ (.inr rfl) (fun _ _ _ _ h => h) hG
        · obtain ⟨v25, s25, rfl⟩ := hD.dep 25 43 rfl rfl (by obtain rfl := Option.some.inj ho; kernel_rfl)
          obtain ⟨v26, s26, rfl⟩ := hD.dep 26 44 rfl rfl (by obtain rfl := Option.some.inj ho; kernel_rfl)
          obtain rfl := Option.some.inj ho
          clear hD
          unfold Oper.wp
          simp [execOp, Act.eval, s25, s26]
          go_simp
          (try rw [if_pos (by omega)])
          exact hK _ _ (.inr rfl) (fun _ _ _ _ h => h) hG
        · obtain ⟨v27, s27, rfl⟩ := hD.dep 27 45 rfl rfl (by obtain rfl := Option.some.inj ho; kernel_rfl)
          obtain rfl := Option.some.inj ho
          clear hD
          unfold Oper.wp
          simp [execOp, Act.eval, s27]
          go_simp
          exact hK _ _ (.inr rfl) (fun _ _ _ _ h => h) hG
        · obtain ⟨v28, s28, rfl⟩ := hD.dep 28 46 rfl rfl (by obtain rfl := Option.some.inj ho; kernel_rfl)
          obtain rfl := Option.some.inj ho
          clear hD
          have hcc := (hG.cell (p := ⟨b1, o1 + k * 4 + 2, none⟩) (by first | exact hb1 | exact hb2)).trans hv1
          unfold Oper.wp
          simp [execOp, Act.eval, s28]
          go_simp
          exact hK _ _ (.inr rfl) (fun _ _ _ _ h => h) hG
        · have h1 := hD.old 1 (by kernel_rfl)
          obtain rfl := Option.some.inj ho
          clear hD
          unfold Oper.wp
          simp [execOp, Act.eval, h1]
          exact hK _ _ (.inr rfl) (fun _ _ _ _ h => h) hG
        · have h5 := hD.old 5 (by kernel_rfl)
          obtain rfl := Option.some.inj ho
          clear hD
          unfold Oper.wp
          simp [execOp, Act.eval, h5]
          exact hK _ _ (.inr rfl) (fun _ _ _ _ h => h) hG
        · obtain ⟨v30, s30, rfl⟩ := hD.dep 30 48 rfl rfl (by obtain rfl := Option.some.inj ho; kernel_rfl)
          obtain ⟨v31, s31, rfl⟩ := hD.dep 31 49 rfl rfl (by obtain rfl := Option.some.inj ho; kernel_rfl)
          obtain rfl := Option.some.inj ho
          clear hD
          unfold Oper.wp
          simp [execOp, Act.eval, s30, s31]
          go_simp
          (try rw [if_pos (by omega)])
          exact hK _ _ (.inr rfl) (fun _ _ _ _ h => h) hG
        · obtain ⟨v32, s32, rfl⟩ := hD.dep 32 50 rfl rfl (by obtain rfl := Option.some.inj ho; kernel_rfl)
          obtain rfl := Option.some.inj ho
          clear hD
          unfold Oper.wp
          simp [execOp, Act.eval, s32]
          go_simp
          exact hK _ _ (.inr rfl) (fun _ _ _ _ h => h) hG
        · obtain ⟨v33, s33, rfl⟩ := hD.dep 33 51 rfl rfl (by obtain rfl := Option.some.inj ho; kernel_rfl)
          obtain rfl := Option.some.inj ho
          clear hD
          have hcc := (hG.cell (p := ⟨b2, o2 + k * 4 + 2, none⟩) (by first | exact hb1 | exact hb2)).trans hv2
          unfold Oper.wp
          simp [execOp, Act.eval, s33]
          go_simp
          exact hK _ _ (.inr rfl) (fun _ _ _ _ h => h) hG
        · obtain ⟨v29, s29, rfl⟩ := hD.dep 29 47 rfl rfl (by obtain rfl := Option.some.inj ho; kernel_rfl)
          obtain ⟨v34, s34, rfl⟩ := hD.dep 34 52 rfl rfl (by obtain rfl := Option.some.inj ho; kernel_rfl)
          obtain rfl := Option.some.inj ho
          clear hD
          unfold Oper.wp
          simp [execOp, Act.eval, s29, s34]
          go_simp
          exact hK _ _ (.inr rfl) (fun _ _ _ _ h => h) hG
        · obtain ⟨v24, s24, rfl⟩ := hD.dep 24 42 rfl rfl (by obtain rfl := Option.some.inj ho; kernel_rfl)
          obtain ⟨v35, s35, rfl⟩ := hD.dep 35 53 rfl rfl (by obtain rfl := Option.some.inj ho; kernel_rfl)
          obtain rfl := Option.some.inj ho
          clear hD
          unfold Oper.wp
          simp [execOp, Act.eval, s24, s35]
          go_simp
          exact hK _ _ (.inr rfl) (fun _ _ _ _ h => h) hG
        · obtain ⟨v36, s36, rfl⟩ := hD.dep 36 54 rfl rfl (by obtain rfl := Option.some.inj ho; kernel_rfl)
          obtain rfl := Option.some.inj ho
          clear hD
          unfold Oper.wp
          simp [execOp, Act.eval, s36]
          exact hK _ _ (.inr rfl) (fun _ _ _ _ h => h) hG
        · have h0 := hD.old 0 (by kernel_rfl)
          obtain rfl := Option.some.inj ho
          clear hD
          unfold Oper.wp
          simp [execOp, Act.eval, h0]
          exact hK _ _ (.inr rfl) (fun _ _ _ _ h => h) hG
        · have h5 := hD.old 5 (by kernel_rfl)
          obtain rfl := Option.some.inj ho
          clear hD
          unfold Oper.wp
          simp [execOp, Act.eval, h5]
          exact hK _ _ (.inr rfl) (fun _ _ _ _ h => h) hG
        · obtain ⟨v38, s38, rfl⟩ := hD.dep 38 56 rfl rfl (by obtain rfl := Option.some.inj ho; kernel_rfl)
          obtain ⟨v39, s39, rfl⟩ := hD.dep 39 57 rfl rfl (by obtain rfl := Option.some.inj ho; kernel_rfl)
          obtain rfl := Option.some.inj ho
          clear hD
          unfold Oper.wp
          simp [execOp, Act.eval, s38, s39]
          go_simp
          (try rw [if_pos (by omega)])
          exact hK _ _ (.inr rfl) (fun _ _ _ _ h => h) hG
        · obtain ⟨v40, s40, rfl⟩ := hD.dep 40 58 rfl rfl (by obtain rfl := Option.some.inj ho; kernel_rfl)
          obtain rfl := Option.some.inj ho
          clear hD
          unfold Oper.wp
          simp [execOp, Act.eval, s40]
          go_simp
          exact hK _ _ (.inr rfl) (fun _ _ _ _ h => h) hG
        · obtain ⟨v41, s41, rfl⟩ := hD.dep 41 59 rfl rfl (by obtain rfl := Option.some.inj ho; kernel_rfl)
          obtain rfl := Option.some.inj ho
          clear hD
          have hcc := (hG.cell (p := ⟨b1, o1 + k * 4 + 3, none⟩) (by first | exact hb1 | exact hb2)).trans hp1
          unfold Oper.wp
          simp [execOp, Act.eval, s41]
          go_simp
          exact hK _ _ (.inr rfl) (fun _ _ _ _ h => h) hG
        · obtain ⟨v42, s42, rfl⟩ := hD.dep 42 60 rfl rfl (by obtain rfl := Option.some.inj ho; kernel_rfl)
          obtain rfl := Option.some.inj ho
          clear hD
          unfold Oper.wp
          simp [execOp]
          go_simp
          exact hK _ _ (.inr rfl) (fun _ _ _ _ h => h) hG
        · have h1 := hD.old 1 (by kernel_rfl)
          obtain rfl := Option.some.inj ho
          clear hD
          unfold Oper.wp
          simp [execOp, Act.eval, h1]
          exact hK _ _ (.inr rfl) (fun _ _ _ _ h => h) hG
        · have h5 := hD.old 5 (by kernel_rfl)
          obtain rfl := Option.some.inj ho
          clear hD
          unfold Oper.wp
          simp [execOp, Act.eval, h5]
          exact hK _ _ (.inr rfl) (fun _ _ _ _ h => h) hG
        · obtain ⟨v44, s44, rfl⟩ := hD.dep 44 62 rfl rfl (by obtain rfl := Option.some.inj ho; kernel_rfl)
          obtain ⟨v45, s45, rfl⟩ := hD.dep 45 63 rfl rfl (by obtain rfl := Option.some.inj ho; kernel_rfl)
          obtain rfl := Option.some.inj ho
          clear hD
          unfold Oper.wp
          simp [execOp, Act.eval, s44, s45]
          go_simp
          (try rw [if_pos (by omega)])
          exact hK _ _ (.inr rfl) (fun _ _ _ _ h => h) hG
        · obtain ⟨v46, s46, rfl⟩ := hD.dep 46 64 rfl rfl (by obtain rfl := Option.some.inj ho; kernel_rfl)
          obtain rfl := Option.some.inj ho
          clear hD
          unfold Oper.wp
          simp [execOp, Act.eval, s46]
          go_simp
          exact hK _ _ (.inr rfl) (fun _ _ _ _ h => h) hG
        · obtain ⟨v47, s47, rfl⟩ := hD.dep 47 65 rfl rfl (by obtain rfl := Option.some.inj ho; kernel_rfl)
          obtain rfl := Option.some.inj ho
          clear hD
          have hcc := (hG.cell (p := ⟨b2, o2 + k * 4 + 3, none⟩) (by first | exact hb1 | exact hb2)).trans hp2
          unfold Oper.wp
          simp [execOp, Act.eval, s47]
          go_simp
          exact hK _ _ (.inr rfl) (fun _ _ _ _ h => h) hG
        · obtain ⟨v48, s48, rfl⟩ := hD.dep 48 66 rfl rfl (by obtain rfl := Option.some.inj ho; kernel_rfl)
          obtain rfl := Option.some.inj ho
          clear hD
          unfold Oper.wp
          simp [execOp]
          go_simp
          exact hK _ _ (.inr rfl) (fun _ _ _ _ h => h) hG
        · obtain ⟨v43, s43, rfl⟩ := hD.dep 43 61 rfl rfl (by obtain rfl := Option.some.inj ho; kernel_rfl)
          obtain ⟨v49, s49, rfl⟩ := hD.dep 49 67 rfl rfl (by obtain rfl := Option.some.inj ho; kernel_rfl)
          obtain rfl := Option.some.inj ho
          clear hD
          unfold Oper.wp
          simp [execOp, Act.eval, s43, s49]
          go_simp
          exact hK _ _ (.inr rfl) (fun _ _ _ _ h => h) hG
        · obtain ⟨v37, s37, rfl⟩ := hD.dep 37 55 rfl rfl (by obtain rfl := Option.some.inj ho; kernel_rfl)
          obtain ⟨v50, s50, rfl⟩ := hD.dep 50 68 rfl rfl (by obtain rfl := Option.some.inj ho; kernel_rfl)
          obtain rfl := Option.some.inj ho
          clear hD
          unfold Oper.wp
          simp [execOp, Act.eval, s37, s50]
          go_simp
          exact hK _ _ (.inr rfl) (fun _ _ _ _ h => h) hG
      case done =>
        intro listed a wx hall hd hsz hold hdst hG
        obtain ⟨v69, h69, hv69⟩ := hdst 51 69 _ rfl rfl
        obtain rfl : v69 = .bool false := hv69
        have e69 : a.tmps.getD 69 undef = .bool false := by rw [Array.getD_eq_getD_getElem?, h69]; rfl
        have hsz2 : a.tmps.size = 97 := hsz
        have ht : a.tmps = #[a.tmps.getD 0 undef, a.tmps.getD 1 undef, a.tmps.getD 2 undef, a.tmps.getD 3 undef, a.tmps.getD 4 undef, a.tmps.getD 5 undef, a.tmps.getD 6 undef, a.tmps.getD 7 undef, a.tmps.getD 8 undef, a.tmps.getD 9 undef, a.tmps.getD 10 undef, a.tmps.getD 11 undef, a.tmps.getD 12 undef, a.tmps.getD 13 undef, a.tmps.getD 14 undef, a.tmps.getD 15 undef, a.tmps.getD 16 undef, a.tmps.getD 17 undef, a.tmps.getD 18 undef, a.tmps.getD 19 undef, a.tmps.getD 20 undef, a.tmps.getD 21 undef, a.tmps.getD 22 undef, a.tmps.getD 23 undef, a.tmps.getD 24 undef, a.tmps.getD 25 undef, a.tmps.getD 26 undef, a.tmps.getD 27 undef, a.tmps.getD 28 undef, a.tmps.getD 29 undef, a.tmps.getD 30 undef, a.tmps.getD 31 undef, a.tmps.getD 32 undef, a.tmps.getD 33 undef, a.tmps.getD 34 undef, a.tmps.getD 35 undef, a.tmps.getD 36 undef, a.tmps.getD 37 undef, a.tmps.getD 38 undef, a.tmps.getD 39 undef, a.tmps.getD 40 undef, a.tmps.getD 41 undef, a.tmps.getD 42 undef, a.tmps.getD 43 undef, a.tmps.getD 44 undef, a.tmps.getD 45 undef, a.tmps.getD 46 undef, a.tmps.getD 47 undef, a.tmps.getD 48 undef, a.tmps.getD 49 undef, a.tmps.getD 50 undef, a.tmps.getD 51 undef, a.tmps.getD 52 undef, a.tmps.getD 53 undef, a.tmps.getD 54 undef, a.tmps.getD 55 undef, a.tmps.getD 56 undef, a.tmps.getD 57 undef, a.tmps.getD 58 undef, a.tmps.getD 59 undef, a.tmps.getD 60 undef, a.tmps.getD 61 undef, a.tmps.getD 62 undef, a.tmps.getD 63 undef, a.tmps.getD 64 undef, a.tmps.getD 65 undef, a.tmps.getD 66 undef, a.tmps.getD 67 undef, a.tmps.getD 68 undef, a.tmps.getD 69 undef, a.tmps.getD 70 undef, a.tmps.getD 71 undef, a.tmps.getD 72 undef, a.tmps.getD 73 undef, a.tmps.getD 74 undef, a.tmps.getD 75 undef, a.tmps.getD 76 undef, a.tmps.getD 77 undef, a.tmps.getD 78 undef, a.tmps.getD 79 undef, a.tmps.getD 80 undef, a.tmps.getD 81 undef, a.tmps.getD 82 undef, a.tmps.getD 83 undef, a.tmps.getD 84 undef, a.tmps.getD 85 undef, a.tmps.getD 86 undef, a.tmps.getD 87 undef, a.tmps.getD 88 undef, a.tmps.getD 89 undef, a.tmps.getD 90 undef, a.tmps.getD 91 undef, a.tmps.getD 92 undef, a.tmps.getD 93 undef, a.tmps.getD 94 undef, a.tmps.getD 95 undef, a.tmps.getD 96 undef] := frame_ofFn a.tmps 97 hsz2
        rw [getD_of (hold 0 (by kernel_rfl)), getD_of (hold 1 (by kernel_rfl)), getD_of (hold 2 (by kernel_rfl)), getD_of (hold 3 (by kernel_rfl)), getD_of (hold 4 (by kernel_rfl)), getD_of (hold 5 (by kernel_rfl)), getD_of (hold 6 (by kernel_rfl)), getD_of (hold 7 (by kernel_rfl)), getD_of (hold 8 (by kernel_rfl)), getD_of (hold 9 (by kernel_rfl)), getD_of (hold 10 (by kernel_rfl)), getD_of (hold 11 (by kernel_rfl)), getD_of (hold 12 (by kernel_rfl)), getD_of (hold 13 (by kernel_rfl)), getD_of (hold 14 (by kernel_rfl)), getD_of (hold 15 (by kernel_rfl)), getD_of (hold 16 (by kernel_rfl)), getD_of (hold 17 (by kernel_rfl)), getD_of (hold 70 (by kernel_rfl)), getD_of (hold 71 (by kernel_rfl)), getD_of (hold 72 (by kernel_rfl)), getD_of (hold 73 (by kernel_rfl)), getD_of (hold 74 (by kernel_rfl)), getD_of (hold 75 (by kernel_rfl)), getD_of (hold 76 (by kernel_rfl)), getD_of (hold 77 (by kernel_rfl)), getD_of (hold 78 (by kernel_rfl)), getD_of (hold 79 (by kernel_rfl)), getD_of (hold 80 (by kernel_rfl)), getD_of (hold 81 (by kernel_rfl)), getD_of (hold 82 (by kernel_rfl)), getD_of (hold 83 (by kernel_rfl)), getD_of (hold 84 (by kernel_rfl)), getD_of (hold 85 (by kernel_rfl)), getD_of (hold 86 (by kernel_rfl)), getD_of (hold 87 (by kernel_rfl)), getD_of (hold 88 (by kernel_rfl)), getD_of (hold 89 (by kernel_rfl)), getD_of (hold 90 (by kernel_rfl)), getD_of (hold 91 (by kernel_rfl)), getD_of (hold 92 (by kernel_rfl)), getD_of (hold 93 (by kernel_rfl)), getD_of (hold 94 (by kernel_rfl)), getD_of (hold 95 (by kernel_rfl)), getD_of (hold 96 (by kernel_rfl))] at ht
        rw [e69] at ht
        generalize a.tmps.getD 18 undef = y18, a.tmps.getD 19 undef = y19, a.tmps.getD 20 undef = y20, a.tmps.getD 21 undef = y21, a.tmps.getD 22 undef = y22, a.tmps.getD 23 undef = y23, a.tmps.getD 24 undef = y24, a.tmps.getD 25 undef = y25, a.tmps.getD 26 undef = y26, a.tmps.getD 27 undef = y27, a.tmps.getD 28 undef = y28, a.tmps.getD 29 undef = y29, a.tmps.getD 30 undef = y30, a.tmps.getD 31 undef = y31, a.tmps.getD 32 undef = y32, a.tmps.getD 33 undef = y33, a.tmps.getD 34 undef = y34, a.tmps.getD 35 undef = y35, a.tmps.getD 36 undef = y36, a.tmps.getD 37 undef = y37, a.tmps.getD 38 undef = y38, a.tmps.getD 39 undef = y39, a.tmps.getD 40 undef = y40, a.tmps.getD 41 undef = y41, a.tmps.getD 42 undef = y42, a.tmps.getD 43 undef = y43, a.tmps.getD 44 undef = y44, a.tmps.getD 45 undef = y45, a.tmps.getD 46 undef = y46, a.tmps.getD 47 undef = y47, a.tmps.getD 48 undef = y48, a.tmps.getD 49 undef = y49, a.tmps.getD 50 undef = y50, a.tmps.getD 51 undef = y51, a.tmps.getD 52 undef = y52, a.tmps.getD 53 undef = y53, a.tmps.getD 54 undef = y54, a.tmps.getD 55 undef = y55, a.tmps.getD 56 undef = y56, a.tmps.getD 57 undef = y57, a.tmps.getD 58 undef = y58, a.tmps.getD 59 undef = y59, a.tmps.getD 60 undef = y60, a.tmps.getD 61 undef = y61, a.tmps.getD 62 undef = y62, a.tmps.getD 63 undef = y63, a.tmps.getD 64 undef = y64, a.tmps.getD 65 undef = y65, a.tmps.getD 66 undef = y66, a.tmps.getD 67 undef = y67, a.tmps.getD 68 undef = y68 at ht
        have BX := Lib.hid (BW.out.trans (hG.mono BW.out.size))
        have hx3 := (hG.cell (p := ⟨b1, o1 + k * 4 + 3, none⟩) hb1).trans hp1
        clear hall hsz hsz2 hold hdst hG h69 e69
        obtain ⟨tm, df⟩ := a
        simp only at ht hd
        subst ht
        subst hd
        refine hKK _ _ ?_
        go_wp2
        go_rounds 1
        go_roundw
        case rel => (repeat apply Exists.intro); exact ⟨⟨k + 1, by omega, by go_num, BX.out⟩, rfl⟩
        case measure => simp [intOf]; omega
    · obtain rfl : k = n := by omega
      go_wp2
      go_ret
      exact ⟨rfl, hb⟩
end Go.Proofs.Ytdoomfckdjjlaaa

/-! The fixed question 'alive' answers true. -/
namespace Go.Proofs.Ytdoomfckdjjlaaa
open Go.RowKit

theorem ab_bytes (w : World) : ∃ (cp : Nat) (C : Array Value), (convert 9 22 (.string ⟨#[65, 98]⟩)).run Try.prog w = .ok (.slice (some ⟨w.heap.size, 0, none⟩) 2 cp) (w.drew.alloc (.cells C 5 (C.size, C.size + 1))) ∧
    C[0]? = some (.int .u8 65) ∧ C[1]? = some (.int .u8 98) ∧ 2 ≤ cp := by
  refine ⟨_, _, run_bytes_of_string (P := Try.prog) w 9 22 5 ⟨#[65, 98]⟩ Try.underlying9 Try.underlying22 Try.underlying5, ?_, ?_, ?_⟩
  · exact bytesRow_at ⟨#[65, 98]⟩ _ 0 (by decide)
  · exact bytesRow_at ⟨#[65, 98]⟩ _ 1 (by decide)
  · exact grownCap_ge w 2 0 5

theorem lower_back (b : Nat) (w : World) (cp : Nat) (h0 : w.cell? ⟨b, 0, none⟩ = some (.int .u8 97)) (h1 : w.cell? ⟨b, 1, none⟩ = some (.int .u8 98)) :
    (convert 22 9 (.slice (some ⟨b, 0, none⟩) 2 cp)).run Try.prog w = .ok (.string ⟨#[97, 98]⟩) w :=
  run_convert_bytes_back (P := Try.prog) w 22 9 5 ⟨b, 0, none⟩ cp [97, 98] Try.underlying22 Try.underlying5 Try.underlying9 (fun j hj => by
    match j, hj with
    | 0, _ => exact h0
    | 1, _ => exact h1)

theorem lower_Ab (w : World) : Calls Try.prog 36 #[.string ⟨#[65, 98]⟩] w fun e w' => e = .returned (.string ⟨#[97, 98]⟩) ∧ Below w.heap.size w w' := by
  obtain ⟨cp, C, hrun, hC0, hC1, hcp⟩ := ab_bytes w
  have k0 : (w.alloc (.cells C 5 (C.size, C.size + 1))).cell? ⟨w.heap.size, 0, none⟩ = some (.int .u8 65) := (World.cell?_alloc_mark _ _ _ _ _).trans hC0
  have k1 : (w.alloc (.cells C 5 (C.size, C.size + 1))).cell? ⟨w.heap.size, 1, none⟩ = some (.int .u8 98) := (World.cell?_alloc_mark _ _ _ _ _).trans hC1
  have hsz : 1 < C.size := (Array.getElem?_eq_some_iff.1 hC1).1
  have f0 : (w.alloc (.cells C 5 (C.size, C.size + 1))).frozen? ⟨w.heap.size, 0, none⟩ = false := by rw [World.frozen?_alloc_mark, decide_eq_false (by omega)]; rfl
  have kb := lower_back w.heap.size
  clear hC0 hC1 hsz
  have hbel : ∀ X, Below w.heap.size w (((w.alloc (.cells C 5 (C.size, C.size + 1))).setCell ⟨w.heap.size, 0, none⟩ X).drew) := fun X => (((Below.refl _ _).alloc (Nat.le_refl _) _).setCell (Nat.le_refl _) _).drew
  have HB := Lib.hid hbel; clear hbel
  go_enter Try.func36, Try.ntmps36
  go_wp2
  go_rounds 3
  go_ret
  exact ⟨rfl, HB.out _⟩
theorem alive_any (w : World) : Calls Try.prog 12 #[] w fun e w' => e = .returned (.bool true) ∧ Below w.heap.size w w' := by
  go_enter Try.func12, Try.ntmps12
  go_wp2_with (go_at_call 36; refine (lower_Ab _).mono ?_; rintro e w1 ⟨rfl, hb⟩)
  go_ret
  exact ⟨rfl, hb⟩
end Go.Proofs.Ytdoomfckdjjlaaa

/-! The walk of the law FnTableRows. -/
namespace Go.Proofs.Ytdoomfckdjjlaaa
open Go.RowKit

theorem printA_size (L : List Tok) : (printA L).1.size ≤ 600 := by
  unfold printA
  split
  · rename_i h
    simp only
    rw [mkS_size]
    have := textB_size (s := mkS (printR L)) (by rw [bl_mkS]; exact h)
    rwa [mkS_size] at this
  · exact Nat.zero_le _
theorem markR_size (T : List (List ByteArray)) : (markR T).1.size ≤ 600 := by
  rcases hb : tabB T with _ | _
  · rw [mark_no hb]; exact Nat.zero_le _
  · rw [mark_yes hb]; exact printA_size _
def StrSm (x : Value) : Prop := ∃ t : ByteArray, x = .string t ∧ t.size ≤ 2000
theorem lit8 (s : ByteArray) (hs : s.size ≤ 600) : ∀ x ∈ (#[.string ⟨#[]⟩, .string ⟨#[97]⟩, .string ⟨#[60, 116, 97, 98, 108, 101, 62, 60, 47, 116, 114, 62, 60, 47, 116, 97, 98, 108, 101, 62]⟩, .string ⟨#[60, 116, 97, 98, 108, 101, 62, 120, 60, 47, 116, 97, 98, 108, 101, 62]⟩, .string ⟨#[60, 116, 97, 98, 108, 101, 62, 60, 116, 114, 32, 99, 108, 97, 115, 115, 61, 97, 62, 60, 47, 116, 114, 62, 60, 47, 116, 97, 98, 108, 101, 62]⟩, .string (s ++ ⟨#[120]⟩), .string (⟨#[60, 33, 120, 62]⟩ ++ s), .string (s ++ s)] : Array Value).toList, StrSm x := by
  intro x hx
  simp only [List.mem_cons, List.not_mem_nil, or_false] at hx
  rcases hx with rfl | rfl | rfl | rfl | rfl | rfl | rfl | rfl
  · exact ⟨_, rfl, Nat.zero_le _⟩
  · exact ⟨_, rfl, by decide⟩
  · exact ⟨_, rfl, by decide⟩
  · exact ⟨_, rfl, by decide⟩
  · exact ⟨_, rfl, by decide⟩
  · exact ⟨_, rfl, by rw [ByteArray.size_append]; show s.size + 1 ≤ 2000; omega⟩
  · exact ⟨_, rfl, by rw [ByteArray.size_append]; show 4 + s.size ≤ 2000; omega⟩
  · exact ⟨_, rfl, by rw [ByteArray.size_append]; omega⟩
set_option maxRecDepth 100000 in
set_option maxHeartbeats 1600000 in
theorem draw_TableRows (w : World) (a : Option Addr) (n c : Nat) (f : Nat → UInt8) (hb : BytesAt w a n f) (hc : n ≤ c) (hc' : c ≤ 9223372036854775807) :
    Calls Try.prog 15 #[.slice a n c] w fun e w' => ∃ s : ByteArray, e = .returned (.string s) ∧ s.size ≤ 2000 ∧ Below w.heap.size w w' := by
  have HB := Lib.hid hb; clear hb
  go_enter Try.func15, Try.ntmps15
  go_wp2_with fail
  refine (open_any _ _ _ _ _ HB.out hc hc').mono ?_
  rintro e w1 ⟨rfl, hb1, hr1⟩
  have HB1 := Lib.hid hb1
  clear hb1 HB
  have hRl := hr1.lt
  go_wp2_with fail
  refine (draw_table w1 _ 999900 0 hr1 (by omega) (by omega)).mono ?_
  rintro e w2 ⟨v, vs, T, rfl, hT, ho, hl, hg, hr2⟩
  obtain ⟨a2, c2, rfl, _, _, hat2⟩ := tabs_own ho hl rfl
  have hok := hT.ok
  have CM := Lib.hid (spec_TableMarkup a2 T.length c2 T w2 (hat2.mono (Nat.zero_le _)) rfl (by have := hT.1; omega) hok)
  have hms := markR_size T
  have B2 := Lib.hid (HB1.out.trans (below_R hg HB1.out.size (Nat.le_refl _)))
  have R2 := Lib.hid hr2
  have hRl2 := hr2.lt
  clear ho hl hg hr1 hr2 hat2 hok hT
  generalize T.length = tl at *
  generalize markR T = MM at *
  obtain ⟨s, mb⟩ := MM
  simp only at CM hms
  go_wp2_with fail
  refine (CM.out).mono ?_
  rintro e w3 ⟨rfl, b3⟩
  have B3 := Lib.hid (B2.out.trans (b3.mono B2.out.size))
  have R3 := Lib.hid (R2.out.below b3 hRl2)
  clear b3 B2 R2 CM
  go_wp2_with fail
  refine (odd_any _ _ _ _ R3.out (by omega) (by omega) (by omega)).mono ?_
  rintro e w4 ⟨b, rfl, hg4, hr4⟩
  have B4 := Lib.hid (B3.out.trans (below_R hg4 B3.out.size (Nat.le_refl _)))
  have R4 := Lib.hid hr4
  have hRl4 := hr4.lt
  have h8 := Lib.hid (lit8 s hms)
  have hs1 : ¬ 9223372036854775807 < s.size + 1 := by omega
  have hs2 : ¬ 9223372036854775807 < 4 + s.size := by omega
  have hs3 : ¬ 9223372036854775807 < s.size + s.size := by omega
  clear hg4 hr4 B3 R3
  cases b
  · go_wp2
    go_ret
    exact ⟨s, rfl, by omega, B4.out⟩
  · go_wp2_with fail
    refine (pick_any _ _ _ _ (R4.out.alloc_ _) (by omega) (by omega) (by omega)).mono ?_
    rintro e w5 ⟨x, rfl, hx, hg5, hr5⟩
    have hx8 : x < 8 := by omega
    obtain ⟨y, hy, t, rfl, ht⟩ := lit_at hg5 (by intro e; injection e with e; omega) h8.out x (by simpa using hx8)
    have B5 := Lib.hid ((B4.out.alloc B4.out.size _).trans (below_R hg5 (by have := B4.out.size; simp; omega) (Nat.le_refl _)))
    have k0 : (0 : Int) ≤ (x : Int) := by omega
    have k1 : (x : Int) < 8 := by omega
    clear hg5 hr5 h8
    go_wp2
    go_ret
    exact ⟨t, rfl, ht, B5.out⟩
theorem tokP_tok {w : World} {B n : Nat} {v : Value} {L : List TokP} (h : w.ownsRow B 53 4 v n (tokPC L)) (hn : L.length = n) (h0 : 0 < n) (hp : ∀ t ∈ L, t.p = 0) : ∃ a c, v = .slice a n c ∧ TokAt w a (L.map TokP.core) := by
  obtain ⟨g, c, rfl, _, hl, _, _, _, hcell⟩ := tokP_at h hn h0
  refine ⟨_, c, rfl, fun i hi => ?_⟩
  have hi' : i < L.length := by simpa using hi
  obtain ⟨x0, x1, x2, x3⟩ := hcell i hi'
  have hp0 := hp _ (List.getElem_mem hi')
  rw [hp0] at x3
  refine ⟨g, 0, L[i].a, L[i].c, rfl, hl, ?_, ?_, ?_, ?_⟩
  · rw [List.getElem_map, Nat.zero_add]; exact x0
  · rw [List.getElem_map, Nat.zero_add]; exact x1
  · rw [List.getElem_map, Nat.zero_add]; exact x2
  · rw [Nat.zero_add]; exact x3
set_option maxRecDepth 100000 in
set_option maxHeartbeats 3200000 in
theorem walk_FnTableRows (a : Option Addr) (n c : Nat) (z : List Int) (w : World) (hrow : IsRow .u8 w a n c z) :
    Calls Try.prog 4 #[.slice a n c] w fun e w' => e = .returned (.bool true) ∧ Below w.heap.size w w' := by
  have hcap := hrow.caps
  have hby := Lib.hid hrow.bytes
  clear hrow
  by_cases hn : 1048576 < n
  · go_enter Try.func4, Try.ntmps4
    go_wp2
    go_ret
    exact ⟨rfl, Below.refl _ _⟩
  go_enter Try.func4, Try.ntmps4
  go_wp2_with fail
  refine (draw_TableRows _ _ _ _ _ hby.out hcap.1 hcap.2).mono ?_
  rintro e w1 ⟨s, rfl, hs, b1⟩
  have B1 := Lib.hid b1
  clear b1 hby hcap hn
  obtain ⟨T, hT⟩ := resIs_ex (tokI (bl s))
  have CI := Lib.hid (fun W => impl_TableRowsG s T W (by omega) hT)
  have CS := Lib.hid (fun W => spec_TableRowsG s T W (by omega) hT)
  cases T with
  | none =>
    clear hT
    go_wp2_with fail
    refine (CI.out _).mono ?_
    rintro e w2 ⟨⟨a2, c2, rfl⟩, b2⟩
    have B2 := Lib.hid (B1.out.trans (b2.mono B1.out.size))
    clear b2 B1
    go_wp2_with fail
    refine (CS.out _).mono ?_
    rintro e w3 ⟨⟨a3, c3, rfl⟩, b3⟩
    have B3 := Lib.hid (B2.out.trans (b3.mono B2.out.size))
    clear b3 B2
    go_wp2
    go_loop [8] (fun t => t = .int .i64 0) (fun _ => 0)
    case atStart => rfl
    case round =>
      obtain rfl := hrel
      go_wp2_with (go_at_call 12; refine (alive_any _).mono ?_; rintro e w5 ⟨rfl, b5⟩)
      go_ret
      exact ⟨rfl, B3.out.trans (b5.mono B3.out.size)⟩
  | some T =>
    obtain ⟨o, ho, htab, hcore, hzero⟩ := resIs_some hT
    have CK := Lib.hid (fun W => impl_TokenizeG s W (by omega))
    rw [ho] at CK
    have hok := tab_okN htab
    have hsm := Lib.hid (tab_small htab).2
    obtain ⟨tl, hln⟩ : ∃ tl, T.length = tl := ⟨_, rfl⟩
    have hn4 : tl ≤ 4 := by rw [← hln]; exact (tab_small htab).1
    have CT := Lib.hid (fun a c W (h : TabsAt W 0 a T) => impl_TableTokens a tl c T W h hln (by omega) ⟨by have := hok.1; omega, fun r hr => ⟨by have := (hok.2 r hr).1; omega, fun t ht => by have := (hok.2 r hr).2 t ht; omega⟩⟩)
    have hX60 := tokR_len T
    have hXT : tokR T = tabToks T := tokR_yes htab
    obtain ⟨X, hX⟩ : ∃ X, tokR T = X := ⟨_, rfl⟩
    have HXO : Hid (o.map (·.1) = X) := by show _ = _; rw [hcore, ← hXT, hX]
    have hXpos : 0 < X.length := by rw [← hX, hXT]; unfold tabToks; simp
    rw [hX] at CT hX60
    obtain ⟨m, hm⟩ : ∃ m, X.length = m := ⟨_, rfl⟩
    rw [hm] at hX60 hXpos
    have HM := Lib.hid hm
    have CQ := Lib.hid (fun a1 a2 c1 c2 W (h1 : TokAt W a1 X) (h2 : TokAt W a2 X) => sameTokens_any a1 a2 m c1 c2 X W h1 h2 hm (by omega))
    have HZ := Lib.hid hzero
    have HTL := Lib.hid hln
    clear hT ho htab hcore hzero hok hln hX hXT hm
    go_wp2_with fail
    refine (CI.out _).mono ?_
    rintro e w2 ⟨⟨v2, l2, rfl, o2, d2⟩, b2⟩
    rw [HTL.out] at o2
    obtain ⟨a2, c2, rfl, hc2, hc2', at2⟩ := tabs_own o2 d2 HTL.out
    have A2 := Lib.hid (at2.mono (Nat.zero_le _))
    have B2 := Lib.hid (B1.out.trans (b2.mono B1.out.size))
    clear o2 d2 at2 b2 B1
    go_wp2_with fail
    refine (CS.out _).mono ?_
    rintro e w3 ⟨⟨v3, l3, rfl, o3, d3⟩, b3⟩
    rw [HTL.out] at o3
    obtain ⟨a3, c3, rfl, hc3, hc3', at3⟩ := tabs_own o3 d3 HTL.out
    have X3 := Lib.hid (at3.mono (Nat.zero_le _))
    have A3 := Lib.hid (A2.out.below b3)
    have B3 := Lib.hid (B2.out.trans (b3.mono B2.out.size))
    clear o3 d3 at3 b3 B2 A2
    go_wp2
    go_loopw [8] (fun t wr => ∃ k : Nat, k ≤ tl ∧ t = .int .i64 (k : Int) ∧ Hid (Below w3.heap.size w3 wr)) (fun t _ => tl - (intOf t).toNat)
    case atStart => exact ⟨0, Nat.zero_le _, rfl, Below.refl _ _⟩
    case round =>
      obtain ⟨k, hk, rfl, BW⟩ := hrel
      by_cases hlt : k < tl
      · have hks : k < T.length := by rw [HTL.out]; exact hlt
        obtain ⟨b1, o1, v1, rfl, hl1, x0, x1⟩ := (A3.out.below BW.out) k hks
        obtain ⟨b2, o2, v2, rfl, hl2, y0, y1⟩ := (X3.out.below BW.out) k hks
        obtain ⟨f1, d1, rfl, r1, q1, q1', _⟩ := x1
        obtain ⟨f2, d2, rfl, r2, q2, q2', _⟩ := y1
        have hrs := hsm.out _ (List.getElem_mem hks)
        have k0 : (0 : Int) ≤ (k : Int) := by omega
        have k1 : (k : Int) < (tl : Int) := by omega
        have k2 : decide ((tl : Int) ≤ (k : Int)) = false := decide_eq_false (by omega)
        have k3 : ¬ (tl : Int) ≤ (k : Int) := by omega
        have k4 : ¬ tl ≤ k := by omega
        have CE : Hid (∀ W, Below wr.heap.size wr W → Calls Try.prog 14 #[.slice f1 T[k].length d1, .slice f2 T[k].length d2] W fun e w' => e = .returned (.bool true) ∧ Below W.heap.size W w') := fun W h => by
          have := sameTexts_any f1 f2 T[k].length T[k].length d1 d2 T[k] T[k] W (r1.below (Nat.le_refl _) h) (r2.below (Nat.le_refl _) h) rfl rfl (by have := hrs.1; omega)
          rwa [decide_eq_true rfl] at this
        have hfl := hrs.1
        clear r1 r2 hrs
        generalize T[k].length = fl at *
        go_wp2
        go_region_held3 (fun w' => w'.cell? ⟨b1, o1 + k, none⟩ = some (.slice f1 fl d1) ∧ w'.cell? ⟨b2, o2 + k, none⟩ = some (.slice f2 fl d2)) (go_keep) (first | (go_at_call 14; refine (CE.out _ (by first | exact (Below.refl _ _).drew | exact Below.refl _ _)).mono ?_; rintro e w1 ⟨rfl, hb1⟩; obtain ⟨hcc, _⟩ := bcell hb1; have z0 := (hcc _ (o1 + k) hl1).trans x0; have z1 := (hcc _ (o2 + k) hl2).trans y0; clear hcc))
        have HB1 := Lib.hid (BW.out.drew.trans (hb1.mono BW.out.size))
        clear hb1
        go_wp2
        go_roundw
        case rel => exact ⟨k + 1, by omega, by go_num, HB1.out⟩
        case measure => simp [intOf]; omega
      · have e : tl = k := by omega
        subst e
        have A4 := Lib.hid (A3.out.below BW.out)
        have B4 := Lib.hid (B3.out.trans (BW.out.mono B3.out.size))
        clear BW A3 B3 X3 CI CS
        go_wp2_with fail
        refine (CK.out _).mono ?_
        rintro e w5 ⟨v5, L, rfl, hL, hL60, _, o5, b5⟩
        have hLm : L.length = m := by rw [← HM.out, ← HXO.out, ← hL, List.length_map, List.length_map]
        rw [hLm] at o5
        obtain ⟨a5, c5, rfl, at5⟩ := tokP_tok o5 hLm hXpos (fun t ht => HZ.out _ (by rw [← hL]; exact List.mem_map_of_mem ht))
        rw [core_map hL, HXO.out] at at5
        have T5 := Lib.hid at5
        have A5 := Lib.hid (A4.out.below b5)
        have B5 := Lib.hid (B4.out.trans (b5.mono B4.out.size))
        clear o5 at5 b5 A4 B4 hL hL60
        go_wp2_with fail
        refine (CT.out _ _ _ A5.out).mono ?_
        rintro e w6 ⟨v6, rfl, o6, b6⟩
        rw [HM.out] at o6
        obtain ⟨a6, c6, rfl, _, _, at6, _⟩ := toks_own o6 HM.out
        have T6 := Lib.hid at6
        have T56 := Lib.hid (T5.out.below b6)
        have B6 := Lib.hid (B5.out.trans (b6.mono B5.out.size))
        clear o6 at6 b6 A5 B5 T5
        go_wp2_with fail
        refine (CQ.out _ _ _ _ _ T56.out T6.out).mono ?_
        rintro e w7 ⟨rfl, b7⟩
        have B7 := Lib.hid (B6.out.trans (b7.mono B6.out.size))
        clear b7
        go_wp2
        go_ret
        exact ⟨rfl, B7.out⟩
end Go.Proofs.Ytdoomfckdjjlaaa
