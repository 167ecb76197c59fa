/- laws.sameSources on equal sources (printed by gen_samesrc.py). -/
import Derived.Test.YtpplagecancccaaDoorSrcReg
namespace Go.Proofs.YtpplagecancccaaDoor
open Go.RowKit

def samSlot (b1 o1 b2 o2 n c1 c2 k : Nat) (K : ByteArray) (v1 v2 : Value) : Nat → World → Value → Prop
  | 0, _, v => v = .slice (some ⟨b1, o1, none⟩) n c1
  | 1, _, v => v = .int .i64 (k : Int)
  | 2, _, v => v = .pointer (some ⟨b1, o1 + k * 2, none⟩)
  | 3, _, v => v = .pointer (some ⟨b1, o1 + k * 2, none⟩)
  | 4, _, v => v = .string K
  | 5, _, v => v = .slice (some ⟨b2, o2, none⟩) n c2
  | 6, _, v => v = .int .i64 (k : Int)
  | 7, _, v => v = .pointer (some ⟨b2, o2 + k * 2, none⟩)
  | 8, _, v => v = .pointer (some ⟨b2, o2 + k * 2, none⟩)
  | 9, _, v => v = .string K
  | 10, _, v => v = .bool false
  | 11, _, v => v = .bool false
  | 12, _, v => v = .slice (some ⟨b1, o1, none⟩) n c1
  | 13, _, v => v = .int .i64 (k : Int)
  | 14, _, v => v = .pointer (some ⟨b1, o1 + k * 2, none⟩)
  | 15, _, v => v = .pointer (some ⟨b1, o1 + k * 2 + 1, none⟩)
  | 16, _, v => v = v1
  | 17, _, v => v = .slice (some ⟨b2, o2, none⟩) n c2
  | 18, _, v => v = .int .i64 (k : Int)
  | 19, _, v => v = .pointer (some ⟨b2, o2 + k * 2, none⟩)
  | 20, _, v => v = .pointer (some ⟨b2, o2 + k * 2 + 1, none⟩)
  | 21, _, v => v = v2
  | 22, _, v => v = .bool true
  | 23, _, v => v = .bool false
  | 24, _, v => v = .bool false
  | _, _, _ => True
theorem sam_any {b1 o1 b2 o2 n c1 c2 k : Nat} {K : ByteArray} {v1 v2 : Value} {j : Nat} {w w' : World} {v : Value} (h : samSlot b1 o1 b2 o2 n c1 c2 k K v1 v2 j w v) : samSlot b1 o1 b2 o2 n c1 c2 k K v1 v2 j w' v := by
  unfold samSlot at h ⊢
  split at h <;> exact h
set_option maxRecDepth 100000 in
set_option maxHeartbeats 1600000 in
theorem sameSources_any (a1 a2 : Option Addr) (n c1 c2 : Nat) (S : List Src) (w : World) (h1 : SrcsAt w 0 a1 S) (h2 : SrcsAt w 0 a2 S) (hn : S.length = n) (hn' : n ≤ 1048576) (hs : ∀ s ∈ S, SrcOk 1048576 s) :
    Calls Tryd.prog 12 #[.slice a1 n c1, .slice a2 n c2] w fun e w' => e = .returned (.bool true) ∧ Below w.heap.size w w' := by
  have H1 := Lib.hid h1; have H2 := Lib.hid h2; have HN := Lib.hid hn; have HS := Lib.hid hs
  clear h1 h2 hn hs
  go_enter Tryd.func12, Tryd.ntmps12
  go_wp2
  go_loopw [5] (fun t wr => ∃ k : Nat, k ≤ n ∧ t = .int .i64 (k : Int) ∧ Below w.heap.size w wr) (fun t _ => n - (intOf t).toNat)
  case atStart => exact ⟨0, Nat.zero_le _, rfl, Below.refl _ _⟩
  case round =>
    obtain ⟨k, hk, rfl, hb⟩ := hrel
    have BW := Lib.hid hb
    by_cases hlt : k < n
    · have hks : k < S.length := by rw [HN.out]; exact hlt
      obtain ⟨b1, o1, v1, rfl, hb1, hk1, hv1, hs1⟩ := H1.out.below hb k hks
      obtain ⟨b2, o2, v2, rfl, hb2, hk2, hv2, hs2⟩ := H2.out.below hb k hks
      have hso := HS.out _ (List.getElem_mem hks)
      obtain ⟨f1, d1, rfl, r1, q1, q1', _⟩ := hs1
      obtain ⟨f2, d2, rfl, r2, q2, q2', _⟩ := hs2
      have HT : Hid (∀ W, Below wr.heap.size wr W → Calls Tryd.prog 27 #[.slice f1 S[k].F.length d1, .slice f2 S[k].F.length d2] W fun e w' => e = .returned (.bool true) ∧ Below W.heap.size W w') := fun W h => by
        have := sameTexts_any f1 f2 S[k].F.length S[k].F.length d1 d2 S[k].F S[k].F W (r1.below (Nat.le_refl _) h) (r2.below (Nat.le_refl _) h) rfl rfl (by omega)
        rwa [decide_eq_true rfl] at this
      clear hb r1 r2 hso
      generalize S[k].K = K at hk1 hk2
      generalize S[k].F.length = fl at *
      go_wp2
      refine wp_region_any (by kernel_rfl) ?_
      rename_i KK hKK
      refine region_guard (samSlot b1 o1 b2 o2 n c1 c2 k K (.slice f1 fl d1) (.slice f2 fl d2)) (fun _ w2 => Below wr.heap.size wr w2) 42 25 (by kernel_rfl) (by kernel_rfl) ?gd (Nat.le_refl 42) (by kernel_rfl) rfl rfl (by decide) ?start ?step ?done
      case gd =>
        intro i o j b ho hg w v hp
        have hlt : i < 25 := by have := (Array.getElem?_eq_some_iff.1 ho).1; simpa using this
        rcases (show i = 0 ∨ i = 1 ∨ i = 2 ∨ i = 3 ∨ i = 4 ∨ i = 5 ∨ i = 6 ∨ i = 7 ∨ i = 8 ∨ i = 9 ∨ i = 10 ∨ i = 11 ∨ i = 12 ∨ i = 13 ∨ i = 14 ∨ i = 15 ∨ i = 16 ∨ i = 17 ∨ i = 18 ∨ i = 19 ∨ i = 20 ∨ i = 21 ∨ i = 22 ∨ i = 23 ∨ i = 24 by omega) with rfl | rfl | rfl | rfl | rfl | rfl | rfl | rfl | rfl | rfl | rfl | rfl | rfl | rfl | rfl | rfl | rfl | rfl | rfl | rfl | rfl | rfl | rfl | rfl | rfl
        all_goals (obtain rfl := Option.some.inj ho; first | (cases hg; done) | (cases hg; exact hp))
      case start => exact (Below.refl _ _).drew
      case step =>
        intro i o ho listed wx a hls hli hdp hG hD KC hK
        have hlt : i < 25 := by have := (Array.getElem?_eq_some_iff.1 ho).1; simpa using this
        rcases (show i = 0 ∨ i = 1 ∨ i = 2 ∨ i = 3 ∨ i = 4 ∨ i = 5 ∨ i = 6 ∨ i = 7 ∨ i = 8 ∨ i = 9 ∨ i = 10 ∨ i = 11 ∨ i = 12 ∨ i = 13 ∨ i = 14 ∨ i = 15 ∨ i = 16 ∨ i = 17 ∨ i = 18 ∨ i = 19 ∨ i = 20 ∨ i = 21 ∨ i = 22 ∨ i = 23 ∨ i = 24 by omega) with rfl | rfl | rfl | rfl | rfl | rfl | rfl | rfl | rfl | rfl | rfl | rfl | rfl | rfl | rfl | rfl | rfl | rfl | rfl | rfl | rfl | rfl | rfl | rfl | rfl
        · have h0 := hD.old 0 (by kernel_rfl)
          obtain rfl := Option.some.inj ho
          clear hD
          unfold Oper.wp
          simp [execOp, Act.eval, h0]
          exact hK _ _ (.inr rfl) (fun _ _ _ _ h => h) hG
        · have h5 := hD.old 5 (by kernel_rfl)
          obtain rfl := Option.some.inj ho
          clear hD
          unfold Oper.wp
          simp [execOp, Act.eval, h5]
          exact hK _ _ (.inr rfl) (fun _ _ _ _ h => h) hG
        · obtain ⟨v0, s0, rfl⟩ := hD.dep 0 17 rfl rfl (by obtain rfl := Option.some.inj ho; kernel_rfl)
          obtain ⟨v1, s1, rfl⟩ := hD.dep 1 18 rfl rfl (by obtain rfl := Option.some.inj ho; kernel_rfl)
          obtain rfl := Option.some.inj ho
          clear hD
          unfold Oper.wp
          simp [execOp, Act.eval, s0, s1]
          go_simp
          (try rw [if_pos (by omega)])
          exact hK _ _ (.inr rfl) (fun _ _ _ _ h => h) hG
        · obtain ⟨v2, s2, rfl⟩ := hD.dep 2 19 rfl rfl (by obtain rfl := Option.some.inj ho; kernel_rfl)
          obtain rfl := Option.some.inj ho
          clear hD
          unfold Oper.wp
          simp [execOp, Act.eval, s2]
          go_simp
          exact hK _ _ (.inr rfl) (fun _ _ _ _ h => h) hG
        · obtain ⟨v3, s3, rfl⟩ := hD.dep 3 20 rfl rfl (by obtain rfl := Option.some.inj ho; kernel_rfl)
          obtain rfl := Option.some.inj ho
          clear hD
          have hcc := (hG.cell (p := ⟨b1, o1 + k * 2, none⟩) (by first | exact hb1 | exact hb2)).trans hk1
          unfold Oper.wp
          simp [execOp, Act.eval, s3]
          go_simp
          exact hK _ _ (.inr rfl) (fun _ _ _ _ h => h) hG
        · have h1 := hD.old 1 (by kernel_rfl)
          obtain rfl := Option.some.inj ho
          clear hD
          unfold Oper.wp
          simp [execOp, Act.eval, h1]
          exact hK _ _ (.inr rfl) (fun _ _ _ _ h => h) hG
        · have h5 := hD.old 5 (by kernel_rfl)
          obtain rfl := Option.some.inj ho
          clear hD
          unfold Oper.wp
          simp [execOp, Act.eval, h5]
          exact hK _ _ (.inr rfl) (fun _ _ _ _ h => h) hG
        · obtain ⟨v5, s5, rfl⟩ := hD.dep 5 22 rfl rfl (by obtain rfl := Option.some.inj ho; kernel_rfl)
          obtain ⟨v6, s6, rfl⟩ := hD.dep 6 23 rfl rfl (by obtain rfl := Option.some.inj ho; kernel_rfl)
          obtain rfl := Option.some.inj ho
          clear hD
          unfold Oper.wp
          simp [execOp, Act.eval, s5, s6]
          go_simp
          (try rw [if_pos (by omega)])
          exact hK _ _ (.inr rfl) (fun _ _ _ _ h => h) hG
        · obtain ⟨v7, s7, rfl⟩ := hD.dep 7 24 rfl rfl (by obtain rfl := Option.some.inj ho; kernel_rfl)
          obtain rfl := Option.some.inj ho
          clear hD
          unfold Oper.wp
          simp [execOp, Act.eval, s7]
          go_simp
          exact hK _ _ (.inr rfl) (fun _ _ _ _ h => h) hG
        · obtain ⟨v8, s8, rfl⟩ := hD.dep 8 25 rfl rfl (by obtain rfl := Option.some.inj ho; kernel_rfl)
          obtain rfl := Option.some.inj ho
          clear hD
          have hcc := (hG.cell (p := ⟨b2, o2 + k * 2, none⟩) (by first | exact hb1 | exact hb2)).trans hk2
          unfold Oper.wp
          simp [execOp, Act.eval, s8]
          go_simp
          exact hK _ _ (.inr rfl) (fun _ _ _ _ h => h) hG
        · obtain ⟨v4, s4, rfl⟩ := hD.dep 4 21 rfl rfl (by obtain rfl := Option.some.inj ho; kernel_rfl)
          obtain ⟨v9, s9, rfl⟩ := hD.dep 9 26 rfl rfl (by obtain rfl := Option.some.inj ho; kernel_rfl)
          obtain rfl := Option.some.inj ho
          clear hD
          unfold Oper.wp
          simp [execOp, Act.eval, s4, s9]
          go_simp
          exact hK _ _ (.inr rfl) (fun _ _ _ _ h => h) hG
        · obtain ⟨v10, s10, rfl⟩ := hD.dep 10 27 rfl rfl (by obtain rfl := Option.some.inj ho; kernel_rfl)
          obtain rfl := Option.some.inj ho
          clear hD
          unfold Oper.wp
          simp [execOp, Act.eval, s10]
          exact hK _ _ (.inr rfl) (fun _ _ _ _ h => h) hG
        · have h0 := hD.old 0 (by kernel_rfl)
          obtain rfl := Option.some.inj ho
          clear hD
          unfold Oper.wp
          simp [execOp, Act.eval, h0]
          exact hK _ _ (.inr rfl) (fun _ _ _ _ h => h) hG
        · have h5 := hD.old 5 (by kernel_rfl)
          obtain rfl := Option.some.inj ho
          clear hD
          unfold Oper.wp
          simp [execOp, Act.eval, h5]
          exact hK _ _ (.inr rfl) (fun _ _ _ _ h => h) hG
        · obtain ⟨v12, s12, rfl⟩ := hD.dep 12 29 rfl rfl (by obtain rfl := Option.some.inj ho; kernel_rfl)
          obtain ⟨v13, s13, rfl⟩ := hD.dep 13 30 rfl rfl (by obtain rfl := Option.some.inj ho; kernel_rfl)
          obtain rfl := Option.some.inj ho
          clear hD
          unfold Oper.wp
          simp [execOp, Act.eval, s12, s13]
          go_simp
          (try rw [if_pos (by omega)])
          exact hK _ _ (.inr rfl) (fun _ _ _ _ h => h) hG
        · obtain ⟨v14, s14, rfl⟩ := hD.dep 14 31 rfl rfl (by obtain rfl := Option.some.inj ho; kernel_rfl)
          obtain rfl := Option.some.inj ho
          clear hD
          unfold Oper.wp
          simp [execOp, Act.eval, s14]
          go_simp
          exact hK _ _ (.inr rfl) (fun _ _ _ _ h => h) hG
        · obtain ⟨v15, s15, rfl⟩ := hD.dep 15 32 rfl rfl (by obtain rfl := Option.some.inj ho; kernel_rfl)
          obtain rfl := Option.some.inj ho
          clear hD
          have hcc := (hG.cell (p := ⟨b1, o1 + k * 2 + 1, none⟩) (by first | exact hb1 | exact hb2)).trans hv1
          unfold Oper.wp
          simp [execOp, Act.eval, s15]
          go_simp
          exact hK _ _ (.inr rfl) (fun _ _ _ _ h => h) hG
        · have h1 := hD.old 1 (by kernel_rfl)
          obtain rfl := Option.some.inj ho
          clear hD
          unfold Oper.wp
          simp [execOp, Act.eval, h1]
          exact hK _ _ (.inr rfl) (fun _ _ _ _ h => h) hG
        · have h5 := hD.old 5 (by kernel_rfl)
          obtain rfl := Option.some.inj ho
          clear hD
          unfold Oper.wp
          simp [execOp, Act.eval, h5]
          exact hK _ _ (.inr rfl) (fun _ _ _ _ h => h) hG
        · obtain ⟨v17, s17, rfl⟩ := hD.dep 17 34 rfl rfl (by obtain rfl := Option.some.inj ho; kernel_rfl)
          obtain ⟨v18, s18, rfl⟩ := hD.dep 18 35 rfl rfl (by obtain rfl := Option.some.inj ho; kernel_rfl)
          obtain rfl := Option.some.inj ho
          clear hD
          unfold Oper.wp
          simp [execOp, Act.eval, s17, s18]
          go_simp
          (try rw [if_pos (by omega)])
          exact hK _ _ (.inr rfl) (fun _ _ _ _ h => h) hG
        · obtain ⟨v19, s19, rfl⟩ := hD.dep 19 36 rfl rfl (by obtain rfl := Option.some.inj ho; kernel_rfl)
          obtain rfl := Option.some.inj ho
          clear hD
          unfold Oper.wp
          simp [execOp, Act.eval, s19]
          go_simp
          exact hK _ _ (.inr rfl) (fun _ _ _ _ h => h) hG
        · obtain ⟨v20, s20, rfl⟩ := hD.dep 20 37 rfl rfl (by obtain rfl := Option.some.inj ho; kernel_rfl)
          obtain rfl := Option.some.inj ho
          clear hD
          have hcc := (hG.cell (p := ⟨b2, o2 + k * 2 + 1, none⟩) (by first | exact hb1 | exact hb2)).trans hv2
          unfold Oper.wp
          simp [execOp, Act.eval, s20]
          go_simp
          exact hK _ _ (.inr rfl) (fun _ _ _ _ h => h) hG
        · obtain ⟨w16, s16, hx16⟩ := hD.dep 16 33 rfl rfl (by obtain rfl := Option.some.inj ho; kernel_rfl)
          obtain ⟨w21, s21, hx21⟩ := hD.dep 21 38 rfl rfl (by obtain rfl := Option.some.inj ho; kernel_rfl)
          obtain rfl := Option.some.inj ho
          clear hD
          rw [show w16 = _ from hx16] at s16
          rw [show w21 = _ from hx21] at s21
          unfold Oper.wp
          simp [execOp]
          go_simp
          refine (HT.out _ hG).mono ?_
          rintro e w3 ⟨rfl, b3⟩
          exact hK _ _ (.inr rfl) (fun _ _ _ _ h => by exact sam_any h) (hG.trans (b3.mono hG.size))
        · obtain ⟨v22, s22, rfl⟩ := hD.dep 22 39 rfl rfl (by obtain rfl := Option.some.inj ho; kernel_rfl)
          obtain rfl := Option.some.inj ho
          clear hD
          unfold Oper.wp
          simp [execOp, Act.eval, s22]
          go_simp
          exact hK _ _ (.inr rfl) (fun _ _ _ _ h => h) hG
        · obtain ⟨v11, s11, rfl⟩ := hD.dep 11 28 rfl rfl (by obtain rfl := Option.some.inj ho; kernel_rfl)
          obtain ⟨v23, s23, rfl⟩ := hD.dep 23 40 rfl rfl (by obtain rfl := Option.some.inj ho; kernel_rfl)
          obtain rfl := Option.some.inj ho
          clear hD
          unfold Oper.wp
          simp [execOp, Act.eval, s11, s23]
          go_simp
          exact hK _ _ (.inr rfl) (fun _ _ _ _ h => h) hG
      case done =>
        intro listed a wx hall hd hsz hold hdst hG
        obtain ⟨v41, h41, hv41⟩ := hdst 24 41 _ rfl rfl
        obtain rfl : v41 = .bool false := hv41
        have e41 : a.tmps.getD 41 undef = .bool false := by rw [Array.getD_eq_getD_getElem?, h41]; rfl
        have hsz2 : a.tmps.size = 42 := hsz
        have ht : a.tmps = #[a.tmps.getD 0 undef, a.tmps.getD 1 undef, a.tmps.getD 2 undef, a.tmps.getD 3 undef, a.tmps.getD 4 undef, a.tmps.getD 5 undef, a.tmps.getD 6 undef, a.tmps.getD 7 undef, a.tmps.getD 8 undef, a.tmps.getD 9 undef, a.tmps.getD 10 undef, a.tmps.getD 11 undef, a.tmps.getD 12 undef, a.tmps.getD 13 undef, a.tmps.getD 14 undef, a.tmps.getD 15 undef, a.tmps.getD 16 undef, a.tmps.getD 17 undef, a.tmps.getD 18 undef, a.tmps.getD 19 undef, a.tmps.getD 20 undef, a.tmps.getD 21 undef, a.tmps.getD 22 undef, a.tmps.getD 23 undef, a.tmps.getD 24 undef, a.tmps.getD 25 undef, a.tmps.getD 26 undef, a.tmps.getD 27 undef, a.tmps.getD 28 undef, a.tmps.getD 29 undef, a.tmps.getD 30 undef, a.tmps.getD 31 undef, a.tmps.getD 32 undef, a.tmps.getD 33 undef, a.tmps.getD 34 undef, a.tmps.getD 35 undef, a.tmps.getD 36 undef, a.tmps.getD 37 undef, a.tmps.getD 38 undef, a.tmps.getD 39 undef, a.tmps.getD 40 undef, a.tmps.getD 41 undef] := frame_ofFn a.tmps 42 hsz2
        rw [getD_of (hold 0 (by kernel_rfl)), getD_of (hold 1 (by kernel_rfl)), getD_of (hold 2 (by kernel_rfl)), getD_of (hold 3 (by kernel_rfl)), getD_of (hold 4 (by kernel_rfl)), getD_of (hold 5 (by kernel_rfl)), getD_of (hold 6 (by kernel_rfl)), getD_of (hold 7 (by kernel_rfl)), getD_of (hold 8 (by kernel_rfl)), getD_of (hold 9 (by kernel_rfl)), getD_of (hold 10 (by kernel_rfl)), getD_of (hold 11 (by kernel_rfl)), getD_of (hold 12 (by kernel_rfl)), getD_of (hold 13 (by kernel_rfl)), getD_of (hold 14 (by kernel_rfl)), getD_of (hold 15 (by kernel_rfl)), getD_of (hold 16 (by kernel_rfl))] at ht
        rw [e41] at ht
        generalize a.tmps.getD 17 undef = y17, a.tmps.getD 18 undef = y18, a.tmps.getD 19 undef = y19, a.tmps.getD 20 undef = y20, a.tmps.getD 21 undef = y21, a.tmps.getD 22 undef = y22, a.tmps.getD 23 undef = y23, a.tmps.getD 24 undef = y24, a.tmps.getD 25 undef = y25, a.tmps.getD 26 undef = y26, a.tmps.getD 27 undef = y27, a.tmps.getD 28 undef = y28, a.tmps.getD 29 undef = y29, a.tmps.getD 30 undef = y30, a.tmps.getD 31 undef = y31, a.tmps.getD 32 undef = y32, a.tmps.getD 33 undef = y33, a.tmps.getD 34 undef = y34, a.tmps.getD 35 undef = y35, a.tmps.getD 36 undef = y36, a.tmps.getD 37 undef = y37, a.tmps.getD 38 undef = y38, a.tmps.getD 39 undef = y39, a.tmps.getD 40 undef = y40 at ht
        have BX := Lib.hid (BW.out.trans (hG.mono BW.out.size))
        clear hall hsz hsz2 hold hdst hG h41 e41
        obtain ⟨tm, df⟩ := a
        simp only at ht hd
        subst ht
        subst hd
        refine hKK _ _ ?_
        go_wp2
        go_roundw
        case rel => (repeat apply Exists.intro); exact ⟨⟨k + 1, by omega, by go_num, BX.out⟩, rfl⟩
        case measure => simp [intOf]; omega
    · obtain rfl : k = n := by omega
      go_wp2
      go_ret
      exact ⟨rfl, hb⟩
end Go.Proofs.YtpplagecancccaaDoor
