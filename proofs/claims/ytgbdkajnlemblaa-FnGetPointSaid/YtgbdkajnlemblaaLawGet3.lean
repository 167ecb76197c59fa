/- The walk of the law FnGetPoint. -/
import Derived.Test.YtgbdkajnlemblaaPtDraw2
import Derived.Test.YtgbdkajnlemblaaGetImpl
import Derived.Test.YtgbdkajnlemblaaPtPlain
import Derived.Test.YtgbdkajnlemblaaLawGet
import Derived.Test.YtgbdkajnlemblaaReg
import Derived.Deep.DrawnRows
import Derived.Deep.RegionHeld3
import Derived.Deep.DeepCutAuto
import Derived.Deep.CutBlock
namespace Go.Proofs.Ytgbdkajnlemblaa
open Go.RowKit

/-- What getP answers: nothing, or a point whose bytes stand there. -/
theorem getP_spec (b : List UInt8) (at_ : Int) : getP b at_ = (-1, at_) ∨
    ∃ (p L : Nat) (N : Int), at_ = (p : Int) ∧ 1 ≤ L ∧ p + L ≤ b.length ∧ getP b at_ = (N, (p : Int) + L) ∧ putP N = (b.drop p).take L ∧ ptB N = true := by
  by_cases hin : 0 ≤ at_ ∧ at_ < b.length
  · obtain ⟨p, rfl⟩ := Int.eq_ofNat_of_zero_le hin.1
    have hp : p < b.length := by omega
    obtain ⟨L, init, hc, hcase⟩ := cls_cases (b.getD p 0).toNat
    by_cases hl : p + L ≤ b.length
    · by_cases he : putP (decN (byteAt b p) init (L - 1)) = (b.drop p).take L
      · refine .inr ⟨p, L, _, rfl, by omega, hl, getP_yes hp hc hl he, he, ?_⟩
        by_cases hv : ptB (decN (byteAt b p) init (L - 1)) = true
        · exact hv
        · rw [put_0 (by simpa using hv)] at he
          have := congrArg List.length he
          simp at this
          omega
      · exact .inl (getP_no hp hc he)
    · exact .inl (getP_short hp hc (by omega))
  · exact .inl (getP_out hin)

def DrawGet (w : World) (e : Ending) (w' : World) : Prop :=
  ∃ (v : Value) (l : List UInt8) (x : Int), e = .returned (.tuple #[v, .int .i64 x]) ∧ l.length ≤ 28 ∧ -1 ≤ x ∧ x ≤ 30 ∧ w'.ownsRow w.heap.size 5 1 v l.length (l.map byteV) ∧ Below w.heap.size w w'

set_option maxHeartbeats 400000 in
theorem draw_GetPoint (a : Option Addr) (n c : Nat) (f : Nat → UInt8) (w : World) (hb : BytesAt w a n f) (hc : n ≤ c) (hc' : c ≤ 9223372036854775807) :
    Calls Try.prog 4 #[.slice a n c] w (DrawGet w) := by
  go_enter Try.func4, Try.ntmps4
  go_wp2_with fail
  refine (open_any _ _ _ _ _ hb hc hc').mono ?_
  rintro e w1 ⟨rfl, hb1, hr1⟩
  have B1 := Lib.hid hb1; have R1 := Lib.hid hr1
  clear hb hb1 hr1
  go_wp2_with fail
  refine (pointBytes_any _ _ 1000000 _ R1.out (by omega) (by omega) (by omega)).mono ?_
  rintro e w2 ⟨v, l, rfl, hl, own, g2, r2⟩
  obtain ⟨a2, c2, rfl, _, k2, k2', _⟩ := own_formn own
  have O2 := Lib.hid own; have G2 := Lib.hid g2; have R2 := Lib.hid r2
  clear own g2 r2
  go_wp2_with fail
  refine (pick_any _ _ _ _ R2.out (by omega) (by omega) (by omega)).mono ?_
  rintro e w3 ⟨x1, rfl, hx1, g3, r3⟩
  have O3 := Lib.hid (own_other O2.out g3 (fun q hq e => by have := own_ge O2.out q hq; injection e with e; have := R1.out.lt; omega))
  have G3 := Lib.hid (grown_trans' G2.out g3)
  have R3 := Lib.hid r3
  clear g3 r3
  go_wp2_with fail
  refine (pick_any _ _ _ _ R3.out (by omega) (by omega) (by omega)).mono ?_
  rintro e w4 ⟨x2, rfl, hx2, g4, r4⟩
  have O4 := Lib.hid (own_other O3.out g4 (fun q hq e => by have := own_ge O3.out q hq; injection e with e; have := R1.out.lt; omega))
  have G4 := Lib.hid (grown_trans' G3.out g4)
  clear g4 r4
  go_wp2
  go_ret2
  exact ⟨_, l, _, rfl, hl, by omega, by omega, own_mono O4.out (by have := B1.out.size; omega), B1.out.trans (below_of_grown G4.out (B := w.heap.size) B1.out.size (by intro k hk; injection hk with hk; omega))⟩
theorem ptB_nonneg {n : Int} (h : ptB n = true) : 0 ≤ n ∧ n ≤ 1114111 := ⟨(ptB_t.1 h).1, (ptB_t.1 h).2.1⟩


def gtpSlot (blk off p L c1 n : Nat) (N : Int) (q : List UInt8) : Nat → World → Value → Prop
  | 0, _, v => v = .int .i64 (p : Int)
  | 1, _, v => v = .bool true
  | 2, _, v => v = .bool true
  | 3, _, v => v = .int .i64 ((p : Int) + (L : Int))
  | 4, _, v => v = .int .i64 (p : Int)
  | 5, _, v => v = .bool true
  | 6, _, v => v = .bool true
  | 7, _, v => v = .bool true
  | 8, _, v => v = .int .i64 ((p : Int) + (L : Int))
  | 9, _, v => v = .slice (some ⟨blk, off, none⟩) n c1
  | 10, _, v => v = .int .i64 (n : Int)
  | 11, _, v => v = .bool true
  | 12, _, v => v = .bool true
  | 13, _, v => v = .bool true
  | 14, _, v => v = .int .i64 N
  | 15, w, v => ∃ a4 c4, v = .slice a4 q.length c4 ∧ RowAt w a4 (q.map byteV)
  | 16, _, v => v = .string ⟨q.toArray⟩
  | 17, _, v => v = .slice (some ⟨blk, off, none⟩) n c1
  | 18, _, v => v = .int .i64 (p : Int)
  | 19, _, v => v = .int .i64 ((p : Int) + (L : Int))
  | 20, _, v => v = .slice (some ⟨blk, off + p, none⟩) L (c1 - p)
  | 21, _, v => v = .string ⟨q.toArray⟩
  | 22, _, v => v = .bool true
  | 23, _, v => v = .bool true
  | 24, _, v => v = .bool true
  | _, _, _ => True
theorem gtp_keep {blk off p L c1 n : Nat} {N : Int} {q : List UInt8} {j : Nat} {w w' : World} {v : Value} (h : gtpSlot blk off p L c1 n N q j w v) (hb : Below w.heap.size w w') : gtpSlot blk off p L c1 n N q j w' v := by
  unfold gtpSlot at h ⊢
  split at h <;> first | exact h | (obtain ⟨a4, c4, h1, h2⟩ := h; exact ⟨a4, c4, h1, h2.below (Nat.le_refl _) hb⟩)
set_option maxRecDepth 100000 in
set_option maxHeartbeats 1600000 in
theorem walk_FnGetPoint (a : Option Addr) (n c : Nat) (z : List Int) (w : World) (hrow : IsRow .u8 w a n c z) :
    Calls Try.prog 3 #[.slice a n c] w fun e w' => e = .returned (.bool true) ∧ Below w.heap.size w w' := by
  have hcap := hrow.caps
  have hby := Lib.hid hrow.bytes
  clear hrow
  by_cases hn : 1048576 < n
  · go_enter Try.func3, Try.ntmps3
    go_wp2
    go_ret
    exact ⟨rfl, Below.refl _ _⟩
  · go_enter Try.func3, Try.ntmps3
    go_wp2_with fail
    refine (draw_GetPoint _ _ _ _ _ hby.out hcap.1 hcap.2).mono ?_
    rintro e w1 ⟨v1, l, x, rfl, hl, hx1, hx2, o1, b1⟩
    obtain ⟨a1, c1, rfl, r1, k1, k1', _⟩ := own_formn o1
    have B1 := Lib.hid b1; have R1 := Lib.hid r1
    clear b1 hby hcap hn o1 r1
    have CI := impl_GetPoint a1 l.length c1 l x w1 R1.out rfl k1 (by omega) k1' (by omega) (by omega)
    have CS := fun W hW => spec_GetPoint a1 l.length c1 l x W (R1.out.below (Nat.le_refl _) hW) rfl (by omega) (by omega) (by omega)
    rcases getP_spec l x with he | ⟨p, L, N, hp, h1, h2, he, hput, hv⟩
    · rw [he] at CI CS
      have CI' := Lib.hid CI; have CS' := Lib.hid CS
      clear he CI CS
      go_wp2_with (first
        | (go_at_call 5; refine CI'.out.mono ?_; rintro e w2 ⟨rfl, b2⟩; have B2 := Lib.hid b2; clear b2)
        | (go_at_call 6; refine (CS'.out _ B2.out).mono ?_; rintro e w3 ⟨rfl, b3⟩; have B3 := Lib.hid b3; clear b3)
        | (go_at_call 7; refine (alive_any _).mono ?_; rintro e w4 ⟨rfl, b4⟩))
      go_ret
      have C2 := B1.out.trans (B2.out.mono B1.out.size)
      have C3 := C2.trans (B3.out.mono C2.size)
      exact ⟨rfl, C3.trans (b4.mono C3.size)⟩
    · subst hp
      rw [he] at CI CS
      have CI' := Lib.hid CI; have CS' := Lib.hid CS
      have hN := ptB_nonneg hv
      have CP := fun W => impl_PutPoint N W
      obtain ⟨q, hq⟩ : ∃ q, q = putP N := ⟨_, rfl⟩
      rw [← hq] at CP hput
      have CP' := Lib.hid CP
      have HPUT := Lib.hid hput
      have R1' := Lib.hid (row_bytes R1.out rfl)
      clear he CI CS CP hq hput hv
      obtain ⟨blk, off, rfl⟩ : ∃ b off, a1 = some ⟨b, off, none⟩ := by
        obtain ⟨b, off, ha, _⟩ := row_byte R1.out 0 (by omega)
        exact ⟨b, off, ha⟩
      have HSUB : Hid (∀ W, Below w1.heap.size w1 W → RowAt W (some ⟨blk, off + p, none⟩) (q.map byteV)) := fun W hW => by
        rw [HPUT.out]
        exact sub_row (R1'.out.below (Nat.le_refl _) hW) rfl h2
      have HLEN : Hid (q.length = L) := by show q.length = L; rw [HPUT.out]; simp; omega
      go_upto_if 38 with (first
        | (go_at_call 5; refine CI'.out.mono ?_; rintro e w2 ⟨rfl, b2⟩; have B2 := Lib.hid b2; clear b2)
        | (go_at_call 6; refine (CS'.out _ B2.out).mono ?_; rintro e w3 ⟨rfl, b3⟩; have B3 : Hid (Below w1.heap.size w1 w3) := B2.out.trans (b3.mono B2.out.size); clear b3))
      go_cut [3, 4, 5, 6] (fun s3 s4 s5 s6 wx => s3 = .slice (some ⟨blk, off, none⟩) l.length c1 ∧ s4 = .int .i64 (p : Int) ∧ s5 = .int .i64 N ∧ s6 = .int .i64 ((p : Int) + L) ∧ w3 = wx)
      case first =>
        go_wp2
        go_meet
        exact ⟨rfl, rfl, rfl, rfl, rfl⟩
      obtain ⟨rfl, rfl, rfl, rfl, rfl⟩ := hcut
      clear R1 R1' CI' CS' HPUT B2
      go_wp2
      have j1 : (0 : Int) < (L : Int) := by omega
      have j2 : 0 < L := by omega
      have j3 : decide ((0 : Int) < (L : Int)) = true := by simp; omega
      have j4 : decide (0 < L) = true := by simp; omega
      have j5 : p + L ≤ l.length := by omega
      have j6 : decide (p + L ≤ l.length) = true := by simp; omega
      have d1 : decide ((p : Int) < (p : Int) + (L : Int)) = true := by simp; omega
      have d2 : decide ((p : Int) + (L : Int) ≤ (l.length : Int)) = true := by simp; omega
      have t2 : ((p : Int) + (L : Int)).toNat = p + L := by omega
      have i1 : (p : Int) < (p : Int) + (L : Int) := by omega
      have i2 : (p : Int) + (L : Int) ≤ (l.length : Int) := by omega
      have i3 : p < c1 := by omega
      have i4 : (p : Int) ≤ (p : Int) + (L : Int) := by omega
      have i5 : (p : Int) + (L : Int) ≤ (c1 : Int) := by omega
      have i6 : p + L ≤ c1 := by omega
      clear h1 h2 hl hx1 hx2 k1 k1' hN
      refine wp_region_any (by kernel_rfl) ?_
      rename_i KK hKK
      refine region_guard (gtpSlot blk off p L c1 l.length N q) (fun _ w2 => Below w3.heap.size w3 w2) 73 25 (by kernel_rfl) (by kernel_rfl) ?gd (Nat.le_refl 73) (by kernel_rfl) rfl rfl (by decide) ?start ?step ?done
      case gd =>
        intro i o j b ho hg w v hp
        have hlt : i < 25 := by have := (Array.getElem?_eq_some_iff.1 ho).1; simpa using this
        rcases (show i = 0 ∨ i = 1 ∨ i = 2 ∨ i = 3 ∨ i = 4 ∨ i = 5 ∨ i = 6 ∨ i = 7 ∨ i = 8 ∨ i = 9 ∨ i = 10 ∨ i = 11 ∨ i = 12 ∨ i = 13 ∨ i = 14 ∨ i = 15 ∨ i = 16 ∨ i = 17 ∨ i = 18 ∨ i = 19 ∨ i = 20 ∨ i = 21 ∨ i = 22 ∨ i = 23 ∨ i = 24 by omega) with rfl | rfl | rfl | rfl | rfl | rfl | rfl | rfl | rfl | rfl | rfl | rfl | rfl | rfl | rfl | rfl | rfl | rfl | rfl | rfl | rfl | rfl | rfl | rfl | rfl
        all_goals (obtain rfl := Option.some.inj ho; first | (cases hg; done) | (cases hg; exact hp))
      case start => exact (Below.refl _ _).drew
      case step =>
        intro i o ho listed wx a hls hli hdp hG hD KC hK
        have hlt : i < 25 := by have := (Array.getElem?_eq_some_iff.1 ho).1; simpa using this
        rcases (show i = 0 ∨ i = 1 ∨ i = 2 ∨ i = 3 ∨ i = 4 ∨ i = 5 ∨ i = 6 ∨ i = 7 ∨ i = 8 ∨ i = 9 ∨ i = 10 ∨ i = 11 ∨ i = 12 ∨ i = 13 ∨ i = 14 ∨ i = 15 ∨ i = 16 ∨ i = 17 ∨ i = 18 ∨ i = 19 ∨ i = 20 ∨ i = 21 ∨ i = 22 ∨ i = 23 ∨ i = 24 by omega) with rfl | rfl | rfl | rfl | rfl | rfl | rfl | rfl | rfl | rfl | rfl | rfl | rfl | rfl | rfl | rfl | rfl | rfl | rfl | rfl | rfl | rfl | rfl | rfl | rfl
        · have h4 := hD.old 4 (by kernel_rfl)
          obtain rfl := Option.some.inj ho
          clear hD
          unfold Oper.wp
          simp [execOp, Act.eval, h4]
          exact hK _ _ (.inr rfl) (fun _ _ _ _ h => h) hG
        · obtain ⟨v0, s0, rfl⟩ := hD.dep 0 49 rfl rfl (by obtain rfl := Option.some.inj ho; kernel_rfl)
          obtain rfl := Option.some.inj ho
          clear hD
          unfold Oper.wp
          simp [execOp, Act.eval, s0]
          go_simp
          exact hK _ _ (.inr (by first | rfl | (simp <;> omega))) (fun _ _ _ _ h => h) hG
        · obtain ⟨v1, s1, rfl⟩ := hD.dep 1 50 rfl rfl (by obtain rfl := Option.some.inj ho; kernel_rfl)
          obtain rfl := Option.some.inj ho
          clear hD
          unfold Oper.wp
          simp [execOp, Act.eval, s1]
          exact hK _ _ (.inr rfl) (fun _ _ _ _ h => h) hG
        · have h6 := hD.old 6 (by kernel_rfl)
          obtain rfl := Option.some.inj ho
          clear hD
          unfold Oper.wp
          simp [execOp, Act.eval, h6]
          exact hK _ _ (.inr rfl) (fun _ _ _ _ h => h) hG
        · have h4 := hD.old 4 (by kernel_rfl)
          obtain rfl := Option.some.inj ho
          clear hD
          unfold Oper.wp
          simp [execOp, Act.eval, h4]
          exact hK _ _ (.inr rfl) (fun _ _ _ _ h => h) hG
        · obtain ⟨v3, s3, rfl⟩ := hD.dep 3 52 rfl rfl (by obtain rfl := Option.some.inj ho; kernel_rfl)
          obtain ⟨v4, s4, rfl⟩ := hD.dep 4 53 rfl rfl (by obtain rfl := Option.some.inj ho; kernel_rfl)
          obtain rfl := Option.some.inj ho
          clear hD
          unfold Oper.wp
          simp [execOp, Act.eval, s3, s4]
          go_simp
          exact hK _ _ (.inr (by first | rfl | (simp <;> omega))) (fun _ _ _ _ h => h) hG
        · obtain ⟨v2, s2, rfl⟩ := hD.dep 2 51 rfl rfl (by obtain rfl := Option.some.inj ho; kernel_rfl)
          obtain ⟨v5, s5, rfl⟩ := hD.dep 5 54 rfl rfl (by obtain rfl := Option.some.inj ho; kernel_rfl)
          obtain rfl := Option.some.inj ho
          clear hD
          unfold Oper.wp
          simp [execOp, Act.eval, s2, s5]
          go_simp
          exact hK _ _ (.inr (by first | rfl | (simp <;> omega))) (fun _ _ _ _ h => h) hG
        · obtain ⟨v6, s6, rfl⟩ := hD.dep 6 55 rfl rfl (by obtain rfl := Option.some.inj ho; kernel_rfl)
          obtain rfl := Option.some.inj ho
          clear hD
          unfold Oper.wp
          simp [execOp, Act.eval, s6]
          exact hK _ _ (.inr rfl) (fun _ _ _ _ h => h) hG
        · have h6 := hD.old 6 (by kernel_rfl)
          obtain rfl := Option.some.inj ho
          clear hD
          unfold Oper.wp
          simp [execOp, Act.eval, h6]
          exact hK _ _ (.inr rfl) (fun _ _ _ _ h => h) hG
        · have h3 := hD.old 3 (by kernel_rfl)
          obtain rfl := Option.some.inj ho
          clear hD
          unfold Oper.wp
          simp [execOp, Act.eval, h3]
          exact hK _ _ (.inr rfl) (fun _ _ _ _ h => h) hG
        · obtain ⟨v9, s9, rfl⟩ := hD.dep 9 58 rfl rfl (by obtain rfl := Option.some.inj ho; kernel_rfl)
          obtain rfl := Option.some.inj ho
          clear hD
          unfold Oper.wp
          simp [execOp]
          go_simp
          exact hK _ _ (.inr rfl) (fun _ _ _ _ h => h) hG
        · obtain ⟨v8, s8, rfl⟩ := hD.dep 8 57 rfl rfl (by obtain rfl := Option.some.inj ho; kernel_rfl)
          obtain ⟨v10, s10, rfl⟩ := hD.dep 10 59 rfl rfl (by obtain rfl := Option.some.inj ho; kernel_rfl)
          obtain rfl := Option.some.inj ho
          clear hD
          unfold Oper.wp
          simp [execOp, Act.eval, s8, s10]
          go_simp
          exact hK _ _ (.inr (by first | rfl | (simp <;> omega))) (fun _ _ _ _ h => h) hG
        · obtain ⟨v7, s7, rfl⟩ := hD.dep 7 56 rfl rfl (by obtain rfl := Option.some.inj ho; kernel_rfl)
          obtain ⟨v11, s11, rfl⟩ := hD.dep 11 60 rfl rfl (by obtain rfl := Option.some.inj ho; kernel_rfl)
          obtain rfl := Option.some.inj ho
          clear hD
          unfold Oper.wp
          simp [execOp, Act.eval, s7, s11]
          go_simp
          exact hK _ _ (.inr (by first | rfl | (simp <;> omega))) (fun _ _ _ _ h => h) hG
        · obtain ⟨v12, s12, rfl⟩ := hD.dep 12 61 rfl rfl (by obtain rfl := Option.some.inj ho; kernel_rfl)
          obtain rfl := Option.some.inj ho
          clear hD
          unfold Oper.wp
          simp [execOp, Act.eval, s12]
          exact hK _ _ (.inr rfl) (fun _ _ _ _ h => h) hG
        · have h5 := hD.old 5 (by kernel_rfl)
          obtain rfl := Option.some.inj ho
          clear hD
          unfold Oper.wp
          simp [execOp, Act.eval, h5]
          exact hK _ _ (.inr rfl) (fun _ _ _ _ h => h) hG
        · obtain ⟨v14, s14, rfl⟩ := hD.dep 14 63 rfl rfl (by obtain rfl := Option.some.inj ho; kernel_rfl)
          obtain rfl := Option.some.inj ho
          clear hD
          unfold Oper.wp
          simp [execOp]
          go_simp
          refine (CP'.out _).mono ?_
          rintro e w4 ⟨v4, rfl, o4, b4⟩
          obtain ⟨a4, c4, rfl, r4, k4, k4', _⟩ := own_formn o4
          exact hK _ _ (.inr ⟨a4, c4, rfl, r4⟩) (fun j u _ _ h => gtp_keep h b4) (hG.trans (b4.mono hG.size))
        · obtain ⟨v15, s15, a4, c4, rfl, r4⟩ := hD.dep 15 64 rfl rfl (by obtain rfl := Option.some.inj ho; kernel_rfl)
          obtain rfl := Option.some.inj ho
          clear hD
          have kd := conv_row wx a4 q.length c4 q r4 rfl
          unfold Oper.wp
          simp [execOp, Act.eval, s15]
          go_simp
          exact hK _ _ (.inr rfl) (fun _ _ _ _ h => h) hG
        · have h3 := hD.old 3 (by kernel_rfl)
          obtain rfl := Option.some.inj ho
          clear hD
          unfold Oper.wp
          simp [execOp, Act.eval, h3]
          exact hK _ _ (.inr rfl) (fun _ _ _ _ h => h) hG
        · have h4 := hD.old 4 (by kernel_rfl)
          obtain rfl := Option.some.inj ho
          clear hD
          unfold Oper.wp
          simp [execOp, Act.eval, h4]
          exact hK _ _ (.inr rfl) (fun _ _ _ _ h => h) hG
        · have h6 := hD.old 6 (by kernel_rfl)
          obtain rfl := Option.some.inj ho
          clear hD
          unfold Oper.wp
          simp [execOp, Act.eval, h6]
          exact hK _ _ (.inr rfl) (fun _ _ _ _ h => h) hG
        · obtain ⟨v17, s17, rfl⟩ := hD.dep 17 66 rfl rfl (by obtain rfl := Option.some.inj ho; kernel_rfl)
          obtain ⟨v18, s18, rfl⟩ := hD.dep 18 67 rfl rfl (by obtain rfl := Option.some.inj ho; kernel_rfl)
          obtain ⟨v19, s19, rfl⟩ := hD.dep 19 68 rfl rfl (by obtain rfl := Option.some.inj ho; kernel_rfl)
          obtain rfl := Option.some.inj ho
          clear hD
          unfold Oper.wp
          simp [execOp, Act.eval, s17, s18, s19]
          go_simp
          rw [if_neg (by omega)]
          exact hK _ _ (.inr (by first | rfl | (simp <;> omega))) (fun _ _ _ _ h => h) hG
        · obtain ⟨v20, s20, rfl⟩ := hD.dep 20 69 rfl rfl (by obtain rfl := Option.some.inj ho; kernel_rfl)
          obtain rfl := Option.some.inj ho
          clear hD
          have kd := conv_row wx (some ⟨blk, off + p, none⟩) L (c1 - p) q (HSUB.out _ (B3.out.trans (hG.mono B3.out.size))) HLEN.out
          unfold Oper.wp
          simp [execOp, Act.eval, s20]
          go_simp
          exact hK _ _ (.inr rfl) (fun _ _ _ _ h => h) hG
        · obtain ⟨v16, s16, rfl⟩ := hD.dep 16 65 rfl rfl (by obtain rfl := Option.some.inj ho; kernel_rfl)
          obtain ⟨v21, s21, rfl⟩ := hD.dep 21 70 rfl rfl (by obtain rfl := Option.some.inj ho; kernel_rfl)
          obtain rfl := Option.some.inj ho
          clear hD
          unfold Oper.wp
          simp [execOp, Act.eval, s16, s21]
          go_simp
          exact hK _ _ (.inr (by first | rfl | (simp <;> omega))) (fun _ _ _ _ h => h) hG
        · obtain ⟨v13, s13, rfl⟩ := hD.dep 13 62 rfl rfl (by obtain rfl := Option.some.inj ho; kernel_rfl)
          obtain ⟨v22, s22, rfl⟩ := hD.dep 22 71 rfl rfl (by obtain rfl := Option.some.inj ho; kernel_rfl)
          obtain rfl := Option.some.inj ho
          clear hD
          unfold Oper.wp
          simp [execOp, Act.eval, s13, s22]
          go_simp
          exact hK _ _ (.inr (by first | rfl | (simp <;> omega))) (fun _ _ _ _ h => h) hG
        · obtain ⟨v23, s23, rfl⟩ := hD.dep 23 72 rfl rfl (by obtain rfl := Option.some.inj ho; kernel_rfl)
          obtain rfl := Option.some.inj ho
          clear hD
          unfold Oper.wp
          simp [execOp, Act.eval, s23]
          exact hK _ _ (.inr rfl) (fun _ _ _ _ h => h) hG
      case done =>
        intro listed a wx hall hd hsz hold hdst hG
        obtain ⟨v2, h2, hv2⟩ := hdst 24 2 _ rfl rfl
        obtain rfl : v2 = .bool true := hv2
        have e2 : a.tmps.getD 2 undef = .bool true := by rw [Array.getD_eq_getD_getElem?, h2]; rfl
        have hsz2 : a.tmps.size = 73 := hsz
        have ht : a.tmps = #[a.tmps.getD 0 undef, a.tmps.getD 1 undef, a.tmps.getD 2 undef, a.tmps.getD 3 undef, a.tmps.getD 4 undef, a.tmps.getD 5 undef, a.tmps.getD 6 undef, a.tmps.getD 7 undef, a.tmps.getD 8 undef, a.tmps.getD 9 undef, a.tmps.getD 10 undef, a.tmps.getD 11 undef, a.tmps.getD 12 undef, a.tmps.getD 13 undef, a.tmps.getD 14 undef, a.tmps.getD 15 undef, a.tmps.getD 16 undef, a.tmps.getD 17 undef, a.tmps.getD 18 undef, a.tmps.getD 19 undef, a.tmps.getD 20 undef, a.tmps.getD 21 undef, a.tmps.getD 22 undef, a.tmps.getD 23 undef, a.tmps.getD 24 undef, a.tmps.getD 25 undef, a.tmps.getD 26 undef, a.tmps.getD 27 undef, a.tmps.getD 28 undef, a.tmps.getD 29 undef, a.tmps.getD 30 undef, a.tmps.getD 31 undef, a.tmps.getD 32 undef, a.tmps.getD 33 undef, a.tmps.getD 34 undef, a.tmps.getD 35 undef, a.tmps.getD 36 undef, a.tmps.getD 37 undef, a.tmps.getD 38 undef, a.tmps.getD 39 undef, a.tmps.getD 40 undef, a.tmps.getD 41 undef, a.tmps.getD 42 undef, a.tmps.getD 43 undef, a.tmps.getD 44 undef, a.tmps.getD 45 undef, a.tmps.getD 46 undef, a.tmps.getD 47 undef, a.tmps.getD 48 undef, a.tmps.getD 49 undef, a.tmps.getD 50 undef, a.tmps.getD 51 undef, a.tmps.getD 52 undef, a.tmps.getD 53 undef, a.tmps.getD 54 undef, a.tmps.getD 55 undef, a.tmps.getD 56 undef, a.tmps.getD 57 undef, a.tmps.getD 58 undef, a.tmps.getD 59 undef, a.tmps.getD 60 undef, a.tmps.getD 61 undef, a.tmps.getD 62 undef, a.tmps.getD 63 undef, a.tmps.getD 64 undef, a.tmps.getD 65 undef, a.tmps.getD 66 undef, a.tmps.getD 67 undef, a.tmps.getD 68 undef, a.tmps.getD 69 undef, a.tmps.getD 70 undef, a.tmps.getD 71 undef, a.tmps.getD 72 undef] := frame_ofFn a.tmps 73 hsz2
        rw [getD_of (hold 0 (by kernel_rfl)), getD_of (hold 1 (by kernel_rfl)), getD_of (hold 3 (by kernel_rfl)), getD_of (hold 4 (by kernel_rfl)), getD_of (hold 5 (by kernel_rfl)), getD_of (hold 6 (by kernel_rfl)), getD_of (hold 7 (by kernel_rfl)), getD_of (hold 8 (by kernel_rfl)), getD_of (hold 9 (by kernel_rfl)), getD_of (hold 10 (by kernel_rfl)), getD_of (hold 11 (by kernel_rfl)), getD_of (hold 12 (by kernel_rfl)), getD_of (hold 13 (by kernel_rfl)), getD_of (hold 14 (by kernel_rfl)), getD_of (hold 15 (by kernel_rfl)), getD_of (hold 16 (by kernel_rfl)), getD_of (hold 17 (by kernel_rfl)), getD_of (hold 18 (by kernel_rfl)), getD_of (hold 19 (by kernel_rfl)), getD_of (hold 20 (by kernel_rfl)), getD_of (hold 21 (by kernel_rfl)), getD_of (hold 22 (by kernel_rfl)), getD_of (hold 23 (by kernel_rfl)), getD_of (hold 24 (by kernel_rfl)), getD_of (hold 25 (by kernel_rfl)), getD_of (hold 26 (by kernel_rfl)), getD_of (hold 27 (by kernel_rfl)), getD_of (hold 28 (by kernel_rfl)), getD_of (hold 29 (by kernel_rfl)), getD_of (hold 30 (by kernel_rfl)), getD_of (hold 31 (by kernel_rfl)), getD_of (hold 32 (by kernel_rfl)), getD_of (hold 33 (by kernel_rfl)), getD_of (hold 34 (by kernel_rfl)), getD_of (hold 35 (by kernel_rfl)), getD_of (hold 36 (by kernel_rfl)), getD_of (hold 37 (by kernel_rfl)), getD_of (hold 38 (by kernel_rfl)), getD_of (hold 39 (by kernel_rfl)), getD_of (hold 40 (by kernel_rfl)), getD_of (hold 41 (by kernel_rfl)), getD_of (hold 42 (by kernel_rfl)), getD_of (hold 43 (by kernel_rfl)), getD_of (hold 44 (by kernel_rfl)), getD_of (hold 45 (by kernel_rfl)), getD_of (hold 46 (by kernel_rfl)), getD_of (hold 47 (by kernel_rfl)), getD_of (hold 48 (by kernel_rfl))] at ht
        rw [e2] at ht
        generalize a.tmps.getD 49 undef = y49, a.tmps.getD 50 undef = y50, a.tmps.getD 51 undef = y51, a.tmps.getD 52 undef = y52, a.tmps.getD 53 undef = y53, a.tmps.getD 54 undef = y54, a.tmps.getD 55 undef = y55, a.tmps.getD 56 undef = y56, a.tmps.getD 57 undef = y57, a.tmps.getD 58 undef = y58, a.tmps.getD 59 undef = y59, a.tmps.getD 60 undef = y60, a.tmps.getD 61 undef = y61, a.tmps.getD 62 undef = y62, a.tmps.getD 63 undef = y63, a.tmps.getD 64 undef = y64, a.tmps.getD 65 undef = y65, a.tmps.getD 66 undef = y66, a.tmps.getD 67 undef = y67, a.tmps.getD 68 undef = y68, a.tmps.getD 69 undef = y69, a.tmps.getD 70 undef = y70, a.tmps.getD 71 undef = y71, a.tmps.getD 72 undef = y72 at ht
        have C3 := B1.out.trans (B3.out.mono B1.out.size)
        have BX := Lib.hid (C3.trans (hG.mono C3.size))
        clear hall hsz hsz2 hold hdst hG h2 e2 C3
        obtain ⟨tm, df⟩ := a
        simp only at ht hd
        subst ht
        subst hd
        refine hKK _ _ ?_
        go_wp2
        go_ret
        exact ⟨rfl, BX.out⟩
end Go.Proofs.Ytgbdkajnlemblaa
