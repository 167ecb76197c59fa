/- The walk of the law FnExactResolveLocation (printed by gen_lawres.py). -/
import Derived.Test.YtmiemnhbkcmanaaDoorResI
import Derived.Test.YtmiemnhbkcmanaaDoorLocH
import Derived.Deep.CutBlock
import Derived.Deep.CutRange
import Derived.Deep.RegionHeld3
namespace Go.Proofs.YtmiemnhbkcmanaaDoor
open Go.RowKit

/-- What the reference's contract says. -/
def SpecOk : Prop := ∀ (S H : ByteArray) (a : Option Addr) (n c : Nat) (P : List ByteArray) (Q s : ByteArray) (w : World), RowAt w a (P.map strV) → P.length = n → n ≤ 1048576 → (a = none → c = 0) → H.size ≤ 1048576 → Q.size ≤ 1048576 → (∀ x ∈ P, x.size ≤ 1048576) → s.size ≤ 1048576 →
    Calls Tryd.prog 5 #[.agg #[.string S, .string H, .slice a n c, .string Q], .string s] w (RessPost (resT S H P Q (bl s)) w)
theorem own_ne {w : World} {B n b : Nat} {v : Value} {l : List Value} {C : Array Value} {t : TypeId} (ho : w.ownsRow B 9 1 v n l) (hb : w.heap[b]? = some (.cells C t (0, 0))) (ht : t ≠ 9) : v.ownBlock ≠ some b := by
  intro e
  obtain ⟨cur, hc⟩ := own_blk ho e
  rw [hb] at hc
  injection hc with hc
  injection hc with _ h
  exact ht h
theorem row_old {w0 w w' : World} {a : Option Addr} {l : List Value} {row : Option Nat} (h0 : RowAt w0 a l) (h : RowAt w a l) (hg : w.grownBy w' row) (hr : ∀ k, row = some k → w0.heap.size ≤ k) : RowAt w' a l := by
  rcases l with _ | ⟨y, l⟩
  · exact RowAt.nil
  · refine h.grown hg (fun k x e1 e2 => ?_)
    obtain ⟨b, off, ha, hlt, _⟩ := h0 0 (by simp)
    rw [ha] at e2
    injection e2 with e2
    subst e2
    have := hr k e1
    show b ≠ k
    omega
theorem resT_len (S H : ByteArray) (P : List ByteArray) (Q : ByteArray) (s : List UInt8) : (resT S H P Q s).2.2.1.length ≤ P.length + 6 := by
  by_cases h : locB S H P Q = true
  · by_cases hs : s = []
    · rw [resT_nil h hs]; show P.length ≤ _; omega
    · by_cases hl : hasL s
      · obtain ⟨t, h1, h2⟩ := hl
        rw [resT_read h h1 h2]
        have := (locB_parts h1).2.2.1
        show t.2.2.1.length ≤ _
        omega
      · have hn : ∀ S H P Q, locB S H P Q = true → locT S H P Q ≠ s := fun S H P Q h1 h2 => hl ⟨(S, H, P, Q), h1, h2⟩
        by_cases h2 : locB S H (resP s P) (mkS (Lib.cut s [63]).2.1) = true
        · rw [resT_out h hs hn h2]
          have := (locB_parts h2).2.2.1
          show (resP s P).length ≤ _
          omega
        · rw [resT_none hs hn (by simpa using h2)]
          exact Nat.zero_le _
  · rw [resT_bad (by simpa using h)]
    exact Nat.zero_le _

set_option maxRecDepth 100000 in
set_option maxHeartbeats 6400000 in
theorem walk_core (hsp : SpecOk) (S H : ByteArray) (a : Option Addr) (n c : Nat) (P : List ByteArray) (Q s : ByteArray) (w : World) (hS : S.size ≤ 9223372036854775807) (hH : H.size ≤ 9223372036854775807) (hrow : RowAt w a (P.map strV)) (hn : P.length = n) (hn63 : n ≤ 9223372036854775807) (hP : ∀ x ∈ P, x.size ≤ 9223372036854775807) (hQ : Q.size ≤ 9223372036854775807) (hs : s.size ≤ 9223372036854775807) (hmx : MaxOk w) :
    Calls Tryd.prog 3 #[.agg #[.string S, .string H, .slice a n c, .string Q], .string s] w fun e w' => e = .returned (.bool true) ∧ Below w.heap.size w w' := by
  by_cases hz : 1048576 < s.size
  · clear hrow hP hmx hsp
    go_enter Tryd.func3, Tryd.ntmps3
    go_wp2
    go_ret
    exact ⟨rfl, (Below.refl _ _).alloc (Nat.le_refl _) _⟩
  have HSP := Lib.hid hsp
  have HM := Lib.hid hmx; have HN := Lib.hid hn
  obtain ⟨W1, hW1⟩ : ∃ W1, W1 = w.alloc (.cells #[.string S, .string H, .slice a n c, .string Q] 24 (0, 0)) := ⟨_, rfl⟩
  have b1 : Below w.heap.size w W1 := by rw [hW1]; exact (Below.refl _ _).alloc (Nat.le_refl _) _
  have k1 : W1.heap[w.heap.size]? = some (.cells #[.string S, .string H, .slice a n c, .string Q] 24 (0, 0)) := by rw [hW1]; exact heap_alloc_new w _
  have e1 : w.heap.size < W1.heap.size := by rw [hW1]; simp
  have CZ := Lib.hid (szLocation_any S H a n c P Q W1 (hrow.below (Nat.le_refl _) b1) hn hn63 hS hH hQ hP)
  have HRow := Lib.hid hrow
  have B1 := Lib.hid b1
  have HW1 := Lib.hid hW1
  clear hsp hmx hrow hP hW1 b1 hn
  go_enter Tryd.func3, Tryd.ntmps3
  go_wp2_with fail
  rw [← HW1.out]
  refine CZ.out.mono ?_
  rintro e w2 ⟨⟨m, rfl, hm⟩, b2⟩
  have k2 := (b2.block _ e1).trans k1
  have e2 := Nat.lt_of_lt_of_le e1 b2.size
  have B2 := Lib.hid (B1.out.trans (b2.mono B1.out.size))
  clear k1 b2 CZ HW1 e1
  by_cases hm0 : m < 0
  · clear k2 hm
    go_wp2
    go_ret
    exact ⟨rfl, B2.out⟩
  obtain ⟨hS', hH', hQ', hn', hP'⟩ := hm.resolve_left hm0
  have HP := Lib.hid hP'
  have CT : Hid (∀ W, Below w.heap.size w W → Calls Tryd.prog 6 #[.agg #[.string S, .string H, .slice a n c, .string Q]] W fun e w' => ∃ v, e = .returned (.agg #[.string S, .string H, v, .string Q]) ∧ w'.ownsRow W.heap.size 9 1 v n (P.map strV) ∧ Below W.heap.size W w') := fun W hW => toLocation_any S H a n c P Q W (HRow.out.below (Nat.le_refl _) hW) HN.out hn'
  clear hm hP' HRow
  have p0 := blkC k2 0 _ rfl; have p1 := blkC k2 1 _ rfl; have p2 := blkC k2 2 _ rfl; have p3 := blkC k2 3 _ rfl
  go_wp2_with fail
  refine (CT.out _ B2.out).mono ?_
  rintro e w3 ⟨v3, rfl, o3, b3⟩
  obtain ⟨a3, c3, rfl, r3, _⟩ := own_formn o3
  have k3 := (b3.block _ e2).trans k2
  have e3 := Nat.lt_of_lt_of_le e2 b3.size
  have B3 := Lib.hid (B2.out.trans (b3.mono B2.out.size))
  have CS := Lib.hid (HSP.out S H a3 n c3 P Q s w3 r3 HN.out hn' (fun e => by subst e; exact own_none o3) hH' hQ' HP.out (by omega))
  clear k2 p0 p1 p2 p3 b3 o3 r3 e2 HSP
  have HTL := Lib.hid (resT_len S H P Q (bl s))
  have CI : Hid (∀ (a : Option Addr) (c : Nat) (W : World), Below w.heap.size w W → RowAt W a (P.map strV) → (a = none → c = 0) → Calls Tryd.prog 7 #[.agg #[.string S, .string H, .slice a n c, .string Q], .string s] W (ResPost (resT S H P Q (bl s)) W)) := fun a c W hW hr h0 => impl_ResolveLocation S H a n c P Q s W (HM.out.below hW) hr HN.out hn' h0 hH' hQ' HP.out (by omega)
  generalize resT S H P Q (bl s) = T at *
  obtain ⟨S1, H1, P1, Q1, bb⟩ := T
  simp only at HTL
  obtain ⟨n1, hn1⟩ : ∃ n1, P1.length = n1 := ⟨_, rfl⟩
  have HN1 := Lib.hid hn1
  have hn1z : n1 ≤ 1048582 := by have := HTL.out; rw [HN.out, hn1] at this; omega
  clear HTL hn1
  go_wp2_with fail
  refine CS.out.mono ?_
  rintro e w4 ⟨⟨a4, n4, c4, rfl, hn4, r4, _⟩, b4⟩
  obtain rfl : n4 = n1 := hn4.symm.trans HN1.out
  simp only
  have k4 := (b4.block _ e3).trans k3
  have e4 := Nat.lt_of_lt_of_le e3 b4.size
  have B4 := Lib.hid (B3.out.trans (b4.mono B3.out.size))
  have R4 : Hid (RowAt w4 a4 (P1.map strV)) := r4
  obtain ⟨W5, hW5⟩ : ∃ W5, W5 = w4.alloc (.cells #[.string S1, .string H1, .slice a4 n4 c4, .string Q1] 26 (0, 0)) := ⟨_, rfl⟩
  have b45 : Below w4.heap.size w4 W5 := by rw [hW5]; exact (Below.refl _ _).alloc (Nat.le_refl _) _
  have D5 : W5.heap[w4.heap.size]? = some (.cells #[.string S1, .string H1, .slice a4 n4 c4, .string Q1] 26 (0, 0)) := by rw [hW5]; exact heap_alloc_new w4 _
  have e5 : w4.heap.size < W5.heap.size := by rw [hW5]; simp
  have k5 := (b45.block _ e4).trans k4
  have R5 := Lib.hid (R4.out.below (Nat.le_refl _) b45)
  have B5 := Lib.hid (B4.out.trans (b45.mono B4.out.size))
  have HW5 := Lib.hid hW5
  have p0 := blkC k4 0 _ rfl; have p1 := blkC k4 1 _ rfl; have p2 := blkC k4 2 _ rfl; have p3 := blkC k4 3 _ rfl
  clear k3 b4 r4 hn4 CS hW5 b45 e3
  go_wp2_with fail
  rw [← HW5.out]
  refine (CT.out _ B5.out).mono ?_
  rintro e w6 ⟨v6, rfl, o6, b6⟩
  obtain ⟨a6, c6, rfl, r6, _⟩ := own_formn o6
  obtain ⟨W7, hW7⟩ : ∃ W7, W7 = w6.alloc (.cells #[.string S, .string H, .slice a6 n c6, .string Q] 26 (0, 0)) := ⟨_, rfl⟩
  have b67 : Below w6.heap.size w6 W7 := by rw [hW7]; exact (Below.refl _ _).alloc (Nat.le_refl _) _
  have D7 : W7.heap[w6.heap.size]? = some (.cells #[.string S, .string H, .slice a6 n c6, .string Q] 26 (0, 0)) := by rw [hW7]; exact heap_alloc_new w6 _
  have e7 : w6.heap.size < W7.heap.size := by rw [hW7]; simp
  have b57 := b6.trans (b67.mono b6.size)
  have F7 := (b57.block _ e5).trans D5
  have k7 := (b57.block _ (by omega)).trans k5
  have R7 := Lib.hid (R5.out.below (Nat.le_refl _) b57)
  have B7 := Lib.hid (B5.out.trans (b57.mono B5.out.size))
  have O7 := Lib.hid (own_below o6 b67)
  have HX0 : Hid (∀ j, (Value.slice a6 n c6).ownBlock = some j → W5.heap.size ≤ j ∧ j < w6.heap.size) := fun j hj => own_ge o6 j hj
  have CI7 := Lib.hid (CI.out a6 c6 W7 B7.out (r6.below (Nat.le_refl _) b67) (fun e => by subst e; exact own_none o6))
  have HW7 := Lib.hid hW7
  have e57 := b57.size
  clear k4 p0 p1 p2 p3 k5 D5 b6 o6 r6 b67 hW7 b57 R5 HW5
  go_wp2_with fail
  rw [← HW7.out]
  refine CI7.out.mono ?_
  rintro e w8 ⟨⟨v8, rfl, o8⟩, b8⟩
  simp only at o8 ⊢
  rw [HN1.out] at o8
  obtain ⟨a8, c8, rfl, r8, _⟩ := own_formn o8
  obtain ⟨W9, hW9⟩ : ∃ W9, W9 = w8.alloc (.cells #[.string S1, .string H1, .slice a8 n4 c8, .string Q1] 26 (0, 0)) := ⟨_, rfl⟩
  have b89 : Below w8.heap.size w8 W9 := by rw [hW9]; exact (Below.refl _ _).alloc (Nat.le_refl _) _
  have G9 : W9.heap[w8.heap.size]? = some (.cells #[.string S1, .string H1, .slice a8 n4 c8, .string Q1] 26 (0, 0)) := by rw [hW9]; exact heap_alloc_new w8 _
  have e9 : w8.heap.size < W9.heap.size := by rw [hW9]; simp
  have b79 := b8.trans (b89.mono b8.size)
  have F8 := (b8.block _ (by omega)).trans F7
  have F9 := (b79.block _ (by omega)).trans F7
  have D9 := (b79.block _ e7).trans D7
  have k9 := (b79.block _ (by omega)).trans k7
  have R9 := Lib.hid (R7.out.below (Nat.le_refl _) b79)
  have O9 := Lib.hid (own_below O7.out b79)
  have Q9 := Lib.hid (own_below o8 b89)
  have B9 := Lib.hid (B7.out.trans (b79.mono B7.out.size))
  have HG0 : Hid (∀ j, (Value.slice a8 n4 c8).ownBlock = some j → W7.heap.size ≤ j ∧ j < w8.heap.size) := fun j hj => own_ge o8 j hj
  have CE9 := Lib.hid (eqLocation_any S1 H1 a8 a4 n4 c8 c4 P1 Q1 W9 (own_formn_row Q9.out) R9.out HN1.out (by omega))
  have HW9 := Lib.hid hW9
  have e79 := b79.size
  have e48 : w4.heap.size < w8.heap.size := by have := b8.size; omega
  have d0 := blkC F8 0 _ rfl; have d1 := blkC F8 1 _ rfl; have d2 := blkC F8 2 _ rfl; have d3 := blkC F8 3 _ rfl
  have q1 : (bb != bb) = false := by cases bb <;> rfl
  have q2 : (bb == bb) = true := by cases bb <;> rfl
  clear F7 k7 D7 R7 O7 b8 o8 r8 b89 hW9 b79 F8 HW7 CI7
  go_wp2_with fail
  rw [← HW9.out]
  refine CE9.out.mono ?_
  rintro e w10 ⟨rfl, b10⟩
  have F10 := (b10.block _ (by omega)).trans F9
  have D10 := (b10.block _ (by omega)).trans D9
  have G10 := (b10.block _ e9).trans G9
  have k10 := (b10.block _ (by omega)).trans k9
  have R10 := Lib.hid (R9.out.below (Nat.le_refl _) b10)
  have O10 := Lib.hid (own_below O9.out b10)
  have Q10 := Lib.hid (own_below Q9.out b10)
  have B10 := Lib.hid (B9.out.trans (b10.mono B9.out.size))
  have e10 := b10.size
  clear d0 d1 d2 d3 F9 D9 G9 k9 R9 O9 Q9 b10 HW9 CE9
  have N10 : w.heap.size < w10.heap.size := by omega
  have X10 : w6.heap.size < w10.heap.size := by omega
  have p0 := blkC k10 0 _ rfl; have p1 := blkC k10 1 _ rfl; have p2 := blkC k10 2 _ rfl; have p3 := blkC k10 3 _ rfl
  have x0 := blkC D10 0 _ rfl; have x1 := blkC D10 1 _ rfl; have x2 := blkC D10 2 _ rfl; have x3 := blkC D10 3 _ rfl
  go_upto_region 12 with fail
  go_cut [52] from 16 (fun b wx => b = .bool false ∧ Below w10.heap.size w10 wx)
  case first =>
    go_wp2
    go_region_held3 (fun w' => w'.cell? ⟨w.heap.size, 0, none⟩ = some (.string S) ∧ w'.cell? ⟨w.heap.size, 1, none⟩ = some (.string H) ∧ w'.cell? ⟨w.heap.size, 2, none⟩ = some (.slice a n c) ∧ w'.cell? ⟨w.heap.size, 3, none⟩ = some (.string Q) ∧ w'.cell? ⟨w6.heap.size, 0, none⟩ = some (.string S) ∧ w'.cell? ⟨w6.heap.size, 1, none⟩ = some (.string H) ∧ w'.cell? ⟨w6.heap.size, 2, none⟩ = some (.slice a6 n c6) ∧ w'.cell? ⟨w6.heap.size, 3, none⟩ = some (.string Q)) (go_keep) (first | (go_at_call 6; refine (CT.out _ (by first | exact B10.out | exact B10.out.drew)).mono ?_; rintro e w11 ⟨v11, rfl, o11, b11⟩; obtain ⟨a11, c11, rfl, r11, _⟩ := own_formn o11; have B11 : Hid (Below w10.heap.size w10 w11) := (by first | exact b11 | exact (Below.refl _ _).drew.trans b11); have R11 := Lib.hid r11; have kk := (B11.out.block _ N10).trans k10; have dd := (B11.out.block _ X10).trans D10; have s0 := blkC kk 0 _ rfl; have s1 := blkC kk 1 _ rfl; have s2 := blkC kk 2 _ rfl; have s3 := blkC kk 3 _ rfl; have t0 := blkC dd 0 _ rfl; have t1 := blkC dd 1 _ rfl; have t2 := blkC dd 2 _ rfl; have t3 := blkC dd 3 _ rfl; clear kk dd b11 o11 r11) | (go_at_call 8; refine (eqLocation_any S H a6 a11 n c6 c11 P Q w11 ((own_formn_row O10.out).below (Nat.le_refl _) B11.out) R11.out HN.out (by omega)).mono ?_; rintro e w12 ⟨rfl, b12⟩; have B12 := Lib.hid (B11.out.trans (b12.mono B11.out.size)); have kk := (B12.out.block _ N10).trans k10; have dd := (B12.out.block _ X10).trans D10; have s0 := blkC kk 0 _ rfl; have s1 := blkC kk 1 _ rfl; have s2 := blkC kk 2 _ rfl; have s3 := blkC kk 3 _ rfl; have t0 := blkC dd 0 _ rfl; have t1 := blkC dd 1 _ rfl; have t2 := blkC dd 2 _ rfl; have t3 := blkC dd 3 _ rfl; clear kk dd b12))
    all_goals
      go_wp2
      go_meet
      exact ⟨rfl, B12.out⟩
  case rest =>
    obtain ⟨rfl, b12⟩ := hcut
    have F12 := (b12.block _ (by omega)).trans F10
    have D12 := (b12.block _ (by omega)).trans D10
    have G12 := (b12.block _ (by omega)).trans G10
    have k12 := (b12.block _ (by omega)).trans k10
    have R12 := Lib.hid (R10.out.below (Nat.le_refl _) b12)
    have O12 := Lib.hid (own_below O10.out b12)
    have Q12 := Lib.hid (own_below Q10.out b12)
    have B12 := Lib.hid (B10.out.trans (b12.mono B10.out.size))
    have e12 := b12.size
    clear p0 p1 p2 p3 x0 x1 x2 x3 F10 D10 G10 k10 R10 O10 Q10 b12
    have x0 := blkC D12 0 _ rfl; have x1 := blkC D12 1 _ rfl; have x2 := blkC D12 2 _ rfl; have x3 := blkC D12 3 _ rfl
    go_wp2_with fail
    refine (markLocation_any S H _ _ n _ Q wc O12.out (by omega)).mono ?_
    rintro e w13 ⟨rfl, _, g13⟩
    have F13 := blk_keep F12 g13 (own_ne O12.out F12 (by decide))
    have G13 := blk_keep G12 g13 (own_ne O12.out G12 (by decide))
    have k13 := blk_keep k12 g13 (own_ne O12.out k12 (by decide))
    have R13 := Lib.hid (row_old R4.out R12.out g13 (fun j hj => by have := (HX0.out j hj).1; omega))
    have Q13 := Lib.hid (own_other Q12.out g13 (fun j hj hj2 => by have h1 := HX0.out j hj2; have h2 := HG0.out j hj; omega))
    have B13 := Lib.hid (B12.out.grown g13 B12.out.size (fun j hj => by have := (HX0.out j hj).1; omega))
    have e13 := g13.size
    clear x0 x1 x2 x3 F12 D12 G12 k12 R12 O12 Q12 g13
    have d0 := blkC F13 0 _ rfl; have d1 := blkC F13 1 _ rfl; have d2 := blkC F13 2 _ rfl; have d3 := blkC F13 3 _ rfl
    have g0 := blkC G13 0 _ rfl; have g1 := blkC G13 1 _ rfl; have g2 := blkC G13 2 _ rfl; have g3 := blkC G13 3 _ rfl
    have i1 : ¬ ((n : Int) + 1 < 0) := by omega
    have CE13 := Lib.hid (eqLocation_any S1 H1 a8 a4 n4 c8 c4 P1 Q1 w13 (own_formn_row Q13.out) R13.out HN1.out (by omega))
    go_wp2_with fail
    refine CE13.out.mono ?_
    rintro e w14 ⟨rfl, b14⟩
    have F14 := (b14.block _ (by omega)).trans F13
    have G14 := (b14.block _ (by omega)).trans G13
    have k14 := (b14.block _ (by omega)).trans k13
    have R14 := Lib.hid (R13.out.below (Nat.le_refl _) b14)
    have Q14 := Lib.hid (own_below Q13.out b14)
    have B14 := Lib.hid (B13.out.trans (b14.mono B13.out.size))
    have e14 := b14.size
    clear d0 d1 d2 d3 g0 g1 g2 g3 F13 G13 k13 R13 Q13 b14 CE13
    have g0 := blkC G14 0 _ rfl; have g1 := blkC G14 1 _ rfl; have g2 := blkC G14 2 _ rfl; have g3 := blkC G14 3 _ rfl
    go_wp2_with fail
    refine (markLocation_any S1 H1 _ _ n4 _ Q1 w14 Q14.out (by omega)).mono ?_
    rintro e w15 ⟨rfl, o15, g15⟩
    have F15 := blk_keep F14 g15 (own_ne Q14.out F14 (by decide))
    have G15 := blk_keep G14 g15 (own_ne Q14.out G14 (by decide))
    have k15 := blk_keep k14 g15 (own_ne Q14.out k14 (by decide))
    have R15 := Lib.hid (row_old R4.out R14.out g15 (fun j hj => by have := (HG0.out j hj).1; omega))
    have M15 : Hid (RowAt w15 a8 (markS 1 n4)) := own_formn_row o15
    have B15 := Lib.hid (B14.out.grown g15 B14.out.size (fun j hj => by have := (HG0.out j hj).1; omega))
    have e15 := g15.size
    clear g0 g1 g2 g3 F14 G14 k14 R14 Q14 g15 o15
    have g0 := blkC G15 0 _ rfl; have g1 := blkC G15 1 _ rfl; have g2 := blkC G15 2 _ rfl; have g3 := blkC G15 3 _ rfl
    go_wp2_with fail
    refine (heldLocation_any S1 H1 a8 n4 c8 Q1 w15 M15.out (by omega)).mono ?_
    rintro e w16 ⟨rfl, b16⟩
    have F16 := (b16.block _ (by omega)).trans F15
    have G16 := (b16.block _ (by omega)).trans G15
    have k16 := (b16.block _ (by omega)).trans k15
    have R16 := Lib.hid (R15.out.below (Nat.le_refl _) b16)
    have M16 := Lib.hid (M15.out.below (Nat.le_refl _) b16)
    have B16 := Lib.hid (B15.out.trans (b16.mono B15.out.size))
    have e16 := b16.size
    clear g0 g1 g2 g3 F15 G15 k15 R15 M15 b16
    have p0 := blkC k16 0 _ rfl; have p1 := blkC k16 1 _ rfl; have p2 := blkC k16 2 _ rfl; have p3 := blkC k16 3 _ rfl
    have i2 : ¬ ((n4 : Int) + 1 < 0) := by omega
    go_wp2_with fail
    refine (CT.out _ B16.out).mono ?_
    rintro e w17 ⟨v17, rfl, o17, b17⟩
    obtain ⟨a17, c17, rfl, r17, _⟩ := own_formn o17
    have F17 := (b17.block _ (by omega)).trans F16
    have G17 := (b17.block _ (by omega)).trans G16
    have R17 := Lib.hid (R16.out.below (Nat.le_refl _) b17)
    have M17 := Lib.hid (M16.out.below (Nat.le_refl _) b17)
    have B17 := Lib.hid (B16.out.trans (b17.mono B16.out.size))
    have CI17 := Lib.hid (CI.out a17 c17 w17 B17.out r17 (fun e => by subst e; exact own_none o17))
    have e17 := b17.size
    clear p0 p1 p2 p3 F16 G16 k16 R16 M16 b17 o17 r17
    go_wp2_with fail
    refine CI17.out.mono ?_
    rintro e w18 ⟨⟨v18, rfl, o18⟩, b18⟩
    simp only at o18 ⊢
    rw [HN1.out] at o18
    obtain ⟨a18, c18, rfl, r18, _⟩ := own_formn o18
    obtain ⟨W19, hW19⟩ : ∃ W19, W19 = w18.alloc (.cells #[.string S1, .string H1, .slice a18 n4 c18, .string Q1] 26 (0, 0)) := ⟨_, rfl⟩
    have b89 : Below w18.heap.size w18 W19 := by rw [hW19]; exact (Below.refl _ _).alloc (Nat.le_refl _) _
    have b79 := b18.trans (b89.mono b18.size)
    have F18 := (b18.block _ (by omega)).trans F17
    have G19 := (b79.block _ (by omega)).trans G17
    have R19 := Lib.hid (R17.out.below (Nat.le_refl _) b79)
    have M19 := Lib.hid (M17.out.below (Nat.le_refl _) b79)
    have B19 := Lib.hid (B17.out.trans (b79.mono B17.out.size))
    have CE19 := Lib.hid (eqLocation_any S1 H1 a18 a4 n4 c18 c4 P1 Q1 W19 (r18.below (Nat.le_refl _) b89) R19.out HN1.out (by omega))
    have HW19 := Lib.hid hW19
    have e19 := b79.size
    have e418 : w4.heap.size < w18.heap.size := by have := b18.size; omega
    have d0 := blkC F18 0 _ rfl; have d1 := blkC F18 1 _ rfl; have d2 := blkC F18 2 _ rfl; have d3 := blkC F18 3 _ rfl
    clear F17 G17 R17 M17 b18 o18 r18 b89 hW19 b79 F18 CI17
    go_wp2_with fail
    rw [← HW19.out]
    refine CE19.out.mono ?_
    rintro e w20 ⟨rfl, b20⟩
    have G20 := (b20.block _ (by omega)).trans G19
    have M20 := Lib.hid (M19.out.below (Nat.le_refl _) b20)
    have B20 := Lib.hid (B19.out.trans (b20.mono B19.out.size))
    clear d0 d1 d2 d3 G19 R19 M19 b20 CE19 HW19
    have g0 := blkC G20 0 _ rfl; have g1 := blkC G20 1 _ rfl; have g2 := blkC G20 2 _ rfl; have g3 := blkC G20 3 _ rfl
    go_wp2_with fail
    refine (heldLocation_any S1 H1 a8 n4 c8 Q1 w20 M20.out (by omega)).mono ?_
    rintro e w21 ⟨rfl, b21⟩
    have B21 := Lib.hid (B20.out.trans (b21.mono B20.out.size))
    clear b21 g0 g1 g2 g3
    go_wp2
    go_ret
    exact ⟨rfl, B21.out⟩
end Go.Proofs.YtmiemnhbkcmanaaDoor
