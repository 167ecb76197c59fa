/- The drawn sources, kind and hosts of SourceAllows (printed by gen_allowdraw.py). -/
import Derived.Test.YtpplagecancccaaLawSrcV
namespace Go.Proofs.Ytpplagecancccaa
open Go.RowKit

def allC4 : Array Value := #[.string ⟨#[115, 99, 114, 105, 112, 116]⟩, .string ⟨#[105, 109, 97, 103, 101]⟩, .string ⟨#[102, 111, 110, 116]⟩, .string ⟨#[65]⟩]
theorem allC4_all : ∀ x ∈ allC4.toList, ∃ q : ByteArray, x = .string q ∧ q.size ≤ 10 := by
  intro x hx
  simp only [allC4, List.mem_cons, List.not_mem_nil, or_false] at hx
  rcases hx with rfl | rfl | rfl | rfl
  · exact ⟨_, rfl, by decide⟩
  · exact ⟨_, rfl, by decide⟩
  · exact ⟨_, rfl, by decide⟩
  · exact ⟨_, rfl, by decide⟩
def allC3 : Array Value := #[.string ⟨#[97, 46, 98]⟩, .string ⟨#[120]⟩, .string ⟨#[65]⟩]
theorem allC3_all : ∀ x ∈ allC3.toList, ∃ q : ByteArray, x = .string q ∧ q.size ≤ 10 := by
  intro x hx
  simp only [allC3, List.mem_cons, List.not_mem_nil, or_false] at hx
  rcases hx with rfl | rfl | rfl
  · exact ⟨_, rfl, by decide⟩
  · exact ⟨_, rfl, by decide⟩
  · exact ⟨_, rfl, by decide⟩
def allC7 : Array Value := #[.string ⟨#[97, 46, 98]⟩, .string ⟨#[100, 46, 101]⟩, .string ⟨#[121, 46, 98, 46, 99]⟩, .string ⟨#[98, 46, 99]⟩, .string ⟨#[120]⟩, .string ⟨#[115, 101, 108, 102]⟩, .string ⟨#[]⟩]
theorem allC7_all : ∀ x ∈ allC7.toList, ∃ q : ByteArray, x = .string q ∧ q.size ≤ 10 := by
  intro x hx
  simp only [allC7, List.mem_cons, List.not_mem_nil, or_false] at hx
  rcases hx with rfl | rfl | rfl | rfl | rfl | rfl | rfl
  · exact ⟨_, rfl, by decide⟩
  · exact ⟨_, rfl, by decide⟩
  · exact ⟨_, rfl, by decide⟩
  · exact ⟨_, rfl, by decide⟩
  · exact ⟨_, rfl, by decide⟩
  · exact ⟨_, rfl, by decide⟩
  · exact ⟨_, rfl, by decide⟩
def allI6 : Array Value := #[.int .i64 0, .int .i64 0, .int .i64 1, .int .i64 1, .int .i64 2, .int .i64 3]
theorem allI6_all : ∀ x ∈ allI6.toList, PickIn 4 x := by
  intro x hx
  simp only [allI6, List.mem_cons, List.not_mem_nil, or_false] at hx
  rcases hx with rfl | rfl | rfl | rfl | rfl | rfl
  · exact ⟨0, by omega, rfl⟩
  · exact ⟨0, by omega, rfl⟩
  · exact ⟨1, by omega, rfl⟩
  · exact ⟨1, by omega, rfl⟩
  · exact ⟨2, by omega, rfl⟩
  · exact ⟨3, by omega, rfl⟩
def allI5 : Array Value := #[.int .i64 0, .int .i64 0, .int .i64 0, .int .i64 1, .int .i64 2]
theorem allI5_all : ∀ x ∈ allI5.toList, PickIn 3 x := by
  intro x hx
  simp only [allI5, List.mem_cons, List.not_mem_nil, or_false] at hx
  rcases hx with rfl | rfl | rfl | rfl | rfl
  · exact ⟨0, by omega, rfl⟩
  · exact ⟨0, by omega, rfl⟩
  · exact ⟨0, by omega, rfl⟩
  · exact ⟨1, by omega, rfl⟩
  · exact ⟨2, by omega, rfl⟩
def allSlot (R : Nat) (vL : Value) : Nat → World → Value → Prop
  | 0, _, v => v = vL
  | 1, w, v => LitSl (R + 1) allC4 9 w v
  | 2, w, v => LitSl (R + 1) allI6 3 w v
  | 3, _, v => v = .pointer (some ⟨R, 0, none⟩)
  | 4, _, v => PickIn 6 v
  | 5, w, v => LitPt (R + 1) allI6 3 w v
  | 6, _, v => PickIn 4 v
  | 7, w, v => LitPt (R + 1) allC4 9 w v
  | 8, _, v => ∃ q : ByteArray, v = .string q ∧ q.size ≤ 10
  | 9, w, v => LitSl (R + 1) allC3 9 w v
  | 10, w, v => LitSl (R + 1) allI5 3 w v
  | 11, _, v => v = .pointer (some ⟨R, 0, none⟩)
  | 12, _, v => PickIn 5 v
  | 13, w, v => LitPt (R + 1) allI5 3 w v
  | 14, _, v => PickIn 3 v
  | 15, w, v => LitPt (R + 1) allC3 9 w v
  | 16, _, v => ∃ q : ByteArray, v = .string q ∧ q.size ≤ 10
  | 17, w, v => LitSl (R + 1) allC7 9 w v
  | 18, _, v => v = .pointer (some ⟨R, 0, none⟩)
  | 19, _, v => PickIn 7 v
  | 20, w, v => LitPt (R + 1) allC7 9 w v
  | 21, _, v => ∃ q : ByteArray, v = .string q ∧ q.size ≤ 10
  | 22, _, v => v = vL
  | 23, _, v => ∃ q : ByteArray, v = .string q ∧ q.size ≤ 10
  | 24, _, v => ∃ q : ByteArray, v = .string q ∧ q.size ≤ 10
  | 25, _, v => ∃ q : ByteArray, v = .string q ∧ q.size ≤ 10
  | _, _, _ => True
def allWt : Nat → Nat := fun i => if i = 4 then 1 else if i = 12 then 1 else if i = 19 then 1 else 0
theorem all_kept {R : Nat} {vL : Value} {w w' : World} (hg : w.grownBy w' (some R)) (j : Nat) (v : Value) (h : allSlot R vL j w v) : allSlot R vL j w' v := by
  unfold allSlot at h ⊢
  split at h
  all_goals first
    | exact h
    | exact LitSl.kept (KeepFrom.of_grown hg (by intro j e; injection e with e; omega)) h
    | exact LitPt.kept (KeepFrom.of_grown hg (by intro j e; injection e with e; omega)) h
def DrawAllow (w : World) (e : Ending) (w' : World) : Prop :=
  ∃ (v : Value) (l : List (ByteArray × Value)) (S : List Src) (k home host : ByteArray), e = .returned (.tuple #[v, .string k, .string home, .string host]) ∧ (k.size ≤ 10 ∧ home.size ≤ 10 ∧ host.size ≤ 10) ∧ S.length ≤ 5 ∧ w'.ownsRow w.heap.size 29 2 v S.length (prC l) ∧ SrcL w' w.heap.size l S ∧ (∀ s ∈ S, SrcSm s) ∧ Below w.heap.size w w'
set_option maxRecDepth 100000 in
set_option maxHeartbeats 1600000 in
theorem draw_SourceAllows (w : World) (a : Option Addr) (n c : Nat) (f : Nat → UInt8) (hb : BytesAt w a n f) (hc : n ≤ c) (hc' : c ≤ 9223372036854775807) :
    Calls Try.prog 15 #[.slice a n c] w (DrawAllow w) := by
  have HB := Lib.hid hb; clear hb
  go_enter Try.func15, Try.ntmps15
  go_wp2_with fail
  refine (open_any _ _ _ _ _ HB.out hc hc').mono ?_
  rintro e w1 ⟨rfl, hb1, hr1⟩
  have hR1 := hr1.lt
  have HR1 := Lib.hid hr1
  have HB1 := Lib.hid hb1
  clear hb1 HB hr1
  obtain ⟨R, hRR⟩ : ∃ R, w.heap.size = R := ⟨_, rfl⟩
  rw [hRR] at hR1 HR1
  go_wp2_with fail
  refine (sources_any _ _ _ _ HR1.out (by omega) (by omega) (by omega)).mono ?_
  rintro e w2 ⟨vL, l, S, rfl, hS, own, hl, hsm, hg, hr2⟩
  have hR2 := hr2.lt
  have B2 := Lib.hid (HB1.out.grown hg (by omega) (by intro q hq; injection hq with hq; omega))
  have O2 := Lib.hid own
  have L2 := Lib.hid hl
  have HSM := Lib.hid hsm
  have HR2 := Lib.hid (hr2.less (k' := 1000) (by omega))
  clear own hl hsm hg hr2 HR1
  go_wp2
  refine wp_region_any (by kernel_rfl) ?_
  rename_i KK hKK
  refine region_draw R 900 allWt (allSlot R vL) (fun w w' => w.grownBy w' (some R)) 34 26 (by kernel_rfl) (Nat.le_refl 34) (by kernel_rfl) rfl rfl (by decide) (grown_refl _ _) (fun _ _ h h' => h.trans h') (fun j w w' v _ hg h => all_kept hg j v h) ((HR2.out.kept (grown_drewN (grown_refl _ none) 1) (by simp)).less (by decide)) ?step ?done
  case step =>
    intro i o ho wx a mb hm hrel hr hD KC hK
    have hlt : i < 26 := by have := (Array.getElem?_eq_some_iff.1 ho).1; simpa using this
    rcases (show i = 0 ∨ i = 1 ∨ i = 2 ∨ i = 3 ∨ i = 4 ∨ i = 5 ∨ i = 6 ∨ i = 7 ∨ i = 8 ∨ i = 9 ∨ i = 10 ∨ i = 11 ∨ i = 12 ∨ i = 13 ∨ i = 14 ∨ i = 15 ∨ i = 16 ∨ i = 17 ∨ i = 18 ∨ i = 19 ∨ i = 20 ∨ i = 21 ∨ i = 22 ∨ i = 23 ∨ i = 24 ∨ i = 25 by omega) with rfl | rfl | rfl | rfl | rfl | rfl | rfl | rfl | rfl | rfl | rfl | rfl | rfl | rfl | rfl | rfl | rfl | rfl | rfl | rfl | rfl | rfl | rfl | rfl | rfl | rfl
    · have h7 := hD.old 7 (by kernel_rfl)
      obtain rfl := Option.some.inj ho
      clear hD
      unfold Oper.wp
      simp [execOp, Act.eval, h7]
      exact hK _ _ (.inr rfl) (grown_refl _ _) (by exact hr)
    · obtain rfl := Option.some.inj ho
      clear hD
      unfold Oper.wp
      simp [execOp, Act.eval]
      go_simp
      exact hK _ _ (.inr (LitSl.new _ _ _ 4 rfl hr.lt)) (World.grownBy_alloc _ _ _) (by exact hr.kept (World.grownBy_alloc _ _ none) (by simp))
    · obtain rfl := Option.some.inj ho
      clear hD
      unfold Oper.wp
      simp [execOp, Act.eval]
      go_simp
      exact hK _ _ (.inr (LitSl.new _ _ _ 6 rfl hr.lt)) (World.grownBy_alloc _ _ _) (by exact hr.kept (World.grownBy_alloc _ _ none) (by simp))
    · have h6 := hD.old 6 (by kernel_rfl)
      obtain rfl := Option.some.inj ho
      clear hD
      unfold Oper.wp
      simp [execOp, Act.eval, h6]
      exact hK _ _ (.inr rfl) (grown_refl _ _) (by exact hr)
    · obtain ⟨v3, s3, rfl⟩ := hD.dep 3 15 rfl rfl (by obtain rfl := Option.some.inj ho; kernel_rfl)
      obtain rfl := Option.some.inj ho
      clear hD
      unfold Oper.wp
      simp [execOp]
      go_simp
      refine (pick_any _ _ _ _ hr (by exact hm) (by omega) (by omega)).mono ?_
      rintro e w1 ⟨x, rfl, hx, hg, hr1⟩
      exact hK _ _ (.inr ⟨x, by omega, rfl⟩) hg hr1
    · obtain ⟨v2, s2, b2, hb2, rfl, hc2⟩ := hD.dep 2 14 rfl rfl (by obtain rfl := Option.some.inj ho; kernel_rfl)
      obtain ⟨v4, s4, x4, hx4, rfl⟩ := hD.dep 4 16 rfl rfl (by obtain rfl := Option.some.inj ho; kernel_rfl)
      obtain rfl := Option.some.inj ho
      clear hD
      have hsz : (allI6).size = 6 := rfl
      unfold Oper.wp
      simp [execOp, Act.eval, s2, s4]
      go_simp
      rw [if_pos (by omega)]
      exact hK _ _ (.inr ⟨b2, x4, hb2, by omega, rfl, hc2⟩) (grown_refl _ _) (by exact hr)
    · obtain ⟨v5, s5, b5, i5, hb5, hi5, rfl, hc5⟩ := hD.dep 5 17 rfl rfl (by obtain rfl := Option.some.inj ho; kernel_rfl)
      obtain rfl := Option.some.inj ho
      clear hD
      obtain ⟨y, hcc, hq⟩ := load_lit hc5 hi5 (allI6_all)
      unfold Oper.wp
      simp [execOp, Act.eval, s5]
      go_simp
      exact hK _ _ (.inr hq) (grown_refl _ _) (by exact hr)
    · obtain ⟨v1, s1, b1, hb1, rfl, hc1⟩ := hD.dep 1 13 rfl rfl (by obtain rfl := Option.some.inj ho; kernel_rfl)
      obtain ⟨v6, s6, x6, hx6, rfl⟩ := hD.dep 6 18 rfl rfl (by obtain rfl := Option.some.inj ho; kernel_rfl)
      obtain rfl := Option.some.inj ho
      clear hD
      have hsz : (allC4).size = 4 := rfl
      unfold Oper.wp
      simp [execOp, Act.eval, s1, s6]
      go_simp
      rw [if_pos (by omega)]
      exact hK _ _ (.inr ⟨b1, x6, hb1, by omega, rfl, hc1⟩) (grown_refl _ _) (by exact hr)
    · obtain ⟨v7, s7, b7, i7, hb7, hi7, rfl, hc7⟩ := hD.dep 7 19 rfl rfl (by obtain rfl := Option.some.inj ho; kernel_rfl)
      obtain rfl := Option.some.inj ho
      clear hD
      obtain ⟨y, hcc, hq⟩ := load_lit hc7 hi7 (allC4_all)
      unfold Oper.wp
      simp [execOp, Act.eval, s7]
      go_simp
      exact hK _ _ (.inr hq) (grown_refl _ _) (by exact hr)
    · obtain rfl := Option.some.inj ho
      clear hD
      unfold Oper.wp
      simp [execOp, Act.eval]
      go_simp
      exact hK _ _ (.inr (LitSl.new _ _ _ 3 rfl hr.lt)) (World.grownBy_alloc _ _ _) (by exact hr.kept (World.grownBy_alloc _ _ none) (by simp))
    · obtain rfl := Option.some.inj ho
      clear hD
      unfold Oper.wp
      simp [execOp, Act.eval]
      go_simp
      exact hK _ _ (.inr (LitSl.new _ _ _ 5 rfl hr.lt)) (World.grownBy_alloc _ _ _) (by exact hr.kept (World.grownBy_alloc _ _ none) (by simp))
    · have h6 := hD.old 6 (by kernel_rfl)
      obtain rfl := Option.some.inj ho
      clear hD
      unfold Oper.wp
      simp [execOp, Act.eval, h6]
      exact hK _ _ (.inr rfl) (grown_refl _ _) (by exact hr)
    · obtain ⟨v11, s11, rfl⟩ := hD.dep 11 23 rfl rfl (by obtain rfl := Option.some.inj ho; kernel_rfl)
      obtain rfl := Option.some.inj ho
      clear hD
      unfold Oper.wp
      simp [execOp]
      go_simp
      refine (pick_any _ _ _ _ hr (by exact hm) (by omega) (by omega)).mono ?_
      rintro e w1 ⟨x, rfl, hx, hg, hr1⟩
      exact hK _ _ (.inr ⟨x, by omega, rfl⟩) hg hr1
    · obtain ⟨v10, s10, b10, hb10, rfl, hc10⟩ := hD.dep 10 22 rfl rfl (by obtain rfl := Option.some.inj ho; kernel_rfl)
      obtain ⟨v12, s12, x12, hx12, rfl⟩ := hD.dep 12 24 rfl rfl (by obtain rfl := Option.some.inj ho; kernel_rfl)
      obtain rfl := Option.some.inj ho
      clear hD
      have hsz : (allI5).size = 5 := rfl
      unfold Oper.wp
      simp [execOp, Act.eval, s10, s12]
      go_simp
      rw [if_pos (by omega)]
      exact hK _ _ (.inr ⟨b10, x12, hb10, by omega, rfl, hc10⟩) (grown_refl _ _) (by exact hr)
    · obtain ⟨v13, s13, b13, i13, hb13, hi13, rfl, hc13⟩ := hD.dep 13 25 rfl rfl (by obtain rfl := Option.some.inj ho; kernel_rfl)
      obtain rfl := Option.some.inj ho
      clear hD
      obtain ⟨y, hcc, hq⟩ := load_lit hc13 hi13 (allI5_all)
      unfold Oper.wp
      simp [execOp, Act.eval, s13]
      go_simp
      exact hK _ _ (.inr hq) (grown_refl _ _) (by exact hr)
    · obtain ⟨v9, s9, b9, hb9, rfl, hc9⟩ := hD.dep 9 21 rfl rfl (by obtain rfl := Option.some.inj ho; kernel_rfl)
      obtain ⟨v14, s14, x14, hx14, rfl⟩ := hD.dep 14 26 rfl rfl (by obtain rfl := Option.some.inj ho; kernel_rfl)
      obtain rfl := Option.some.inj ho
      clear hD
      have hsz : (allC3).size = 3 := rfl
      unfold Oper.wp
      simp [execOp, Act.eval, s9, s14]
      go_simp
      rw [if_pos (by omega)]
      exact hK _ _ (.inr ⟨b9, x14, hb9, by omega, rfl, hc9⟩) (grown_refl _ _) (by exact hr)
    · obtain ⟨v15, s15, b15, i15, hb15, hi15, rfl, hc15⟩ := hD.dep 15 27 rfl rfl (by obtain rfl := Option.some.inj ho; kernel_rfl)
      obtain rfl := Option.some.inj ho
      clear hD
      obtain ⟨y, hcc, hq⟩ := load_lit hc15 hi15 (allC3_all)
      unfold Oper.wp
      simp [execOp, Act.eval, s15]
      go_simp
      exact hK _ _ (.inr hq) (grown_refl _ _) (by exact hr)
    · obtain rfl := Option.some.inj ho
      clear hD
      unfold Oper.wp
      simp [execOp, Act.eval]
      go_simp
      exact hK _ _ (.inr (LitSl.new _ _ _ 7 rfl hr.lt)) (World.grownBy_alloc _ _ _) (by exact hr.kept (World.grownBy_alloc _ _ none) (by simp))
    · have h6 := hD.old 6 (by kernel_rfl)
      obtain rfl := Option.some.inj ho
      clear hD
      unfold Oper.wp
      simp [execOp, Act.eval, h6]
      exact hK _ _ (.inr rfl) (grown_refl _ _) (by exact hr)
    · obtain ⟨v18, s18, rfl⟩ := hD.dep 18 30 rfl rfl (by obtain rfl := Option.some.inj ho; kernel_rfl)
      obtain rfl := Option.some.inj ho
      clear hD
      unfold Oper.wp
      simp [execOp]
      go_simp
      refine (pick_any _ _ _ _ hr (by exact hm) (by omega) (by omega)).mono ?_
      rintro e w1 ⟨x, rfl, hx, hg, hr1⟩
      exact hK _ _ (.inr ⟨x, by omega, rfl⟩) hg hr1
    · obtain ⟨v17, s17, b17, hb17, rfl, hc17⟩ := hD.dep 17 29 rfl rfl (by obtain rfl := Option.some.inj ho; kernel_rfl)
      obtain ⟨v19, s19, x19, hx19, rfl⟩ := hD.dep 19 31 rfl rfl (by obtain rfl := Option.some.inj ho; kernel_rfl)
      obtain rfl := Option.some.inj ho
      clear hD
      have hsz : (allC7).size = 7 := rfl
      unfold Oper.wp
      simp [execOp, Act.eval, s17, s19]
      go_simp
      rw [if_pos (by omega)]
      exact hK _ _ (.inr ⟨b17, x19, hb17, by omega, rfl, hc17⟩) (grown_refl _ _) (by exact hr)
    · obtain ⟨v20, s20, b20, i20, hb20, hi20, rfl, hc20⟩ := hD.dep 20 32 rfl rfl (by obtain rfl := Option.some.inj ho; kernel_rfl)
      obtain rfl := Option.some.inj ho
      clear hD
      obtain ⟨y, hcc, hq⟩ := load_lit hc20 hi20 (allC7_all)
      unfold Oper.wp
      simp [execOp, Act.eval, s20]
      go_simp
      exact hK _ _ (.inr hq) (grown_refl _ _) (by exact hr)
    · obtain ⟨v0, s0, hv0⟩ := hD.dep 0 12 rfl rfl (by obtain rfl := Option.some.inj ho; kernel_rfl)
      obtain rfl := Option.some.inj ho
      clear hD
      unfold Oper.wp
      simp [execOp, Act.eval, s0]
      exact hK _ _ (.inr hv0) (grown_refl _ _) (by exact hr)
    · obtain ⟨v8, s8, q8, rfl, hq8⟩ := hD.dep 8 20 rfl rfl (by obtain rfl := Option.some.inj ho; kernel_rfl)
      obtain rfl := Option.some.inj ho
      clear hD
      unfold Oper.wp
      simp [execOp, Act.eval, s8]
      exact hK _ _ (.inr ⟨q8, rfl, hq8⟩) (grown_refl _ _) (by exact hr)
    · obtain ⟨v16, s16, q16, rfl, hq16⟩ := hD.dep 16 28 rfl rfl (by obtain rfl := Option.some.inj ho; kernel_rfl)
      obtain rfl := Option.some.inj ho
      clear hD
      unfold Oper.wp
      simp [execOp, Act.eval, s16]
      exact hK _ _ (.inr ⟨q16, rfl, hq16⟩) (grown_refl _ _) (by exact hr)
    · obtain ⟨v21, s21, q21, rfl, hq21⟩ := hD.dep 21 33 rfl rfl (by obtain rfl := Option.some.inj ho; kernel_rfl)
      obtain rfl := Option.some.inj ho
      clear hD
      unfold Oper.wp
      simp [execOp, Act.eval, s21]
      exact hK _ _ (.inr ⟨q21, rfl, hq21⟩) (grown_refl _ _) (by exact hr)
  case done =>
    intro a wx hd hsz hold hall hrel hr
    obtain ⟨v22, h2, hv22⟩ := hall 22 2 _ rfl rfl
    obtain ⟨v23, h3, q3, rfl, hq3⟩ := hall 23 3 _ rfl rfl
    obtain ⟨v24, h4, q4, rfl, hq4⟩ := hall 24 4 _ rfl rfl
    obtain ⟨v25, h5, q5, rfl, hq5⟩ := hall 25 5 _ rfl rfl
    obtain rfl : v22 = vL := hv22
    have hrel2 : w2.grownBy wx (some R) := (grown_drewN (grown_refl w2 (some R)) 1).trans hrel
    have B5 := Lib.hid (B2.out.grown hrel2 (by omega) (by intro q hq; injection hq with hq; omega))
    have O5 := Lib.hid (ownN_mono (ownN_R O2.out hrel2 hR1) (B' := R) (by omega))
    have L5 := Lib.hid (SrcL.map (fun v F o => OwnS.mono (OwnS.R o hrel2 hR1) (B' := R) (by omega)) l S L2.out)
    clear hold hall hr hsz hrel hrel2 O2 L2 B2
    obtain ⟨tm, df⟩ := a
    simp only at hd h2 h3 h4 h5
    subst hd
    refine hKK _ _ ?_
    go_wp2
    (try simp only [Exit.inBlock, Exit.then])
    subst hRR
    exact bodyPost_ret (v := .tuple #[v22, .string q3, .string q4, .string q5]) (by simp [results, Try.results15, go_sem, h2, h3, h4, h5]) rfl ⟨v22, l, S, q3, q4, q5, rfl, ⟨hq3, hq4, hq5⟩, hS, O5.out, L5.out, HSM.out, B5.out⟩
end Go.Proofs.Ytpplagecancccaa
