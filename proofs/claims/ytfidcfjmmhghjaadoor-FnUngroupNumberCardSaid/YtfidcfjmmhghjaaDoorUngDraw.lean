/- The drawn text and sign of UngroupNumber (printed by gen_ungdraw.py). -/
import Derived.Test.YtfidcfjmmhghjaaDoorGrpDraw
import Derived.Test.YtfidcfjmmhghjaaDoorLawGrp
import Derived.Test.YtfidcfjmmhghjaaDoorReg
namespace Go.Proofs.YtfidcfjmmhghjaaDoor
open Go.RowKit

def ungC4 (sg : UInt8) : Array Value := #[.int .u8 (sg.toNat : Int), .int .u8 (sg.toNat : Int), .int .u8 49, .int .u8 45]
def ungC9 (s : ByteArray) : Array Value := #[.string ⟨#[]⟩, .string ⟨#[49, 48, 48, 48]⟩, .string ⟨#[49, 44, 48, 48]⟩, .string ⟨#[44, 49, 48, 48]⟩, .string ⟨#[49, 44, 48, 48, 48, 44, 48, 48, 48]⟩, .string ⟨#[45, 48]⟩, .string ⟨#[48, 49]⟩, .string (s ++ ⟨#[48]⟩), .string (⟨#[45]⟩ ++ s)]
theorem ungC9_all (s : ByteArray) (hs : s.size ≤ 8) : ∀ x ∈ (ungC9 s).toList, ∃ q : ByteArray, x = .string q ∧ q.size ≤ 1000 := by
  intro x hx
  simp only [ungC9, List.mem_cons, List.not_mem_nil, or_false] at hx
  rcases hx with rfl | rfl | rfl | rfl | rfl | rfl | rfl | rfl | rfl
  · exact ⟨_, rfl, by decide⟩
  · exact ⟨_, rfl, by decide⟩
  · exact ⟨_, rfl, by decide⟩
  · exact ⟨_, rfl, by decide⟩
  · exact ⟨_, rfl, by decide⟩
  · exact ⟨_, rfl, by decide⟩
  · exact ⟨_, rfl, by decide⟩
  · exact ⟨_, rfl, by rw [ByteArray.size_append]; show s.size + 1 ≤ 1000; omega⟩
  · exact ⟨_, rfl, by rw [ByteArray.size_append]; show 1 + s.size ≤ 1000; omega⟩
def ungC6 : Array Value := #[.int .i64 0, .int .i64 0, .int .i64 0, .int .i64 1, .int .i64 2, .int .i64 3]
theorem ungC6_all : ∀ x ∈ ungC6.toList, PickIn 4 x := by
  intro x hx
  simp only [ungC6, List.mem_cons, List.not_mem_nil, or_false] at hx
  rcases hx with rfl | rfl | rfl | rfl | rfl | rfl
  · exact ⟨0, by omega, rfl⟩
  · exact ⟨0, by omega, rfl⟩
  · exact ⟨0, by omega, rfl⟩
  · exact ⟨1, by omega, rfl⟩
  · exact ⟨2, by omega, rfl⟩
  · exact ⟨3, by omega, rfl⟩
theorem ungC4_all (sg : UInt8) : ∀ x ∈ (ungC4 sg).toList, ∃ c : UInt8, x = .int .u8 (c.toNat : Int) := by
  intro x hx
  simp only [ungC4, List.mem_cons, List.not_mem_nil, or_false] at hx
  rcases hx with rfl | rfl | rfl | rfl
  · exact ⟨sg, rfl⟩
  · exact ⟨sg, rfl⟩
  · exact ⟨49, rfl⟩
  · exact ⟨45, rfl⟩
def ungSlot (R : Nat) (s : ByteArray) (sg : UInt8) : Nat → World → Value → Prop
  | 0, _, v => v = .string s
  | 1, _, v => v = .int .u8 (sg.toNat : Int)
  | 2, _, v => v = .int .u8 (sg.toNat : Int)
  | 3, w, v => LitSl R (ungC4 sg) 5 w v
  | 4, w, v => LitSl R ungC6 3 w v
  | 5, _, v => v = .pointer (some ⟨R, 0, none⟩)
  | 6, _, v => PickIn 6 v
  | 7, w, v => LitPt R ungC6 3 w v
  | 8, _, v => PickIn 4 v
  | 9, w, v => LitPt R (ungC4 sg) 5 w v
  | 10, _, v => ∃ c : UInt8, v = .int .u8 (c.toNat : Int)
  | 11, _, v => v = .string s
  | 12, _, v => ∃ c : UInt8, v = .int .u8 (c.toNat : Int)
  | _, _, _ => True
def ungWt : Nat → Nat := fun i => if i = 6 then 1 else 0
theorem ung_kept {R : Nat} {s : ByteArray} {sg : UInt8} {w w' : World} (hg : w.grownBy w' (some R)) (j : Nat) (v : Value) (h : ungSlot R s sg j w v) : ungSlot R s sg j w' v := by
  unfold ungSlot at h ⊢
  split at h
  all_goals first
    | exact h
    | exact LitSl.kept hg h
    | exact LitPt.kept hg h
def DrawUng (w : World) (e : Ending) (w' : World) : Prop :=
  ∃ (s : ByteArray) (sg : UInt8), e = .returned (.tuple #[.string s, .int .u8 (sg.toNat : Int)]) ∧ s.size ≤ 1000 ∧ Below w.heap.size w w'
set_option maxRecDepth 100000 in
set_option maxHeartbeats 1600000 in
theorem draw_UngroupNumber (w : World) (a : Option Addr) (n c : Nat) (f : Nat → UInt8) (hb : BytesAt w a n f) (hc : n ≤ c) (hc' : c ≤ 9223372036854775807) :
    Calls Tryd.prog 13 #[.slice a n c] w (DrawUng w) := by
  have HB := Lib.hid hb; clear hb
  go_enter Tryd.func13, Tryd.ntmps13
  go_wp2_with fail
  refine (draw_GroupNumber _ _ _ _ _ HB.out hc hc').mono ?_
  rintro e w1 ⟨m, sg, rfl, hmb, hsg, b1⟩
  have B1 := Lib.hid b1
  have HBY := Lib.hid (HB.out.below (Nat.le_refl _) b1)
  clear b1 HB
  go_wp2_with fail
  refine (open_any _ _ _ _ _ HBY.out hc hc').mono ?_
  rintro e w2 ⟨rfl, b2, hr2⟩
  have hRg : w.heap.size ≤ w1.heap.size := B1.out.size
  have hR2 := hr2.lt
  have HR2 := Lib.hid (hr2.less (k' := 1000) (by omega))
  have B2 := Lib.hid (B1.out.trans (b2.mono B1.out.size))
  clear b2 HBY hr2 B1
  generalize w1.heap.size = R at *
  have CS := Lib.hid (fun W => spec_GroupNumber m sg W (by omega) (by omega))
  have hle : (mkS (grpR m sg)).size ≤ 8 := by rw [mkS_size]; exact grpR_le m sg
  generalize mkS (grpR m sg) = s at *
  go_wp2_with fail
  refine (CS.out _).mono ?_
  rintro e w3 ⟨rfl, b3⟩
  have HR3 := Lib.hid (HR2.out.below b3 hR2)
  have B3 := Lib.hid (B2.out.trans (b3.mono B2.out.size))
  have hR3 := HR3.out.lt
  clear b3 HR2 B2 CS
  go_wp2_with fail
  refine (odd_any _ _ _ _ HR3.out (by omega) (by omega) (by omega)).mono ?_
  rintro e w4 ⟨bb, rfl, hg4, hr4⟩
  have HR4 := Lib.hid hr4
  have B4 := Lib.hid (B3.out.grown hg4 B3.out.size (by intro q hq; injection hq with hq; omega))
  have hR4 := hr4.lt
  clear hg4 hr4 HR3 B3
  cases bb with
  | true =>
    go_wp2_with fail
    refine (pick_any _ R _ 9 (HR4.out.alloc_ _) (by omega) (by omega) (by omega)).mono ?_
    rintro e w5 ⟨x, rfl, hx, hg5, _⟩
    have hx9 : x < 9 := by omega
    have hgz : (w4.alloc (.cells (ungC9 s) 9)).grownBy w5 (some R) := hg5
    obtain ⟨y, hcc, q, rfl, hq⟩ := load_lit (w := w5) (b := w4.heap.size) (i := x) (heap_row_kept hgz (by omega) (heap_alloc_new _ _)) (by show x < 9; exact hx9) (ungC9_all s hle)
    have B5 := Lib.hid ((B4.out.alloc B4.out.size _).grown hgz (by rw [World.size_alloc]; have := B4.out.size; omega) (by intro q hq; injection hq with hq; omega))
    clear hg5 hgz HR4 B4 hx
    go_wp2
    go_ret2
    exact ⟨q, 44, rfl, hq, B5.out⟩
  | false =>
    go_wp2
    refine wp_region_any (by kernel_rfl) ?_
    rename_i KK hKK
    refine region_draw R 900 ungWt (ungSlot R s sg) (fun w w' => w.grownBy w' (some R)) 40 13 (by kernel_rfl) (Nat.le_refl 40) (by kernel_rfl) rfl rfl (by decide) (grown_refl _ _) (fun _ _ h h' => h.trans h') (fun j w w' v _ hg h => ung_kept hg j v h) ((HR4.out.kept (grown_drewN (grown_refl _ none) 1) (by simp)).less (by decide)) ?step ?done
    case step =>
      intro i o ho wx a m hm hrel hr hD K hK
      have hlt : i < 13 := by have := (Array.getElem?_eq_some_iff.1 ho).1; simpa using this
      rcases (show i = 0 ∨ i = 1 ∨ i = 2 ∨ i = 3 ∨ i = 4 ∨ i = 5 ∨ i = 6 ∨ i = 7 ∨ i = 8 ∨ i = 9 ∨ i = 10 ∨ i = 11 ∨ i = 12 by omega) with rfl | rfl | rfl | rfl | rfl | rfl | rfl | rfl | rfl | rfl | rfl | rfl | rfl
      · have h7 := hD.old 7 (by kernel_rfl)
        obtain rfl := Option.some.inj ho
        clear hD
        unfold Oper.wp
        simp [execOp, Act.eval, h7]
        exact hK _ _ (.inr rfl) (grown_refl _ _) (by exact hr)
      · have h5 := hD.old 5 (by kernel_rfl)
        obtain rfl := Option.some.inj ho
        clear hD
        unfold Oper.wp
        simp [execOp, Act.eval, h5]
        exact hK _ _ (.inr rfl) (grown_refl _ _) (by exact hr)
      · have h5 := hD.old 5 (by kernel_rfl)
        obtain rfl := Option.some.inj ho
        clear hD
        unfold Oper.wp
        simp [execOp, Act.eval, h5]
        exact hK _ _ (.inr rfl) (grown_refl _ _) (by exact hr)
      · obtain ⟨v1, s1, rfl⟩ := hD.dep 1 30 rfl rfl (by obtain rfl := Option.some.inj ho; kernel_rfl)
        obtain ⟨v2, s2, rfl⟩ := hD.dep 2 31 rfl rfl (by obtain rfl := Option.some.inj ho; kernel_rfl)
        obtain rfl := Option.some.inj ho
        clear hD
        unfold Oper.wp
        simp [execOp, Act.eval, s1, s2]
        go_simp
        exact hK _ _ (.inr (LitSl.new _ _ _ 4 rfl hr.lt)) (World.grownBy_alloc _ _ _) (by exact hr.kept (World.grownBy_alloc _ _ none) (by simp))
      · obtain rfl := Option.some.inj ho
        clear hD
        unfold Oper.wp
        simp [execOp, Act.eval]
        go_simp
        exact hK _ _ (.inr (LitSl.new _ _ _ 6 rfl hr.lt)) (World.grownBy_alloc _ _ _) (by exact hr.kept (World.grownBy_alloc _ _ none) (by simp))
      · have h6 := hD.old 6 (by kernel_rfl)
        obtain rfl := Option.some.inj ho
        clear hD
        unfold Oper.wp
        simp [execOp, Act.eval, h6]
        exact hK _ _ (.inr rfl) (grown_refl _ _) (by exact hr)
      · obtain ⟨v5, s5, rfl⟩ := hD.dep 5 34 rfl rfl (by obtain rfl := Option.some.inj ho; kernel_rfl)
        obtain rfl := Option.some.inj ho
        clear hD
        unfold Oper.wp
        simp [execOp]
        go_simp
        refine (pick_any _ _ _ _ hr (by exact hm) (by omega) (by omega)).mono ?_
        rintro e w1 ⟨x, rfl, hx, hg, hr1⟩
        exact hK _ _ (.inr ⟨x, by omega, rfl⟩) hg hr1
      · obtain ⟨v4, s4, b4, hb4, rfl, hc4⟩ := hD.dep 4 33 rfl rfl (by obtain rfl := Option.some.inj ho; kernel_rfl)
        obtain ⟨v6, s6, x6, hx6, rfl⟩ := hD.dep 6 35 rfl rfl (by obtain rfl := Option.some.inj ho; kernel_rfl)
        obtain rfl := Option.some.inj ho
        clear hD
        have hsz : (ungC6).size = 6 := rfl
        unfold Oper.wp
        simp [execOp, Act.eval, s4, s6]
        go_simp
        rw [if_pos (by omega)]
        exact hK _ _ (.inr ⟨b4, x6, hb4, by omega, rfl, hc4⟩) (grown_refl _ _) (by exact hr)
      · obtain ⟨v7, s7, b7, i7, hb7, hi7, rfl, hc7⟩ := hD.dep 7 36 rfl rfl (by obtain rfl := Option.some.inj ho; kernel_rfl)
        obtain rfl := Option.some.inj ho
        clear hD
        obtain ⟨y, hcc, hq⟩ := load_lit hc7 hi7 (ungC6_all)
        unfold Oper.wp
        simp [execOp, Act.eval, s7]
        go_simp
        exact hK _ _ (.inr hq) (grown_refl _ _) (by exact hr)
      · obtain ⟨v3, s3, b3, hb3, rfl, hc3⟩ := hD.dep 3 32 rfl rfl (by obtain rfl := Option.some.inj ho; kernel_rfl)
        obtain ⟨v8, s8, x8, hx8, rfl⟩ := hD.dep 8 37 rfl rfl (by obtain rfl := Option.some.inj ho; kernel_rfl)
        obtain rfl := Option.some.inj ho
        clear hD
        have hsz : (ungC4 sg).size = 4 := rfl
        unfold Oper.wp
        simp [execOp, Act.eval, s3, s8]
        go_simp
        rw [if_pos (by omega)]
        exact hK _ _ (.inr ⟨b3, x8, hb3, by omega, rfl, hc3⟩) (grown_refl _ _) (by exact hr)
      · obtain ⟨v9, s9, b9, i9, hb9, hi9, rfl, hc9⟩ := hD.dep 9 38 rfl rfl (by obtain rfl := Option.some.inj ho; kernel_rfl)
        obtain rfl := Option.some.inj ho
        clear hD
        obtain ⟨y, hcc, hq⟩ := load_lit hc9 hi9 (ungC4_all sg)
        unfold Oper.wp
        simp [execOp, Act.eval, s9]
        go_simp
        exact hK _ _ (.inr hq) (grown_refl _ _) (by exact hr)
      · obtain ⟨v0, s0, rfl⟩ := hD.dep 0 29 rfl rfl (by obtain rfl := Option.some.inj ho; kernel_rfl)
        obtain rfl := Option.some.inj ho
        clear hD
        unfold Oper.wp
        simp [execOp, Act.eval, s0]
        exact hK _ _ (.inr rfl) (grown_refl _ _) (by exact hr)
      · obtain ⟨v10, s10, c10, rfl⟩ := hD.dep 10 39 rfl rfl (by obtain rfl := Option.some.inj ho; kernel_rfl)
        obtain rfl := Option.some.inj ho
        clear hD
        unfold Oper.wp
        simp [execOp, Act.eval, s10]
        exact hK _ _ (.inr ⟨c10, rfl⟩) (grown_refl _ _) (by exact hr)
    case done =>
      intro a wx hd hsz hold hall hrel hr
      obtain ⟨v11, h2, hv11⟩ := hall 11 2 _ rfl rfl
      obtain ⟨v12, h3, hv12⟩ := hall 12 3 _ rfl rfl
      obtain rfl : v11 = .string s := hv11
      obtain ⟨c12, rfl⟩ : ∃ c : UInt8, v12 = .int .u8 (c.toNat : Int) := hv12
      clear hold hall hr
      obtain ⟨tm, df⟩ := a
      simp only at hsz hd h2 h3
      subst hd
      refine hKK _ _ ?_
      have B5 := Lib.hid (B4.out.drew.grown hrel (by have := B4.out.size; simp; omega) (by intro q hq; injection hq with hq; omega))
      clear hrel hsz
      go_wp2
      (try simp only [Exit.inBlock, Exit.then])
      exact bodyPost_ret (v := .tuple #[.string s, .int .u8 (c12.toNat : Int)]) (by simp [results, Tryd.results13, go_sem, h2, h3]) rfl ⟨s, c12, rfl, by omega, B5.out⟩
end Go.Proofs.YtfidcfjmmhghjaaDoor
