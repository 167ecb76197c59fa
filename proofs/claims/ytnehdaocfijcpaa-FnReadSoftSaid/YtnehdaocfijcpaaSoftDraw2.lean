/- The drawn bytes and lines of the laws on soft lines, whole. -/
import Derived.Test.YtnehdaocfijcpaaSoftDraw
namespace Go.Proofs.Ytnehdaocfijcpaa
open Go.RowKit

theorem sum_le {l : List ByteArray} {Q : ByteArray → Prop} (h : ∀ s ∈ l, s.size ≤ 20 ∧ Q s) (hl : l.length ≤ 61) : sumS l ≤ 2097152 := by
  have : ∀ l : List ByteArray, (∀ s ∈ l, s.size ≤ 20 ∧ Q s) → sumS l ≤ 20 * l.length := by
    intro l
    induction l with
    | nil => intro _; simp [sumS]
    | cons s l ih =>
      intro h
      have h1 := ih (fun s hs => h s (List.mem_cons_of_mem _ hs))
      have h2 := (h s (List.mem_cons_self ..)).1
      simp only [sumS, List.map_cons, List.sum_cons, List.length_cons] at h1 ⊢
      omega
  have := this l h
  omega

def DrawBytes (w : World) (m : Nat) (e : Ending) (w' : World) : Prop :=
  ∃ (v : Value) (l : List UInt8), e = .returned v ∧ l.length ≤ m ∧ w'.ownsRow w.heap.size 5 1 v l.length (l.map byteV) ∧ Below w.heap.size w w'

theorem make61 (w : World) : (Instr.makeSlice 22 (.int .i64 61) (.int .i64 61)).run Try.prog w = .ok (.slice (some ⟨w.heap.size, 0, none⟩) 61 61) (w.alloc (.cells ((List.replicate 61 (0 : UInt8)).map byteV).toArray 5 (0, 0))) := by kernel_rfl

set_option maxHeartbeats 800000 in
theorem draw_SoftLines (w : World) (a : Option Addr) (n c : Nat) (f : Nat → UInt8) (hb : BytesAt w a n f) (hc : n ≤ c) (hc' : c ≤ 9223372036854775807) :
    Calls Try.prog 15 #[.slice a n c] w (DrawBytes w 61) := by
  have HB := Lib.hid hb; clear hb
  go_enter Try.func15, Try.ntmps15
  go_wp2_with fail
  refine (open_any _ _ _ _ _ HB.out hc hc').mono ?_
  rintro e w1 ⟨rfl, hb1, hr1⟩
  have HB1 := Lib.hid hb1
  clear hb1 HB
  go_wp2_with fail
  refine (odd_any _ _ _ _ hr1 (by omega) (by omega) (by omega)).mono ?_
  rintro e w2 ⟨b, rfl, hg2, hr2⟩
  have B2 := Lib.hid (below_of_grown hg2 HB1.out.size (by intro q hq; injection hq with hq; omega))
  clear hr1 hg2
  have BB : Hid (Below w.heap.size w w2) := HB1.out.trans B2.out
  cases b
  · go_wp2_with fail
    refine (raw_any _ _ _ 40 hr2 (by omega) (by omega)).mono ?_
    rintro e w3 ⟨v, l, rfl, hl, o3, hg3, hr3⟩
    have O3 := Lib.hid o3
    have B3 := Lib.hid (BB.out.trans (below_of_grown hg3 BB.out.size (by intro q hq; injection hq with hq; omega)))
    have S2 := BB.out.size
    clear o3 hg3 hr3
    go_wp2
    go_ret
    exact ⟨v, l, rfl, by omega, own_mono O3.out S2, B3.out⟩
  · have hmk := make61 w2
    have O3 := Lib.hid (own_new w2 ((List.replicate 61 (0 : UInt8)).map byteV).toArray 5 61 (by simp) (by omega))
    obtain ⟨C, hC⟩ : ∃ C, C = ((List.replicate 61 (0 : UInt8)).map byteV).toArray := ⟨_, rfl⟩
    have HC : Hid (C.toList = (List.replicate 61 (0 : UInt8)).map byteV) := by rw [hC]; rfl
    rw [← hC] at hmk O3
    clear hC
    go_wp2
    go_ret
    exact ⟨_, List.replicate 61 0, rfl, by simp, own_mono (own_len_eq O3.out (by simp) HC.out) BB.out.size, BB.out.alloc BB.out.size _⟩

theorem softL_pos {b : List UInt8} (h : b.length ≤ 60) : 1 ≤ (softL b).length := by
  rcases hx : softL b with _ | ⟨s, l⟩
  · have := softL_nil hx; omega
  · simp

/-- Drawn lines: short ones, few, that can be read. -/
def DrawLines (w : World) (e : Ending) (w' : World) : Prop :=
  ∃ (a : Option Addr) (c : Nat) (L : List ByteArray), e = .returned (.slice a L.length c) ∧ L.length ≤ 70 ∧ L.length ≤ c ∧ c ≤ 9223372036854775807 ∧ (a = none → c = 0) ∧ (∀ s ∈ L, s.size ≤ 22) ∧ RowAt w' a (L.map strV) ∧ Below w.heap.size w w'

theorem sumS_app (l l' : List ByteArray) : sumS (l ++ l') = sumS l + sumS l' := by simp [sumS]
theorem sum_le22 {l : List ByteArray} (h : ∀ s ∈ l, s.size ≤ 22) (hl : l.length ≤ 70) : sumS l ≤ 2097152 := by
  have : ∀ l : List ByteArray, (∀ s ∈ l, s.size ≤ 22) → sumS l ≤ 22 * l.length := by
    intro l
    induction l with
    | nil => intro _; simp [sumS]
    | cons s l ih =>
      intro h
      have h1 := ih (fun s hs => h s (List.mem_cons_of_mem _ hs))
      have h2 := h s (List.mem_cons_self ..)
      simp only [sumS, List.map_cons, List.sum_cons, List.length_cons] at h1 ⊢
      omega
  have := this l h
  omega
theorem push_eq {h : Array Obj} {o : Obj} {i : Nat} (hi : i = h.size) : (h.push o)[i]? = some o := by subst hi; simp
theorem push_lt {h : Array Obj} {o : Obj} {i : Nat} {x : Option Obj} (hi : i < h.size) (hx : h[i]? = x) : (h.push o)[i]? = x := by rw [Array.getElem?_push_lt hi, ← hx, Array.getElem?_eq_getElem hi]
theorem row_of_block {w : World} {b : Nat} {C : Array Value} {t : TypeId} {L : List ByteArray} (h : w.heap[b]? = some (.cells C t (0, 0))) (hC : C.toList = L.map strV) : RowAt w (some ⟨b, 0, none⟩) (L.map strV) := by
  intro i hi
  refine ⟨b, 0, rfl, (Array.getElem?_eq_some_iff.1 h).1, ?_⟩
  rw [cell_of_row w b (0 + i) C t (0, 0) h, Nat.zero_add, ← Array.getElem?_toList, hC, List.getElem?_eq_getElem hi]
/-- A literal row of few short strings. -/
def LitRow (W : World) (B : Nat) (x : Value) : Prop := ∃ (b : Nat) (L : List ByteArray), x = .slice (some ⟨b, 0, none⟩) L.length L.length ∧ L.length ≤ 2 ∧ (∀ s ∈ L, s.size ≤ 22) ∧ B ≤ b ∧ RowAt W (some ⟨b, 0, none⟩) (L.map strV)
theorem bad_lits (w : World) : ∀ x ∈ (#[Value.slice (some ⟨w.heap.size, 0, none⟩) 0 0, Value.slice (some ⟨w.heap.size + 1, 0, none⟩) 1 1, Value.slice (some ⟨w.heap.size + 1 + 1, 0, none⟩) 1 1, Value.slice (some ⟨w.heap.size + 1 + 1 + 1, 0, none⟩) 1 1, Value.slice (some ⟨w.heap.size + 1 + 1 + 1 + 1, 0, none⟩) 2 2, Value.slice (some ⟨w.heap.size + 1 + 1 + 1 + 1 + 1, 0, none⟩) 1 1, Value.slice (some ⟨w.heap.size + 1 + 1 + 1 + 1 + 1 + 1, 0, none⟩) 1 1, Value.slice (some ⟨w.heap.size + 1 + 1 + 1 + 1 + 1 + 1 + 1, 0, none⟩) 1 1] : Array Value).toList, LitRow ((((((((w.alloc (.cells #[] 9 (0, 0))).alloc (.cells #[.string ⟨#[61, 51, 100]⟩] 9 (0, 0))).alloc (.cells #[.string ⟨#[61, 52, 49]⟩] 9 (0, 0))).alloc (.cells #[.string ⟨#[97, 61]⟩] 9 (0, 0))).alloc (.cells #[.string ⟨#[97, 61]⟩, .string ⟨#[98]⟩] 9 (0, 0))).alloc (.cells #[.string ⟨#[97, 32, 98]⟩] 9 (0, 0))).alloc (.cells #[.string ⟨#[61, 51]⟩] 9 (0, 0))).alloc (.cells #[.string ⟨#[61, 71, 48]⟩] 9 (0, 0))) w.heap.size x := by
  intro x hx
  simp only [List.mem_cons, List.not_mem_nil, or_false] at hx
  rcases hx with rfl | rfl | rfl | rfl | rfl | rfl | rfl | rfl
  · exact ⟨w.heap.size, [], rfl, by decide, by decide, by omega, row_of_block (C := #[]) (t := 9) (by show (((((((((w.heap.push _).push _).push _).push _).push _).push _).push _).push _) : Array Obj)[_]? = _; repeat (first | exact push_eq (by first | rfl | simp only [Array.size_push]) | refine push_lt (by simp only [Array.size_push]; omega) ?_)) rfl⟩
  · exact ⟨w.heap.size + 1, [⟨#[61, 51, 100]⟩], rfl, by decide, by decide, by omega, row_of_block (C := #[.string ⟨#[61, 51, 100]⟩]) (t := 9) (by show (((((((((w.heap.push _).push _).push _).push _).push _).push _).push _).push _) : Array Obj)[_]? = _; repeat (first | exact push_eq (by first | rfl | simp only [Array.size_push]) | refine push_lt (by simp only [Array.size_push]; omega) ?_)) rfl⟩
  · exact ⟨w.heap.size + 1 + 1, [⟨#[61, 52, 49]⟩], rfl, by decide, by decide, by omega, row_of_block (C := #[.string ⟨#[61, 52, 49]⟩]) (t := 9) (by show (((((((((w.heap.push _).push _).push _).push _).push _).push _).push _).push _) : Array Obj)[_]? = _; repeat (first | exact push_eq (by first | rfl | simp only [Array.size_push]) | refine push_lt (by simp only [Array.size_push]; omega) ?_)) rfl⟩
  · exact ⟨w.heap.size + 1 + 1 + 1, [⟨#[97, 61]⟩], rfl, by decide, by decide, by omega, row_of_block (C := #[.string ⟨#[97, 61]⟩]) (t := 9) (by show (((((((((w.heap.push _).push _).push _).push _).push _).push _).push _).push _) : Array Obj)[_]? = _; repeat (first | exact push_eq (by first | rfl | simp only [Array.size_push]) | refine push_lt (by simp only [Array.size_push]; omega) ?_)) rfl⟩
  · exact ⟨w.heap.size + 1 + 1 + 1 + 1, [⟨#[97, 61]⟩, ⟨#[98]⟩], rfl, by decide, by decide, by omega, row_of_block (C := #[.string ⟨#[97, 61]⟩, .string ⟨#[98]⟩]) (t := 9) (by show (((((((((w.heap.push _).push _).push _).push _).push _).push _).push _).push _) : Array Obj)[_]? = _; repeat (first | exact push_eq (by first | rfl | simp only [Array.size_push]) | refine push_lt (by simp only [Array.size_push]; omega) ?_)) rfl⟩
  · exact ⟨w.heap.size + 1 + 1 + 1 + 1 + 1, [⟨#[97, 32, 98]⟩], rfl, by decide, by decide, by omega, row_of_block (C := #[.string ⟨#[97, 32, 98]⟩]) (t := 9) (by show (((((((((w.heap.push _).push _).push _).push _).push _).push _).push _).push _) : Array Obj)[_]? = _; repeat (first | exact push_eq (by first | rfl | simp only [Array.size_push]) | refine push_lt (by simp only [Array.size_push]; omega) ?_)) rfl⟩
  · exact ⟨w.heap.size + 1 + 1 + 1 + 1 + 1 + 1, [⟨#[61, 51]⟩], rfl, by decide, by decide, by omega, row_of_block (C := #[.string ⟨#[61, 51]⟩]) (t := 9) (by show (((((((((w.heap.push _).push _).push _).push _).push _).push _).push _).push _) : Array Obj)[_]? = _; repeat (first | exact push_eq (by first | rfl | simp only [Array.size_push]) | refine push_lt (by simp only [Array.size_push]; omega) ?_)) rfl⟩
  · exact ⟨w.heap.size + 1 + 1 + 1 + 1 + 1 + 1 + 1, [⟨#[61, 71, 48]⟩], rfl, by decide, by decide, by omega, row_of_block (C := #[.string ⟨#[61, 71, 48]⟩]) (t := 9) (by show (((((((((w.heap.push _).push _).push _).push _).push _).push _).push _).push _) : Array Obj)[_]? = _; repeat (first | exact push_eq (by first | rfl | simp only [Array.size_push]) | refine push_lt (by simp only [Array.size_push]; omega) ?_)) rfl⟩

set_option maxRecDepth 100000 in
set_option maxHeartbeats 1600000 in
theorem draw_ReadSoft (w : World) (a : Option Addr) (n c : Nat) (f : Nat → UInt8) (hb : BytesAt w a n f) (hc : n ≤ c) (hc' : c ≤ 9223372036854775807) :
    Calls Try.prog 20 #[.slice a n c] w (DrawLines w) := by
  have HB := Lib.hid hb; clear hb
  go_enter Try.func20, Try.ntmps20
  go_wp2_with fail
  refine (open_any _ _ _ _ _ HB.out hc hc').mono ?_
  rintro e w1 ⟨rfl, hb1, hr1⟩
  have HB1 := Lib.hid hb1
  clear hb1 HB
  go_wp2_with fail
  refine (raw_any _ _ _ 40 hr1 (by omega) (by omega)).mono ?_
  rintro e w2 ⟨v2, b, rfl, hbl, o2, hg2, hr2⟩
  obtain ⟨a2, c2, rfl, r2, k2, k2', _⟩ := own_formn o2
  have R2 := Lib.hid r2
  have HR2 := Lib.hid hr2
  have B2 := Lib.hid (HB1.out.trans (below_of_grown hg2 HB1.out.size (by intro q hq; injection hq with hq; omega)))
  clear hr1 hg2 hr2 o2 r2
  go_wp2_with fail
  refine (spec_SoftLines _ _ _ b _ R2.out rfl (by omega)).mono ?_
  rintro e w3 ⟨v3, rfl, o3, b3⟩
  obtain ⟨a3, c3, rfl, _, k3, k3', _⟩ := own_formn o3
  have O3 := Lib.hid o3
  have B3 := Lib.hid (B2.out.trans (b3.mono B2.out.size))
  have HR3 := Lib.hid (HR2.out.kept (grown_of_below b3 none) (by simp))
  have S3 := Lib.hid b3.size
  have hRl := HR2.out.lt
  clear o3 b3
  have hsl := softL_len b
  have htx := Lib.hid (softL_text b)
  have hne := Lib.hid (softL_pos (b := b) (by omega))
  generalize softL b = X at *
  go_wp2_with fail
  refine (odd_any _ _ _ _ HR3.out (by omega) (by omega) (by omega)).mono ?_
  rintro e w4 ⟨b4, rfl, hg4, hr4⟩
  have O4 := Lib.hid (own_R O3.out hg4 hRl)
  have B4 := Lib.hid (B3.out.trans (below_of_grown hg4 B3.out.size (by intro q hq; injection hq with hq; have := HB1.out.size; omega)))
  have s4 := hg4.size
  clear hg4
  have htx2 : ∀ s ∈ X, s.size ≤ 22 := fun s hs => by have := (htx.out s hs).1; omega
  have HX2 := Lib.hid htx2
  clear htx2
  cases b4
  · go_wp2
    go_ret
    exact ⟨a3, c3, X, rfl, by omega, k3, k3', fun e => by subst e; exact own_none O4.out, HX2.out, own_formn_row O4.out, B4.out⟩
  · go_wp2_with fail
    refine (pick_any _ _ _ _ hr4 (by omega) (by omega) (by omega)).mono ?_
    rintro e w5 ⟨v5, rfl, hv5, hg5, hr5⟩
    have O5 := Lib.hid (own_R O4.out hg5 (by have := HB1.out.size; have := B2.out.size; omega))
    have B5 := Lib.hid (B4.out.trans (below_of_grown hg5 B4.out.size (by intro q hq; injection hq with hq; have := HB1.out.size; omega)))
    have s5 := hg5.size
    have s2 := B2.out.size
    have s3 := S3.out
    have s1 := HB1.out.size
    clear hg5
    have hv4 : v5 = 0 ∨ v5 = 1 ∨ v5 = 2 ∨ v5 = 3 := by omega
    rcases hv4 with rfl | rfl | rfl | rfl
    · go_wp2_with fail
      refine (pick_any _ _ _ _ (((((((((hr5.alloc_ _).alloc_ _).alloc_ _).alloc_ _).alloc_ _).alloc_ _).alloc_ _).alloc_ _).alloc_ _) (by omega) (by omega) (by omega)).mono ?_
      rintro e w6 ⟨v6, rfl, hv6, hg6, hr6⟩
      have hv8 : v6 < 8 := by omega
      obtain ⟨y, hy, b, L, rfl, hL, hs, hB, hrow⟩ := lit_at hg6 (by simp only [World.size_alloc]; intro e; injection e with e; omega) (bad_lits w5) v6 (by simpa using hv8)
      have RW := Lib.hid ((hrow.below (Nat.le_refl _) ((Below.refl _ _).alloc (Nat.le_refl _) _)).grown hg6 (fun k x hk hx => by injection hk with hk; injection hx with hx; subst hx; show b ≠ k; omega))
      have BW : Hid (Below w.heap.size w w6) := (((((((((((B5.out.alloc B5.out.size _).alloc (by simp only [World.size_alloc]; have := B5.out.size; omega) _).alloc (by simp only [World.size_alloc]; have := B5.out.size; omega) _).alloc (by simp only [World.size_alloc]; have := B5.out.size; omega) _).alloc (by simp only [World.size_alloc]; have := B5.out.size; omega) _).alloc (by simp only [World.size_alloc]; have := B5.out.size; omega) _).alloc (by simp only [World.size_alloc]; have := B5.out.size; omega) _).alloc (by simp only [World.size_alloc]; have := B5.out.size; omega) _).alloc (by simp only [World.size_alloc]; have := B5.out.size; omega) _)).grown hg6 (by simp only [World.size_alloc]; have := B5.out.size; omega) (by intro q hq; injection hq with hq; omega))
      simp only [World.size_alloc] at hy
      clear hg6 hr6 hrow
      go_wp2
      go_ret
      exact ⟨_, _, L, rfl, by omega, Nat.le_refl _, by omega, (by intro e; cases e), hs, RW.out, BW.out⟩
    · go_wp2_with (at_builtin; refine wpList_pushS (.tmp 37) (.tmp 38) w2.heap.size ⟨#[]⟩ _ X.length X O5.out (by omega) (by omega) rfl (by rfl) (by rfl) w5.heap.size rfl (by rfl) ?_; intro v7 w7 o7 b7; have O7 := Lib.hid o7; have B7 := Lib.hid (B5.out.trans (b7.mono (by omega))); clear o7 b7)
      go_ret
      obtain ⟨a7, c7, rfl, r7, k7, k7', _⟩ := own_formn O7.out
      exact ⟨a7, c7, X ++ [⟨#[]⟩], by simp, by simp; omega, by simpa using k7, k7', fun e => by subst e; exact own_none O7.out, by
        intro s hs
        rcases List.mem_append.1 hs with hs | hs
        · exact HX2.out s hs
        · rw [List.mem_singleton] at hs; subst hs; exact Nat.zero_le _, r7, B7.out⟩
    · obtain ⟨g, c5, hv, hBg, hgl, k5, k5', hcell⟩ := own_at O5.out (by have := hne.out; omega)
      injection hv with hv1 hv2 hv3
      subst hv1; subst hv3
      have hxl := hne.out
      have HCE := Lib.hid hcell
      clear hcell hv2
      by_cases hc1 : c3 = 1
      · subst hc1
        have hx1 : X.length = 1 := by omega
        have HX1 := Lib.hid hx1
        have hxi : (X.length : Int) ≤ 1 := by omega
        clear hx1
        go_wp2
        go_ret
        exact ⟨_, _, [], by first | rfl | (congr 1; rw [HX1.out]; rfl), by simp, by simp, by omega, (by intro e; cases e), by simp, RowAt.nil, B5.out⟩
      · have hc2 : 2 ≤ c3 := by omega
        have hxi : (1 : Int) ≤ (X.length : Int) := by omega
        go_wp2
        go_ret
        exact ⟨some ⟨g, 1, none⟩, c3 - 1, X.drop 1, by rw [List.length_drop]; rfl, by simp; omega, by simp; omega, by omega, (by intro e; cases e), fun s hs => HX2.out s (List.mem_of_mem_drop hs), fun i hi => ⟨g, 1, rfl, hgl, by
          have hi' : i < X.length - 1 := by simpa using hi
          refine HCE.out (1 + i) _ ?_
          rw [List.getElem?_map, List.getElem?_eq_getElem (by omega)]
          simp [Nat.add_comm]⟩, B5.out⟩
    · obtain ⟨g, c5, hv, hBg, hgl, k5, k5', hcell⟩ := own_at O5.out (by have := hne.out; omega)
      injection hv with hv1 hv2 hv3
      subst hv1; subst hv3
      have hxl := hne.out
      have hx0 : X[0]? = some (X.getD 0 ⟨#[]⟩) := by rw [getD_at (by omega), List.getElem?_eq_getElem (by omega)]
      have hc0 : w5.cell? ⟨g, 0, none⟩ = some (.string (X.getD 0 ⟨#[]⟩)) := hcell 0 _ (by rw [List.getElem?_map, hx0]; rfl)
      have hs0 := (htx.out (X.getD 0 ⟨#[]⟩) (List.mem_of_getElem? hx0)).1
      have hxi : (0 : Int) < (X.length : Int) := by omega
      generalize X.getD 0 ⟨#[]⟩ = s0 at hc0 hs0 hx0
      obtain ⟨f0, _, hS, _⟩ := own_setn O5.out 0 (by omega) (.string (s0 ++ ⟨#[97]⟩))
      have e1 : (X.map strV).set 0 (.string (s0 ++ ⟨#[97]⟩)) = (X.set 0 (s0 ++ ⟨#[97]⟩)).map strV := by rw [List.map_set]; rfl
      rw [e1] at hS
      have HSS := Lib.hid hS
      clear hcell hv2 hS e1 hx0
      go_wp2
      go_ret
      exact ⟨some ⟨g, 0, none⟩, c3, X.set 0 (s0 ++ ⟨#[97]⟩), by rw [List.length_set]; rfl, by simp; omega, by simpa using k3, k3', (by intro e; cases e), fun s hs => by
        rcases List.mem_or_eq_of_mem_set hs with hs | hs
        · exact HX2.out s hs
        · subst hs
          rw [ByteArray.size_append]
          show s0.size + 1 ≤ 22
          omega, own_formn_row HSS.out, B5.out.setCell (p := ⟨g, 0, none⟩) (by show _ ≤ g; omega) _⟩
end Go.Proofs.Ytnehdaocfijcpaa
