/- Cutting a statement, plainly; the place behind a text between quotes, by the reference. -/
import Derived.Test.YtoajdkcdjdbliaaDoorPush
import Derived.Test.YtoajdkcdjdbliaaDoorHas
namespace Go.Proofs.YtoajdkcdjdbliaaDoor
open Go.RowKit

/-- Inside a text or not; what is written now; the texts; what stood between. -/
abbrev StC := Bool × List UInt8 × List (List UInt8) × List (List UInt8)
def stepL (st : StC) (x : UInt8) : StC :=
  if x = 39 then (if st.1 = true then (false, [], st.2.2.1 ++ [st.2.1], st.2.2.2) else (true, [], st.2.2.1, st.2.2.2 ++ [st.2.1]))
  else (st.1, st.2.1 ++ [x], st.2.2.1, st.2.2.2)
def cutT : StC → List UInt8 → StC
  | st, [] => st
  | st, [x] => stepL st x
  | st, x :: y :: r => if x = 39 ∧ st.1 = true ∧ y = 39 then cutT (st.1, st.2.1 ++ [39], st.2.2.1, st.2.2.2) r else cutT (stepL st x) (y :: r)
def cut0 (l : List UInt8) : StC := cutT (false, [], [], []) l
theorem cutT_double (st : StC) (h : st.1 = true) (r : List UInt8) : cutT st (39 :: 39 :: r) = cutT (st.1, st.2.1 ++ [39], st.2.2.1, st.2.2.2) r := by rw [cutT, if_pos ⟨rfl, h, rfl⟩]
theorem cutT_step (st : StC) (x : UInt8) (r : List UInt8) (h : ¬ (x = 39 ∧ st.1 = true ∧ r.head? = some 39)) : cutT st (x :: r) = cutT (stepL st x) r := by
  rcases r with _ | ⟨y, r⟩
  · rw [cutT, cutT]
  · rw [cutT, if_neg (fun e => h ⟨e.1, e.2.1, by rw [e.2.2]; rfl⟩)]
def nxt : List UInt8 → Option Nat
  | [] => none
  | [x] => if x = 39 then some 1 else none
  | x :: y :: r => if x = 39 then (if y = 39 then (nxt r).map (· + 2) else some 1) else (nxt (y :: r)).map (· + 1)
theorem nxt_ne {x : UInt8} (r : List UInt8) (h : ¬ x = 39) : nxt (x :: r) = (nxt r).map (· + 1) := by
  rcases r with _ | ⟨y, r⟩
  · simp [nxt, h]
  · simp [nxt, h]
theorem nxt_dd (r : List UInt8) : nxt (39 :: 39 :: r) = (nxt r).map (· + 2) := by rw [nxt, if_pos rfl, if_pos rfl]
theorem nxt_hit (r : List UInt8) (h : ¬ r.head? = some 39) : nxt (39 :: r) = some 1 := by
  rcases r with _ | ⟨y, r⟩
  · rw [nxt, if_pos rfl]
  · rw [nxt, if_pos rfl, if_neg (fun e => h (by rw [e]; rfl))]
theorem cut_none : ∀ (n : Nat) (l : List UInt8), l.length ≤ n → nxt l = none → ∀ st : StC, st.1 = true → (cutT st l).1 = true := by
  intro n
  induction n with
  | zero =>
    intro l hl _ st hs
    have := List.eq_nil_of_length_eq_zero (Nat.le_zero.1 hl)
    subst this
    rw [cutT]; exact hs
  | succ n ih =>
    intro l hl hn st hs
    rcases l with _ | ⟨x, r⟩
    · rw [cutT]; exact hs
    · by_cases hx : x = 39
      · subst hx
        rcases r with _ | ⟨y, r⟩
        · rw [nxt, if_pos rfl] at hn; cases hn
        · by_cases hy : y = 39
          · subst hy
            rw [nxt_dd, Option.map_eq_none_iff] at hn
            rw [cutT_double st hs]
            exact ih r (by simp only [List.length_cons] at hl; omega) hn _ hs
          · rw [nxt_hit _ (by simpa using hy)] at hn; cases hn
      · rw [nxt_ne r hx, Option.map_eq_none_iff] at hn
        rw [cutT_step st x r (fun e => hx e.1)]
        refine ih r (by simp only [List.length_cons] at hl; omega) hn _ ?_
        unfold stepL
        rw [if_neg hx]
        exact hs
/-- The place behind the text that is open at k. -/
def np (s : ByteArray) (k : Nat) : Option Nat := (nxt ((bl s).drop k)).map (· + k)
theorem head_drop (s : ByteArray) (k : Nat) : ((bl s).drop k).head? = some 39 ↔ ∃ h : k < s.size, s[k] = 39 := by
  by_cases h : k < s.size
  · rw [bl_drop s k h]
    simp [h]
  · rw [List.drop_eq_nil_of_le (by rw [bl_len]; omega)]
    simp [h]
theorem np_end {s : ByteArray} {k : Nat} (h : s.size ≤ k) : np s k = none := by unfold np; rw [List.drop_eq_nil_of_le (by rw [bl_len]; omega)]; rfl
theorem np_ne {s : ByteArray} {k : Nat} (h : k < s.size) (hx : ¬ s[k] = 39) : np s k = np s (k + 1) := by
  unfold np
  rw [bl_drop s k h, nxt_ne _ hx]
  cases nxt ((bl s).drop (k + 1)) <;> simp; omega
theorem np_dd {s : ByteArray} {k : Nat} (h : k + 1 < s.size) (hx : s[k] = 39) (hy : s[k + 1] = 39) : np s k = np s (k + 2) := by
  unfold np
  rw [bl_drop s k (by omega), bl_drop s (k + 1) h, hx, hy, nxt_dd]
  cases nxt ((bl s).drop (k + 2)) <;> simp; omega
theorem np_hit {s : ByteArray} {k : Nat} (h : k < s.size) (hx : s[k] = 39) (hn : ¬ ∃ h : k + 1 < s.size, s[k + 1] = 39) : np s k = some (k + 1) := by
  unfold np
  rw [bl_drop s k h, hx, nxt_hit _ (fun e => hn ((head_drop s (k + 1)).1 e))]
  simp; omega
theorem np_some {s : ByteArray} {k e : Nat} (hp : np s k = some e) : k < s.size := by
  rcases Nat.lt_or_ge k s.size with h | h
  · exact h
  · rw [np_end h] at hp; cases hp
def npV (o : Option Nat) : Int := match o with | none => -1 | some n => (n : Int)

set_option maxHeartbeats 400000 in
theorem spec_l36Next (s : ByteArray) (p : Nat) (w : World) (hs : s.size ≤ 1099511627776) (hp : p ≤ 1099511627776) :
    Calls Tryd.prog 34 #[.string s, .int .i64 (p : Int)] w fun e w' => e = .returned (.int .i64 (npV (np s (p + 1)))) ∧ w = w' := by
  go_enter Tryd.func34, Tryd.ntmps34
  go_wp2
  go_loop [5] (fun t => ∃ k : Nat, p + 1 ≤ k ∧ k ≤ s.size + p + 2 ∧ t = .int .i64 (k : Int) ∧ Hid (np s k = np s (p + 1))) (fun t => s.size + p + 3 - (intOf t).toNat)
  case atStart => exact ⟨p + 1, Nat.le_refl _, by omega, by go_num, rfl⟩
  case round =>
    obtain ⟨k, hk1, hk2, rfl, HP⟩ := hrel
    by_cases hks : k < s.size
    · by_cases hx : s[k] = 39
      · have b1 : ((s[k].toNat : Int) != 39) = false := by rw [hx]; rfl
        by_cases hy : ∃ h : k + 1 < s.size, s[k + 1] = 39
        · obtain ⟨h1, h2⟩ := hy
          have HP2 : Hid (np s (k + 2) = np s (p + 1)) := by rw [← HP.out, np_dd h1 hx h2]; rfl
          have b2 : ((s[k + 1].toNat : Int) == 39) = true := by rw [h2]; rfl
          clear hx h2
          go_wp2
          go_round
          case rel => exact ⟨k + 2, by omega, by omega, by go_num, HP2⟩
          case measure => simp [intOf]; omega
        · have HR : Hid (npV (np s (p + 1)) = (k : Int) + 1) := by rw [← HP.out, np_hit hks hx hy]; show ((k + 1 : Nat) : Int) = _; omega
          by_cases h1 : k + 1 < s.size
          · have b2 : ((s[k + 1].toNat : Int) == 39) = false := by
              rw [beq_eq_false_iff_ne]; intro e; exact hy ⟨h1, UInt8.toNat_inj.1 (by have : (39 : UInt8).toNat = 39 := rfl; omega)⟩
            clear hx hy
            go_wp2
            go_ret
            exact ⟨ret_i64 HR.out.symm, rfl⟩
          · have b3 : decide ((k : Int) + 1 < (s.size : Int)) = false := by simp; omega
            clear hx hy
            go_wp2
            go_ret
            exact ⟨ret_i64 HR.out.symm, rfl⟩
      · have b1 : ((s[k].toNat : Int) != 39) = true := by
          rw [bne_iff_ne]; intro e; exact hx (UInt8.toNat_inj.1 (by have : (39 : UInt8).toNat = 39 := rfl; omega))
        have HP2 : Hid (np s (k + 1) = np s (p + 1)) := by rw [← HP.out, np_ne hks hx]; rfl
        clear hx
        go_wp2
        go_round
        case rel => exact ⟨k + 1, by omega, by omega, by go_num, HP2⟩
        case measure => simp [intOf]; omega
    · have HR : Hid (npV (np s (p + 1)) = -1) := by rw [← HP.out, np_end (by omega)]; rfl
      go_wp2
      go_ret
      exact ⟨ret_i64 HR.out.symm, rfl⟩

theorem cut_step {s : ByteArray} {k : Nat} (h : k < s.size) (st : StC) (hn : ¬ (s[k] = 39 ∧ st.1 = true ∧ ∃ h : k + 1 < s.size, s[k + 1] = 39)) : cutT st ((bl s).drop k) = cutT (stepL st s[k]) ((bl s).drop (k + 1)) := by
  rw [bl_drop s k h]
  exact cutT_step st _ _ (fun e => hn ⟨e.1, e.2.1, (head_drop s (k + 1)).1 e.2.2⟩)
theorem cut_double {s : ByteArray} {k : Nat} (h : k + 1 < s.size) (hx : s[k] = 39) (hy : s[k + 1] = 39) (st : StC) (hi : st.1 = true) : cutT st ((bl s).drop k) = cutT (st.1, st.2.1 ++ [39], st.2.2.1, st.2.2.2) ((bl s).drop (k + 2)) := by
  rw [bl_drop s k (by omega), bl_drop s (k + 1) h, hx, hy]
  exact cutT_double st hi _
theorem cut_end {s : ByteArray} {k : Nat} (h : s.size ≤ k) (st : StC) : cutT st ((bl s).drop k) = st := by rw [List.drop_eq_nil_of_le (by rw [bl_len]; omega), cutT]
def textsR (l : List UInt8) : List ByteArray × Bool := if textB l = true ∧ (cut0 l).1 = false then ((cut0 l).2.2.1.map mkS, true) else ([], false)
theorem textsR_bad {l : List UInt8} (h : textB l = false) : textsR l = ([], false) := by unfold textsR; rw [if_neg (by simp [h])]
theorem textsR_open {l : List UInt8} (h : (cut0 l).1 = true) : textsR l = ([], false) := by unfold textsR; rw [if_neg (by simp [h])]
theorem textsR_yes {l : List UInt8} (h : textB l = true) {st : StC} (h2 : cut0 l = st) (h3 : st.1 = false) : textsR l = (st.2.2.1.map mkS, true) := by unfold textsR; rw [h2, if_pos ⟨h, h3⟩]
end Go.Proofs.YtoajdkcdjdbliaaDoor
