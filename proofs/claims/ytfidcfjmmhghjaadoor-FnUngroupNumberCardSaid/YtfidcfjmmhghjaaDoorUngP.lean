/- Numbers read back from their groups, plainly. -/
import Derived.Test.YtfidcfjmmhghjaaDoorGrp3
import Derived.Lib.Atoi
import Derived.Lib.AtoiBound
namespace Go.Proofs.YtfidcfjmmhghjaaDoor
open Go.RowKit

def digC (c : UInt8) : Bool := decide (48 ≤ c.toNat ∧ c.toNat ≤ 57)
/-- The digits' value, other bytes passed over. -/
def accN (acc : Nat) : List UInt8 → Nat
  | [] => acc
  | b :: l => accN (if digC b = true then 10 * acc + (b.toNat - 48) else acc) l
def specN (l : List UInt8) : Int := if l.head? = some 45 then -((accN 0 (l.take 9) : Nat) : Int) else ((accN 0 (l.take 9) : Nat) : Int)
def sgBad (sg : UInt8) : Bool := digC sg || decide (sg = 45)
def ungOk (l : List UInt8) (sg : UInt8) : Bool := !sgBad sg && decide (¬ l = []) && decide (grpR (specN l) sg = l)
/-- The number, and whether there is one. -/
def ungR (l : List UInt8) (sg : UInt8) : Int × Bool := if ungOk l sg = true then (specN l, true) else (0, false)
theorem ungR_no {l : List UInt8} {sg : UInt8} (h : ungOk l sg = false) : ungR l sg = (0, false) := by rw [ungR, if_neg (by rw [h]; simp)]
theorem ungR_yes {l : List UInt8} {sg : UInt8} (h : ungOk l sg = true) : ungR l sg = (specN l, true) := by rw [ungR, if_pos h]
theorem accN_app (a b : List UInt8) : ∀ acc, accN acc (a ++ b) = accN (accN acc a) b := by
  induction a with
  | nil => intro acc; rfl
  | cons x a ih => intro acc; exact ih _
theorem accN_skip {sg : UInt8} (h : digC sg = false) (acc : Nat) (l : List UInt8) : accN acc (sg :: l) = accN acc l := by rw [accN, h]; rfl
theorem accN_grp {sg : UInt8} (h : digC sg = false) (d : List UInt8) : accN 0 (grpL sg d) = accN 0 d := by
  unfold grpL
  split
  · rfl
  · rw [accN_app, accN_skip h, ← accN_app, List.take_append_drop]
theorem digit_toNat {k : Nat} (h : k < 10) : (UInt8.ofNat (48 + k)).toNat = 48 + k := by rw [UInt8.toNat_ofNat']; omega
theorem dec_all : ∀ (f u : Nat), u ≤ f → ∀ b ∈ Lib.decDigits u, digC b = true := by
  intro f
  induction f with
  | zero =>
    intro u h b hb
    rw [Lib.decDigits, dif_pos (by omega)] at hb
    rw [List.mem_singleton] at hb; subst hb
    unfold digC; rw [decide_eq_true_iff, digit_toNat (by omega)]; omega
  | succ f ih =>
    intro u h b hb
    rw [Lib.decDigits] at hb
    split at hb
    · rename_i hu
      rw [List.mem_singleton] at hb; subst hb
      unfold digC; rw [decide_eq_true_iff, digit_toNat hu]; omega
    · rcases List.mem_append.1 hb with hb | hb
      · exact ih (u / 10) (by omega) b hb
      · rw [List.mem_singleton] at hb; subst hb
        unfold digC; rw [decide_eq_true_iff, digit_toNat (Nat.mod_lt _ (by omega))]; omega
theorem dec_acc : ∀ (f u : Nat), u ≤ f → accN 0 (Lib.decDigits u) = u := by
  intro f
  induction f with
  | zero =>
    intro u h
    rw [Lib.decDigits, dif_pos (by omega)]
    have : u = 0 := by omega
    subst this; rfl
  | succ f ih =>
    intro u h
    rw [Lib.decDigits]
    split
    · rename_i hu
      have hd : digC (UInt8.ofNat (48 + u)) = true := by unfold digC; rw [decide_eq_true_iff, digit_toNat hu]; omega
      rw [accN, hd, if_pos rfl, accN, digit_toNat hu]; omega
    · have hm : u % 10 < 10 := Nat.mod_lt _ (by omega)
      have hd : digC (UInt8.ofNat (48 + u % 10)) = true := by unfold digC; rw [decide_eq_true_iff, digit_toNat hm]; omega
      rw [accN_app, ih (u / 10) (by omega), accN, hd, if_pos rfl, accN, digit_toNat hm]; omega
theorem decFrom_acc : ∀ (l : List UInt8) (acc : Nat), (∀ b ∈ l, digC b = true) → Lib.decFrom acc l = some (accN acc l) := by
  intro l
  induction l with
  | nil => intro acc _; rfl
  | cons b l ih =>
    intro acc h
    have hb := h b (by simp)
    have hb' := hb
    unfold digC at hb'
    rw [decide_eq_true_iff] at hb'
    rw [Lib.decFrom, Lib.digitVal, if_pos hb', accN, hb, if_pos rfl]
    show Lib.decFrom (acc * 10 + (b.toNat - 48)) l = _
    rw [Nat.mul_comm]
    exact ih _ (fun x hx => h x (by simp [hx]))
theorem filt_dec {sg : UInt8} (h : digC sg = false) (d : List UInt8) (hd : ∀ b ∈ d, digC b = true) : (d.flatMap fun x => if x = sg then [] else [x]) = d := by
  induction d with
  | nil => rfl
  | cons b d ih =>
    have hb : ¬ b = sg := fun e => by have := hd b (by simp); rw [e, h] at this; cases this
    rw [List.flatMap_cons, if_neg hb, ih (fun x hx => hd x (by simp [hx]))]; rfl
theorem filt_grp {sg : UInt8} (h : digC sg = false) (d : List UInt8) (hd : ∀ b ∈ d, digC b = true) : ((grpL sg d).flatMap fun x => if x = sg then [] else [x]) = d := by
  unfold grpL
  split
  · exact filt_dec h d hd
  · rw [List.flatMap_append, List.flatMap_cons, if_pos rfl, List.nil_append, filt_dec h _ (fun b hb => hd b (List.mem_of_mem_take hb)), filt_dec h _ (fun b hb => hd b (List.mem_of_mem_drop hb)), List.take_append_drop]
theorem grpL_len {sg : UInt8} {d : List UInt8} (h : d.length ≤ 6) : (grpL sg d).length ≤ 7 := by
  unfold grpL
  split
  · omega
  · simp; omega
theorem grpL_head {sg : UInt8} {d : List UInt8} (h : 1 ≤ d.length) (hd : ∀ b ∈ d, digC b = true) : ¬ (grpL sg d).head? = some 45 := by
  have h0 : ∀ b : UInt8, digC b = true → ¬ b = 45 := fun b hb e => by subst e; exact absurd hb (by decide)
  rcases d with _ | ⟨x, d⟩
  · simp at h
  · unfold grpL
    split
    · simpa using h0 x (hd x (by simp))
    · rename_i hl
      have : (x :: d).length - 3 = (d.length - 3) + 1 := by simp only [List.length_cons] at hl ⊢; omega
      rw [this, List.take_succ_cons]
      simpa using h0 x (hd x (by simp))
/-- What a grouped number says. -/
theorem grp_back {n : Int} {sg : UInt8} (hs : sgBad sg = false) (hne : grpR n sg ≠ []) : specN (grpR n sg) = n ∧ Lib.atoi ((grpR n sg).flatMap fun x => if x = sg then [] else [x]) = some n ∧ (grpR n sg).length ≤ 8 := by
  unfold sgBad at hs
  rw [Bool.or_eq_false_iff, decide_eq_false_iff_not] at hs
  obtain ⟨hd, h45⟩ := hs
  have hok : -999999 ≤ n ∧ n ≤ 999999 ∧ 32 ≤ sg.toNat ∧ sg.toNat ≤ 126 := Classical.byContradiction fun h => hne (grpR_no h)
  rw [grpR_yes hok]
  have hu6 : n.natAbs ≤ 999999 := by omega
  have hall := dec_all _ n.natAbs (Nat.le_refl _)
  have hacc := dec_acc _ n.natAbs (Nat.le_refl _)
  have hl6 := dec_len6 hu6
  have hl1 := dec_pos n.natAbs
  generalize Lib.decDigits n.natAbs = d at *
  have hgl := grpL_len (sg := sg) hl6
  have hg := accN_grp hd d
  have hf := filt_grp hd d hall
  have hdn : Lib.decNat d = some n.natAbs := by
    rw [Lib.decNat, if_neg (by rw [List.isEmpty_iff]; intro e; rw [e] at hl1; simp at hl1), decFrom_acc d 0 hall, hacc]
  by_cases hneg : n < 0
  · rw [if_pos hneg]
    have e : [(45 : UInt8)] ++ grpL sg d = 45 :: grpL sg d := rfl
    have h9 : (45 :: grpL sg d).take 9 = 45 :: grpL sg d := List.take_of_length_le (by simp; omega)
    refine ⟨?_, ?_, by simp; omega⟩
    · rw [e, specN, if_pos (show (45 :: grpL sg d).head? = some 45 from rfl), h9, accN_skip (by decide), hg, hacc]; omega
    · rw [e, List.flatMap_cons, if_neg (fun e => h45 e.symm), hf]
      show Lib.atoi (45 :: d) = _
      rw [Lib.atoi, if_pos (by rfl), hdn]
      show some (-((n.natAbs : Nat) : Int)) = some n
      rw [show -((n.natAbs : Nat) : Int) = n by omega]
  · rw [if_neg hneg, List.nil_append]
    have h9 : (grpL sg d).take 9 = grpL sg d := List.take_of_length_le (by omega)
    refine ⟨?_, ?_, by omega⟩
    · rw [specN, if_neg (grpL_head hl1 hall), h9, hg, hacc]; omega
    · rw [hf]
      rcases d with _ | ⟨x, d⟩
      · simp at hl1
      · have hx := hall x (by simp)
        have h1 : (x == 45) = false := by rw [beq_eq_false_iff_ne]; intro e; subst e; exact absurd hx (by decide)
        have h2 : (x == 43) = false := by rw [beq_eq_false_iff_ne]; intro e; subst e; exact absurd hx (by decide)
        rw [Lib.atoi, h1, if_neg (by simp), h2, if_neg (by simp), hdn]
        show some ((n.natAbs : Nat) : Int) = some n
        rw [show ((n.natAbs : Nat) : Int) = n by omega]
/-- The program's answers are these. -/
theorem ung_bad {l : List UInt8} {sg : UInt8} (h : sgBad sg = true ∨ l = [] ∨ 8 < l.length ∨ Lib.atoi (l.flatMap fun x => if x = sg then [] else [x]) = none) : ungR l sg = (0, false) := by
  refine ungR_no ?_
  rcases hb : ungOk l sg with _ | _
  · rfl
  · exfalso
    unfold ungOk at hb
    rw [Bool.and_eq_true, Bool.and_eq_true, decide_eq_true_iff, decide_eq_true_iff] at hb
    obtain ⟨⟨h1, h2⟩, h3⟩ := hb
    have h1' : sgBad sg = false := by simpa using h1
    obtain ⟨_, g2, g3⟩ := grp_back (n := specN l) h1' (by rw [h3]; exact h2)
    rw [h3] at g2 g3
    rcases h with h | h | h | h
    · rw [h] at h1'; cases h1'
    · exact h2 h
    · omega
    · rw [h] at g2; cases g2
theorem ung_at {l : List UInt8} {sg : UInt8} {n : Int} (hs : sgBad sg = false) (hl : ¬ l = []) (ha : Lib.atoi (l.flatMap fun x => if x = sg then [] else [x]) = some n) : ungR l sg = if grpR n sg = l then (n, true) else (0, false) := by
  by_cases hg : grpR n sg = l
  · rw [if_pos hg]
    obtain ⟨g1, _, _⟩ := grp_back (n := n) hs (by rw [hg]; exact hl)
    rw [hg] at g1
    have : ungOk l sg = true := by
      unfold ungOk
      rw [hs, g1, hg, decide_eq_true hl, decide_eq_true rfl]; rfl
    rw [ungR_yes this, g1]
  · rw [if_neg hg]
    refine ungR_no ?_
    rcases hb : ungOk l sg with _ | _
    · rfl
    · exfalso
      unfold ungOk at hb
      rw [Bool.and_eq_true, Bool.and_eq_true, decide_eq_true_iff, decide_eq_true_iff] at hb
      obtain ⟨⟨_, h2⟩, h3⟩ := hb
      obtain ⟨_, g2, _⟩ := grp_back (n := specN l) hs (by rw [h3]; exact h2)
      rw [h3, ha] at g2
      injection g2 with g2
      rw [← g2] at h3
      exact hg h3
end Go.Proofs.YtfidcfjmmhghjaaDoor
