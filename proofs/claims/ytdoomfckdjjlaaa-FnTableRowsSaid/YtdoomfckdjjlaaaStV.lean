/- impl.StateValid (printed by gen_stv.py). -/
import Derived.Test.YtdoomfckdjjlaaaLonger
namespace Go.Proofs.Ytdoomfckdjjlaaa
open Go.RowKit

def stTag (s : St) : Bool := if 2 ≤ s.M ∧ s.M ≤ 8 then nameB s.T else if s.M = 9 then (s.T.isEmpty || nameB s.T) else s.T.isEmpty
def stAttr (s : St) : Bool := if 4 ≤ s.M ∧ s.M ≤ 8 then nameB s.A else s.A.isEmpty
def stSeen (s : St) : Bool := if s.M = 6 ∨ s.M = 7 then true else if s.M = 8 then s.E else !s.E
/-- A valid state. -/
def stValid (s : St) : Bool := decide (s.M ≤ 15) && (stTag s && stAttr s && stSeen s)
theorem emp_mkS (l : List UInt8) : (mkS l).toList.isEmpty = l.isEmpty := by rw [ByteArray.toList_eq]; rfl
theorem int_beq {M n : Nat} (h : M ≠ n) : ((M : Int) == (n : Int)) = false := by simp; omega
set_option maxRecDepth 100000 in
set_option maxHeartbeats 6400000 in
theorem impl_StateValid (s : St) (w : World) (hT : s.T.length ≤ 1000) (hA : s.A.length ≤ 1000) :
    Calls Try.prog 69 #[stV s] w fun e w' => e = .returned (.bool (stValid s)) ∧ Below w.heap.size w w' := by
  obtain ⟨M, T, A, E⟩ := s
  simp only at hT hA
  have HB := Lib.hid (fun o => (Below.refl w.heap.size w).alloc (Nat.le_refl _) o)
  have hst : stV ⟨M, T, A, E⟩ = .agg #[.int .i64 (M : Int), .string (mkS T), .string (mkS A), .bool E] := rfl
  rw [hst]
  clear hst
  have CT := fun W => impl_NameValid (mkS T) W (by rw [mkS_size]; omega)
  have CA := fun W => impl_NameValid (mkS A) W (by rw [mkS_size]; omega)
  rw [bl_mkS] at CT CA
  have h0 : ¬ (M : Int) < 0 := by omega
  by_cases hM : 15 < M
  · have HR : Hid (stValid ⟨M, T, A, E⟩ = false) := by show _ = _; unfold stValid; rw [decide_eq_false (by simp only; omega)]; rfl
    have h2 : (15 : Int) < (M : Int) := by omega
    clear CT CA
    go_enter Try.func69, Try.ntmps69
    go_wp2
    go_ret
    exact ⟨by rw [HR.out]; rfl, HB.out _⟩
  have h15 : ¬ (15 : Int) < (M : Int) := by omega
  have ht := emp_mkS T
  have ha := emp_mkS A
  have HR : Hid (stValid ⟨M, T, A, E⟩ = (stTag ⟨M, T, A, E⟩ && stAttr ⟨M, T, A, E⟩ && stSeen ⟨M, T, A, E⟩)) := by show _ = _; unfold stValid; rw [decide_eq_true (by simp only; omega)]; rfl
  obtain ⟨e0, he0⟩ : ∃ e0, T.isEmpty = e0 := ⟨_, rfl⟩
  obtain ⟨e1, he1⟩ : ∃ e1, A.isEmpty = e1 := ⟨_, rfl⟩
  obtain ⟨n0, hn0⟩ : ∃ n0, nameB T = n0 := ⟨_, rfl⟩
  obtain ⟨n1, hn1⟩ : ∃ n1, nameB A = n1 := ⟨_, rfl⟩
  have HT : Hid (stTag ⟨M, T, A, E⟩ = if 2 ≤ M ∧ M ≤ 8 then n0 else if M = 9 then (e0 || n0) else e0) := by show _ = _; unfold stTag; rw [hn0, he0]
  have HA : Hid (stAttr ⟨M, T, A, E⟩ = if 4 ≤ M ∧ M ≤ 8 then n1 else e1) := by show _ = _; unfold stAttr; rw [hn1, he1]
  have HS : Hid (stSeen ⟨M, T, A, E⟩ = if M = 6 ∨ M = 7 then true else if M = 8 then E else !E) := rfl
  rw [HT.out, HA.out, HS.out] at HR
  rw [he0] at ht
  rw [he1] at ha
  rw [hn0] at CT
  rw [hn1] at CA
  have CT2 := Lib.hid CT
  have CA2 := Lib.hid CA
  clear CT CA he0 he1 hn0 hn1 HT HA HS hT hA
  have hcl : M < 2 ∨ (2 ≤ M ∧ M < 4) ∨ (4 ≤ M ∧ M < 6) ∨ M = 6 ∨ M = 7 ∨ M = 8 ∨ M = 9 ∨ 9 < M := by omega
  rcases hcl with hc | hc | hc | rfl | rfl | rfl | rfl | hc
  · have b2 : ¬ (2 : Int) ≤ (M : Int) := by omega
    have b4 : ¬ (4 : Int) ≤ (M : Int) := by omega
    have q9 : ((M : Int) == 9) = false := int_beq (n := 9) (by omega)
    have q6 : ((M : Int) == 6) = false := int_beq (n := 6) (by omega)
    have q7 : ((M : Int) == 7) = false := int_beq (n := 7) (by omega)
    have q8 : ((M : Int) == 8) = false := int_beq (n := 8) (by omega)
    rw [if_neg (by omega), if_neg (by omega), if_neg (by omega), if_neg (by omega), if_neg (by omega)] at HR
    cases e0
    · go_enter Try.func69, Try.ntmps69
      go_wp2
      go_ret
      exact ⟨by rw [HR.out]; rfl, HB.out _⟩
    · cases e1
      · go_enter Try.func69, Try.ntmps69
        go_wp2
        go_ret
        exact ⟨by rw [HR.out]; rfl, HB.out _⟩
      · go_enter Try.func69, Try.ntmps69
        go_wp2
        go_ret
        exact ⟨by rw [HR.out]; rfl, HB.out _⟩
  · have b2 : (2 : Int) ≤ (M : Int) := by omega
    have b3 : (M : Int) ≤ 8 := by omega
    have b4 : ¬ (4 : Int) ≤ (M : Int) := by omega
    have q9 : ((M : Int) == 9) = false := int_beq (n := 9) (by omega)
    have q6 : ((M : Int) == 6) = false := int_beq (n := 6) (by omega)
    have q7 : ((M : Int) == 7) = false := int_beq (n := 7) (by omega)
    have q8 : ((M : Int) == 8) = false := int_beq (n := 8) (by omega)
    rw [if_pos (by omega), if_neg (by omega), if_neg (by omega), if_neg (by omega)] at HR
    cases n0
    · go_enter Try.func69, Try.ntmps69
      go_wp2_with fail
      refine (CT2.out _).mono ?_
      rintro e w1 ⟨rfl, rfl⟩
      go_wp2
      go_ret
      exact ⟨by rw [HR.out]; rfl, HB.out _⟩
    · cases e1
      · go_enter Try.func69, Try.ntmps69
        go_wp2_with fail
        refine (CT2.out _).mono ?_
        rintro e w1 ⟨rfl, rfl⟩
        go_wp2
        go_ret
        exact ⟨by rw [HR.out]; rfl, HB.out _⟩
      · go_enter Try.func69, Try.ntmps69
        go_wp2_with fail
        refine (CT2.out _).mono ?_
        rintro e w1 ⟨rfl, rfl⟩
        go_wp2
        go_ret
        exact ⟨by rw [HR.out]; rfl, HB.out _⟩
  · have b2 : (2 : Int) ≤ (M : Int) := by omega
    have b3 : (M : Int) ≤ 8 := by omega
    have b4 : (4 : Int) ≤ (M : Int) := by omega
    have q9 : ((M : Int) == 9) = false := int_beq (n := 9) (by omega)
    have q6 : ((M : Int) == 6) = false := int_beq (n := 6) (by omega)
    have q7 : ((M : Int) == 7) = false := int_beq (n := 7) (by omega)
    have q8 : ((M : Int) == 8) = false := int_beq (n := 8) (by omega)
    rw [if_pos (by omega), if_pos (by omega), if_neg (by omega), if_neg (by omega)] at HR
    cases n0
    · go_enter Try.func69, Try.ntmps69
      go_wp2_with fail
      refine (CT2.out _).mono ?_
      rintro e w1 ⟨rfl, rfl⟩
      go_wp2_with fail
      refine (CA2.out _).mono ?_
      rintro e w1 ⟨rfl, rfl⟩
      go_wp2
      go_ret
      exact ⟨by rw [HR.out]; rfl, HB.out _⟩
    · cases n1
      · go_enter Try.func69, Try.ntmps69
        go_wp2_with fail
        refine (CT2.out _).mono ?_
        rintro e w1 ⟨rfl, rfl⟩
        go_wp2_with fail
        refine (CA2.out _).mono ?_
        rintro e w1 ⟨rfl, rfl⟩
        go_wp2
        go_ret
        exact ⟨by rw [HR.out]; rfl, HB.out _⟩
      · go_enter Try.func69, Try.ntmps69
        go_wp2_with fail
        refine (CT2.out _).mono ?_
        rintro e w1 ⟨rfl, rfl⟩
        go_wp2_with fail
        refine (CA2.out _).mono ?_
        rintro e w1 ⟨rfl, rfl⟩
        go_wp2
        go_ret
        exact ⟨by rw [HR.out]; rfl, HB.out _⟩
  · rw [if_pos (by omega), if_pos (by omega), if_pos (by omega)] at HR
    cases n0
    · go_enter Try.func69, Try.ntmps69
      go_wp2_with fail
      refine (CT2.out _).mono ?_
      rintro e w1 ⟨rfl, rfl⟩
      go_wp2_with fail
      refine (CA2.out _).mono ?_
      rintro e w1 ⟨rfl, rfl⟩
      go_wp2
      go_ret
      exact ⟨by rw [HR.out]; rfl, HB.out _⟩
    · cases n1
      · go_enter Try.func69, Try.ntmps69
        go_wp2_with fail
        refine (CT2.out _).mono ?_
        rintro e w1 ⟨rfl, rfl⟩
        go_wp2_with fail
        refine (CA2.out _).mono ?_
        rintro e w1 ⟨rfl, rfl⟩
        go_wp2
        go_ret
        exact ⟨by rw [HR.out]; rfl, HB.out _⟩
      · go_enter Try.func69, Try.ntmps69
        go_wp2_with fail
        refine (CT2.out _).mono ?_
        rintro e w1 ⟨rfl, rfl⟩
        go_wp2_with fail
        refine (CA2.out _).mono ?_
        rintro e w1 ⟨rfl, rfl⟩
        go_wp2
        go_ret
        exact ⟨by rw [HR.out]; rfl, HB.out _⟩
  · rw [if_pos (by omega), if_pos (by omega), if_pos (by omega)] at HR
    cases n0
    · go_enter Try.func69, Try.ntmps69
      go_wp2_with fail
      refine (CT2.out _).mono ?_
      rintro e w1 ⟨rfl, rfl⟩
      go_wp2_with fail
      refine (CA2.out _).mono ?_
      rintro e w1 ⟨rfl, rfl⟩
      go_wp2
      go_ret
      exact ⟨by rw [HR.out]; rfl, HB.out _⟩
    · cases n1
      · go_enter Try.func69, Try.ntmps69
        go_wp2_with fail
        refine (CT2.out _).mono ?_
        rintro e w1 ⟨rfl, rfl⟩
        go_wp2_with fail
        refine (CA2.out _).mono ?_
        rintro e w1 ⟨rfl, rfl⟩
        go_wp2
        go_ret
        exact ⟨by rw [HR.out]; rfl, HB.out _⟩
      · go_enter Try.func69, Try.ntmps69
        go_wp2_with fail
        refine (CT2.out _).mono ?_
        rintro e w1 ⟨rfl, rfl⟩
        go_wp2_with fail
        refine (CA2.out _).mono ?_
        rintro e w1 ⟨rfl, rfl⟩
        go_wp2
        go_ret
        exact ⟨by rw [HR.out]; rfl, HB.out _⟩
  · rw [if_pos (by omega), if_pos (by omega), if_neg (by omega), if_pos (by omega)] at HR
    cases n0
    · go_enter Try.func69, Try.ntmps69
      go_wp2_with fail
      refine (CT2.out _).mono ?_
      rintro e w1 ⟨rfl, rfl⟩
      go_wp2_with fail
      refine (CA2.out _).mono ?_
      rintro e w1 ⟨rfl, rfl⟩
      go_wp2
      go_ret
      exact ⟨by rw [HR.out]; rfl, HB.out _⟩
    · cases n1
      · go_enter Try.func69, Try.ntmps69
        go_wp2_with fail
        refine (CT2.out _).mono ?_
        rintro e w1 ⟨rfl, rfl⟩
        go_wp2_with fail
        refine (CA2.out _).mono ?_
        rintro e w1 ⟨rfl, rfl⟩
        go_wp2
        go_ret
        exact ⟨by rw [HR.out]; rfl, HB.out _⟩
      · go_enter Try.func69, Try.ntmps69
        go_wp2_with fail
        refine (CT2.out _).mono ?_
        rintro e w1 ⟨rfl, rfl⟩
        go_wp2_with fail
        refine (CA2.out _).mono ?_
        rintro e w1 ⟨rfl, rfl⟩
        go_wp2
        go_ret
        exact ⟨by rw [HR.out]; rfl, HB.out _⟩
  · rw [if_neg (by omega), if_pos (by omega), if_neg (by omega), if_neg (by omega), if_neg (by omega)] at HR
    cases e0
    · cases n0
      · go_enter Try.func69, Try.ntmps69
        go_wp2_with fail
        refine (CT2.out _).mono ?_
        rintro e w1 ⟨rfl, rfl⟩
        go_wp2
        go_ret
        exact ⟨by rw [HR.out]; rfl, HB.out _⟩
      · cases e1
        · go_enter Try.func69, Try.ntmps69
          go_wp2_with fail
          refine (CT2.out _).mono ?_
          rintro e w1 ⟨rfl, rfl⟩
          go_wp2
          go_ret
          exact ⟨by rw [HR.out]; rfl, HB.out _⟩
        · go_enter Try.func69, Try.ntmps69
          go_wp2_with fail
          refine (CT2.out _).mono ?_
          rintro e w1 ⟨rfl, rfl⟩
          go_wp2
          go_ret
          exact ⟨by rw [HR.out]; rfl, HB.out _⟩
    · cases e1
      · go_enter Try.func69, Try.ntmps69
        go_wp2
        go_ret
        exact ⟨by rw [HR.out]; rfl, HB.out _⟩
      · go_enter Try.func69, Try.ntmps69
        go_wp2
        go_ret
        exact ⟨by rw [HR.out]; rfl, HB.out _⟩
  · have b2 : (2 : Int) ≤ (M : Int) := by omega
    have b3 : ¬ (M : Int) ≤ 8 := by omega
    have b4 : (4 : Int) ≤ (M : Int) := by omega
    have q9 : ((M : Int) == 9) = false := int_beq (n := 9) (by omega)
    have q6 : ((M : Int) == 6) = false := int_beq (n := 6) (by omega)
    have q7 : ((M : Int) == 7) = false := int_beq (n := 7) (by omega)
    have q8 : ((M : Int) == 8) = false := int_beq (n := 8) (by omega)
    rw [if_neg (by omega), if_neg (by omega), if_neg (by omega), if_neg (by omega), if_neg (by omega)] at HR
    cases e0
    · go_enter Try.func69, Try.ntmps69
      go_wp2
      go_ret
      exact ⟨by rw [HR.out]; rfl, HB.out _⟩
    · cases e1
      · go_enter Try.func69, Try.ntmps69
        go_wp2
        go_ret
        exact ⟨by rw [HR.out]; rfl, HB.out _⟩
      · go_enter Try.func69, Try.ntmps69
        go_wp2
        go_ret
        exact ⟨by rw [HR.out]; rfl, HB.out _⟩
end Go.Proofs.Ytdoomfckdjjlaaa
