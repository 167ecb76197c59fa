/- The text of a location, of the program and of the reference. -/
import Derived.Test.YtmiemnhbkcmanaaDoorLocI
namespace Go.Proofs.YtmiemnhbkcmanaaDoor
open Go.RowKit

def pathJ (P : List ByteArray) : List UInt8 := Lib.join (P.map bl) [47]
/-- The text of a location. -/
def locT (S H : ByteArray) (P : List ByteArray) (Q : ByteArray) : List UInt8 := bl S ++ (58 :: 47 :: 47 :: (bl H ++ (47 :: (pathJ P ++ if bl Q = [] then [] else 63 :: bl Q))))
def pathF (P : List ByteArray) : List UInt8 := P.flatMap fun x => 47 :: bl x
theorem pathF_snoc (P : List ByteArray) (x : ByteArray) : pathF (P ++ [x]) = pathF P ++ 47 :: bl x := by unfold pathF; rw [List.flatMap_append]; simp
theorem pathF_eq : ∀ P : List ByteArray, P ≠ [] → pathF P = 47 :: pathJ P := by
  intro P
  induction P with
  | nil => intro h; exact absurd rfl h
  | cons x r ih =>
    intro _
    unfold pathJ
    rcases r with _ | ⟨y, r⟩
    · rw [List.map_cons, List.map_nil, Lib.join_one]; simp [pathF]
    · have := ih (by simp)
      unfold pathJ at this
      rw [List.map_cons, List.map_cons, join_two, ← List.map_cons]
      show pathF ([x] ++ (y :: r)) = _
      have e : pathF ([x] ++ (y :: r)) = 47 :: bl x ++ pathF (y :: r) := by simp [pathF]
      rw [e, this]
      simp
theorem pathF_len {P : List ByteArray} (h : ∀ x ∈ P, x.size ≤ 40) : (pathF P).length ≤ 41 * P.length := by
  induction P with
  | nil => simp [pathF]
  | cons x r ih =>
    have := ih (fun y hy => h y (List.mem_cons_of_mem _ hy))
    have h2 := h x (List.mem_cons_self ..)
    have e : pathF (x :: r) = 47 :: bl x ++ pathF r := rfl
    rw [e, List.length_append, List.length_cons, bl_len, List.length_cons]
    omega
theorem pathJ_len {P : List ByteArray} (hn : P.length ≤ 6) (h : ∀ x ∈ P, x.size ≤ 40) : (pathJ P).length ≤ 246 := by
  have := join_le 40 [47] (P.map bl) (fun x hx => by
    obtain ⟨y, hy, rfl⟩ := List.mem_map.1 hx
    rw [bl_len]; exact h y hy)
  rw [List.length_map] at this
  have h3 : P.length * (40 + [47].length) ≤ 6 * 41 := Nat.mul_le_mul hn (Nat.le_refl _)
  unfold pathJ
  omega
theorem locB_parts {S H : ByteArray} {P : List ByteArray} {Q : ByteArray} (h : locB S H P Q = true) : schB (bl S) = true ∧ hostB (bl H) = true ∧ P.length ≤ 6 ∧ (∀ x ∈ P, stepB (bl x) = true) ∧ askB (bl Q) = true := by
  unfold locB at h
  rw [Bool.and_eq_true, Bool.and_eq_true, Bool.and_eq_true, Bool.and_eq_true, List.all_eq_true, decide_eq_true_iff] at h
  exact ⟨h.2.2.1, h.2.2.2.1, h.2.2.2.2, h.1, h.2.1⟩
theorem stepB_len {l : List UInt8} (h : stepB l = true) : 1 ≤ l.length ∧ l.length ≤ 40 := by
  unfold stepB at h
  rw [Bool.and_eq_true, decide_eq_true_iff] at h
  exact h.1
theorem schB_len {l : List UInt8} (h : schB l = true) : l.length ≤ 5 := by
  unfold schB at h
  rw [Bool.or_eq_true, decide_eq_true_iff, decide_eq_true_iff] at h
  rcases h with h | h <;> (rw [h]; decide)
theorem hostB_len {l : List UInt8} (h : hostB l = true) : l.length ≤ 40 := by
  unfold hostB at h
  rw [Bool.and_eq_true, decide_eq_true_iff] at h
  exact h.1.2

set_option maxRecDepth 100000 in
set_option maxHeartbeats 1600000 in
theorem spec_l32Path (a : Option Addr) (n c : Nat) (P : List ByteArray) (w : World) (hrow : RowAt w a (P.map strV)) (hn : P.length = n) (hn' : n ≤ 6) (hP : ∀ x ∈ P, x.size ≤ 40) :
    Calls Tryd.prog 40 #[.slice a n c] w fun e w' => e = .returned (.string (mkS (47 :: pathJ P))) ∧ w = w' := by
  have HRow := Lib.hid hrow; have HN := Lib.hid hn; have HPS := Lib.hid hP
  have HFL : Hid (∀ k, (pathF (P.take k)).length ≤ 246) := fun k => by
    have := pathF_len (P := P.take k) (fun x hx => hP x (List.mem_of_mem_take hx))
    rw [List.length_take] at this
    omega
  clear hrow hn hP
  go_enter Tryd.func40, Tryd.ntmps40
  go_wp2
  go_loop [3, 4] (fun o t => ∃ k : Nat, k ≤ n ∧ t = .int .i64 (k : Int) ∧ o = .string (mkS (pathF (P.take k)))) (fun _ t => n - (intOf t).toNat)
  case atStart => exact ⟨0, Nat.zero_le _, rfl, rfl⟩
  case round =>
    obtain ⟨k, hk, rfl, rfl⟩ := hrel
    have hAL : (mkS (pathF (P.take k))).size ≤ 246 := by rw [mkS_size]; exact HFL.out k
    by_cases hkn : k < n
    · have hkP : k < P.length := by rw [HN.out]; exact hkn
      obtain ⟨b, off, rfl, hlt, hcb⟩ := row_str HRow.out k hkP
      rw [getD_strP hkP] at hcb
      have hz := HPS.out _ (List.getElem_mem hkP)
      have HG : Hid (mkS (pathF (P.take k)) ++ ⟨#[47]⟩ ++ P[k] = mkS (pathF (P.take (k + 1)))) := by
        apply bl_inj
        rw [take_snocP hkP, pathF_snoc, bl_mkS, bl_app, bl_app, bl_mkS, List.append_assoc]; rfl
      generalize mkS (pathF (P.take k)) = A at *
      generalize P[k] = x at hcb hz HG
      have z1 : A.size + 1 ≤ 9223372036854775807 := by omega
      have z2 : A.size + (⟨#[47]⟩ : ByteArray).size ≤ 9223372036854775807 := z1
      have z3 : A.size + 1 + x.size ≤ 9223372036854775807 := by omega
      have z4 : (A ++ ⟨#[47]⟩ : ByteArray).size + x.size ≤ 9223372036854775807 := by rw [ByteArray.size_append]; exact z3
      go_wp2
      go_round
      case rel => exact ⟨k + 1, by omega, by go_num, by rw [← HG.out]⟩
      case measure => simp [intOf]; omega
    · obtain rfl : k = n := by omega
      have hS : P.take k = P := List.take_of_length_le (by rw [HN.out]; exact Nat.le_refl _)
      by_cases h0 : P = []
      · have e1 : mkS (pathF (P.take k)) = ⟨#[]⟩ := by rw [hS, h0]; rfl
        have HR : Hid (mkS (47 :: pathJ P) = ⟨#[47]⟩) := by rw [h0]; rfl
        rw [e1]
        clear hS h0 e1
        go_wp2
        go_ret
        exact ⟨ret_strP HR.out.symm, rfl⟩
      · have HR : Hid (mkS (pathF (P.take k)) = mkS (47 :: pathJ P)) := by rw [hS, pathF_eq P h0]; rfl
        have hne : ((mkS (pathF (P.take k))).toList == ([] : List UInt8)) = false := by rw [hS, pathF_eq P h0, ByteArray.toList_eq]; rfl
        have hne2 : ((mkS (pathF (P.take k))).toList.isEmpty) = false := by rw [hS, pathF_eq P h0, ByteArray.toList_eq]; rfl
        clear hS h0
        generalize mkS (pathF (P.take k)) = A at *
        go_wp2
        go_ret
        exact ⟨ret_strP HR.out, rfl⟩
theorem join_row (a : Option Addr) (n c : Nat) (l : List ByteArray) (sep : ByteArray) (w : World) (h : RowAt w a (l.map strV)) (hl : l.length = n) (hn : n ≤ 1000000) (hc : n ≤ c) (hlen : (Lib.join (l.map bl) (bl sep)).length ≤ 140737488355328) :
    Calls Tryd.prog 50 #[.slice a n c, .string sep] w fun e w' => e = .returned (.string (joinS l (bl sep))) ∧ Below w.heap.size w w' := by
  subst hl
  rcases l with _ | ⟨x, r⟩
  · refine (Tryd.strings_Join_none a c sep w).mono ?_
    rintro e w' ⟨rfl, rfl⟩
    exact ⟨rfl, Below.refl _ _⟩
  · obtain ⟨b, off, rfl, hlt, _⟩ := h 0 (by simp)
    refine (Tryd.strings_Join b off c (x :: r) sep w (fun j y hy => ?_) hlt (by omega) hc hlen).mono ?_
    · obtain ⟨hj, rfl⟩ := List.getElem?_eq_some_iff.1 hy
      obtain ⟨b', off', ha, _, hc'⟩ := h j (by rw [List.length_map]; exact hj)
      injection ha with ha
      injection ha with h1 h2
      rw [h1, h2, hc', List.getElem_map]; rfl
    · rintro e w' ⟨rfl, hb⟩
      exact ⟨rfl, hb⟩
end Go.Proofs.YtmiemnhbkcmanaaDoor
