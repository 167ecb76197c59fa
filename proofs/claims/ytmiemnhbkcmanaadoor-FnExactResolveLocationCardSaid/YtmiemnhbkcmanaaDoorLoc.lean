/- Locations: which words and which locations are valid, by the reference. -/
import Derived.Test.YtmiemnhbkcmanaaDoorRpS
namespace Go.Proofs.YtmiemnhbkcmanaaDoor
open Go.RowKit

theorem tl_litP (s : ByteArray) (l : List UInt8) : (s.toList == l) = decide (bl s = l) := by
  rw [ByteArray.toList_eq]
  by_cases h : bl s = l
  · rw [decide_eq_true h, beq_iff_eq]; exact h
  · rw [decide_eq_false h, beq_eq_false_iff_ne]; exact h
/-- A word of a path. -/
def stepB (l : List UInt8) : Bool := decide (1 ≤ l.length ∧ l.length ≤ 40) && (l.all partC && (!decide (l = [46]) && !decide (l = [46, 46])))
def httpL : List UInt8 := [104, 116, 116, 112]
def httpsL : List UInt8 := [104, 116, 116, 112, 115]
def schB (l : List UInt8) : Bool := decide (l = httpL) || decide (l = httpsL)
/-- A valid location. -/
noncomputable def locB (S H : ByteArray) (P : List ByteArray) (Q : ByteArray) : Bool := P.all (fun x => stepB (bl x)) && (askB (bl Q) && (schB (bl S) && (hostB (bl H) && decide (P.length ≤ 6))))
theorem stepB_bad {l : List UInt8} (h : l.all partC = false ∨ ¬ (1 ≤ l.length ∧ l.length ≤ 40) ∨ l = [46] ∨ l = [46, 46]) : stepB l = false := by
  unfold stepB
  rcases h with h | h | h | h
  · rw [h]; simp
  · rw [decide_eq_false h]; rfl
  · rw [h]; rfl
  · rw [h]; rfl
theorem stepB_good {l : List UInt8} (h : l.all partC = true) (h1 : 1 ≤ l.length ∧ l.length ≤ 40) (h2 : ¬ l = [46]) (h3 : ¬ l = [46, 46]) : stepB l = true := by
  unfold stepB
  rw [h, decide_eq_true h1, decide_eq_false h2, decide_eq_false h3]; rfl

set_option maxHeartbeats 1600000 in
theorem spec_l32Step (s : ByteArray) (w : World) (hs : s.size ≤ 9223372036854775806) : Calls Tryd.prog 27 #[.string s] w fun e w' => e = .returned (.bool (stepB (bl s))) ∧ w = w' := by
  have hbl := Lib.hid (bl_len s)
  go_enter Tryd.func27, Tryd.ntmps27
  go_wp2
  go_loop [3] (fun t => ∃ k : Nat, k ≤ s.size ∧ t = .int .i64 (k : Int) ∧ Hid (((bl s).take k).all partC = true)) (fun t => s.size - (intOf t).toNat)
  case atStart => exact ⟨0, Nat.zero_le _, rfl, rfl⟩
  case round =>
    obtain ⟨k, hk, rfl, HK⟩ := hrel
    by_cases hks : k < s.size
    case pos =>
      rcases hp : partC s[k] with _ | _
      · have HR : Hid (stepB (bl s) = false) := stepB_bad (.inl (all_badB _ s k hks hp))
        have CP : Hid (∀ W, Calls Tryd.prog 41 #[.int .u8 (s[k].toNat : Int)] W fun e w' => e = .returned (.bool false) ∧ W = w') := fun W => by rw [← hp]; exact spec_l3Plain s[k] W
        clear hp
        go_wp2_with fail
        refine (CP.out _).mono ?_
        rintro e w1 ⟨rfl, rfl⟩
        go_wp2
        go_ret
        exact ⟨ret_bool HR.out.symm, rfl⟩
      · have HK2 : Hid (((bl s).take (k + 1)).all partC = true) := all_stepB _ s k hks HK.out hp
        have CP : Hid (∀ W, Calls Tryd.prog 41 #[.int .u8 (s[k].toNat : Int)] W fun e w' => e = .returned (.bool true) ∧ W = w') := fun W => by rw [← hp]; exact spec_l3Plain s[k] W
        clear hp
        go_wp2_with fail
        refine (CP.out _).mono ?_
        rintro e w1 ⟨rfl, rfl⟩
        go_wp2
        go_round
        case rel => exact ⟨k + 1, by omega, by go_num, HK2⟩
        case measure => simp [intOf]; omega
    have HA : Hid ((bl s).all partC = true) := by have := HK.out; rwa [List.take_of_length_le (by rw [bl_len]; omega)] at this
    have CL := Lib.hid (fun W => spec_l1In_any (s.size : Int) 1 40 W)
    by_cases hin : 1 ≤ s.size ∧ s.size ≤ 40
    case neg =>
      have HR : Hid (stepB (bl s) = false) := stepB_bad (.inr (.inl (by rw [hbl.out]; exact hin)))
      have hd : (decide ((1 : Int) ≤ (s.size : Int)) && decide ((s.size : Int) ≤ 40)) = false := by
        rw [Bool.and_eq_false_iff, decide_eq_false_iff_not, decide_eq_false_iff_not]; omega
      rw [hd] at CL
      clear hd hin
      go_wp2_with fail
      refine (CL.out _).mono ?_
      rintro e w1 ⟨rfl, rfl⟩
      go_wp2
      go_ret
      exact ⟨ret_bool HR.out.symm, rfl⟩
    have hd : (decide ((1 : Int) ≤ (s.size : Int)) && decide ((s.size : Int) ≤ 40)) = true := by
      rw [Bool.and_eq_true, decide_eq_true_iff, decide_eq_true_iff]; omega
    rw [hd] at CL
    clear hd
    have x1 := tl_litP s [46]
    have x2 := tl_litP s [46, 46]
    by_cases h1 : bl s = [46]
    · have HR : Hid (stepB (bl s) = false) := stepB_bad (.inr (.inr (.inl h1)))
      rw [decide_eq_true h1] at x1
      clear h1 x2
      go_wp2_with fail
      refine (CL.out _).mono ?_
      rintro e w1 ⟨rfl, rfl⟩
      go_wp2
      go_ret
      exact ⟨ret_bool HR.out.symm, rfl⟩
    rw [decide_eq_false h1] at x1
    by_cases h2 : bl s = [46, 46]
    · have HR : Hid (stepB (bl s) = false) := stepB_bad (.inr (.inr (.inr h2)))
      rw [decide_eq_true h2] at x2
      clear h1 h2
      go_wp2_with fail
      refine (CL.out _).mono ?_
      rintro e w1 ⟨rfl, rfl⟩
      go_wp2
      go_ret
      exact ⟨ret_bool HR.out.symm, rfl⟩
    have HR : Hid (stepB (bl s) = true) := stepB_good HA.out (by rw [hbl.out]; exact hin) h1 h2
    rw [decide_eq_false h2] at x2
    clear h1 h2
    go_wp2_with fail
    refine (CL.out _).mono ?_
    rintro e w1 ⟨rfl, rfl⟩
    go_wp2
    go_ret
    exact ⟨ret_bool HR.out.symm, rfl⟩

theorem locB_step {S H : ByteArray} {P : List ByteArray} {Q : ByteArray} (k : Nat) (hk : k < P.length) (h : stepB (bl P[k]) = false) : locB S H P Q = false := by
  unfold locB
  rw [all_badP _ P k hk h]; rfl
theorem locB_all {S H : ByteArray} {P : List ByteArray} {Q : ByteArray} (h : P.all (fun x => stepB (bl x)) = true) : locB S H P Q = (askB (bl Q) && (schB (bl S) && (hostB (bl H) && decide (P.length ≤ 6)))) := by unfold locB; rw [h]; rfl
theorem getD_strP {P : List ByteArray} {k : Nat} (h : k < P.length) : P.getD k ⟨#[]⟩ = P[k] := by rw [List.getD_eq_getElem?_getD, List.getElem?_eq_getElem h]; rfl

set_option maxRecDepth 100000 in
set_option maxHeartbeats 3200000 in
theorem spec_LocationValid (S H : ByteArray) (a : Option Addr) (n c : Nat) (P : List ByteArray) (Q : ByteArray) (w : World) (hrow : RowAt w a (P.map strV)) (hn : P.length = n) (hn' : n ≤ 4294967296) (hH : H.size ≤ 4294967296) (hQ : Q.size ≤ 1048576) (hP : ∀ x ∈ P, x.size ≤ 4294967296) :
    Calls Tryd.prog 14 #[.agg #[.string S, .string H, .slice a n c, .string Q]] w fun e w' => e = .returned (.bool (locB S H P Q)) ∧ Below w.heap.size w w' := by
  have HRow := Lib.hid hrow; have HN := Lib.hid hn; have HPS := Lib.hid hP
  clear hrow hn hP
  go_enter Tryd.func14, Tryd.ntmps14
  go_wp2
  generalize hw1 : w.alloc (.cells #[.string S, .string H, .slice a n c, .string Q] 26 (0, 0)) = w1
  have c0 : w1.cell? ⟨w.heap.size, 0, none⟩ = some (.string S) := by rw [← hw1]; exact (World.cell?_alloc_mark _ _ _ _ _).trans rfl
  have c1 : w1.cell? ⟨w.heap.size, 1, none⟩ = some (.string H) := by rw [← hw1]; exact (World.cell?_alloc_mark _ _ _ _ _).trans rfl
  have c2 : w1.cell? ⟨w.heap.size, 2, none⟩ = some (.slice a n c) := by rw [← hw1]; exact (World.cell?_alloc_mark _ _ _ _ _).trans rfl
  have c3 : w1.cell? ⟨w.heap.size, 3, none⟩ = some (.string Q) := by rw [← hw1]; exact (World.cell?_alloc_mark _ _ _ _ _).trans rfl
  have b1 : Below w.heap.size w w1 := by rw [← hw1]; exact (Below.refl _ _).alloc (Nat.le_refl _) _
  have hz1 : w.heap.size < w1.heap.size := by rw [← hw1]; simp
  clear hw1
  have HR1 := Lib.hid (HRow.out.below (Nat.le_refl _) b1)
  have B1 := Lib.hid b1
  clear b1
  go_loop [3] (fun t => ∃ k : Nat, k ≤ n ∧ t = .int .i64 (k : Int) ∧ Hid ((P.take k).all (fun x => stepB (bl x)) = true)) (fun t => n - (intOf t).toNat)
  case atStart => exact ⟨0, Nat.zero_le _, rfl, rfl⟩
  case round =>
    obtain ⟨k, hk, rfl, HK⟩ := hrel
    by_cases hkn : k < n
    case pos =>
      have hkP : k < P.length := by rw [HN.out]; exact hkn
      obtain ⟨b, off, rfl, hlt, hcb⟩ := row_str HR1.out k hkP
      rw [getD_strP hkP] at hcb
      have hz := HPS.out _ (List.getElem_mem hkP)
      have CS := Lib.hid (fun W => spec_l32Step P[k] W (by omega))
      have HB := Lib.hid (fun h => locB_step (S := S) (H := H) (Q := Q) k hkP h)
      have HG := Lib.hid (fun h => all_takeP (fun x => stepB (bl x)) P k hkP HK.out h)
      generalize P[k] = x at hcb hz CS HB HG
      rcases hst : stepB (bl x) with _ | _
      · rw [hst] at CS
        have HR := Lib.hid (HB.out hst)
        clear hst
        go_wp2_with fail
        refine (CS.out _).mono ?_
        rintro e w2 ⟨rfl, rfl⟩
        go_wp2
        go_ret
        exact ⟨ret_bool HR.out.symm, B1.out⟩
      · rw [hst] at CS
        have HK2 := Lib.hid (HG.out hst)
        clear hst
        go_wp2_with fail
        refine (CS.out _).mono ?_
        rintro e w2 ⟨rfl, rfl⟩
        go_wp2
        go_round
        case rel => exact ⟨k + 1, by omega, by go_num, HK2⟩
        case measure => simp [intOf]; omega
    have HA : Hid (P.all (fun x => stepB (bl x)) = true) := by have := HK.out; rwa [List.take_of_length_le (by rw [HN.out]; omega)] at this
    have HL : Hid (locB S H P Q = (askB (bl Q) && (schB (bl S) && (hostB (bl H) && decide (P.length ≤ 6))))) := locB_all HA.out
    have CQ := Lib.hid (fun W => spec_ReadAsked Q W hQ)
    have CH := Lib.hid (fun W => spec_l32Host H W (by omega))
    have x1 := tl_litP S httpL
    have x2 := tl_litP S httpsL
    have h6 : Hid (decide ((n : Int) ≤ 6) = decide (P.length ≤ 6)) := by
      show _ = _
      rw [HN.out]
      by_cases h : n ≤ 6
      · rw [decide_eq_true h, decide_eq_true (by omega)]
      · rw [decide_eq_false h, decide_eq_false (by omega)]
    clear HK HA
    rcases hq : askB (bl Q) with _ | _
    · rw [hq] at CQ
      have HR : Hid (locB S H P Q = false) := by rw [HL.out, hq]; rfl
      clear hq
      go_wp2_with fail
      refine (CQ.out _).mono ?_
      rintro e w2 ⟨⟨v, rfl⟩, b2⟩
      have B2 := Lib.hid (B1.out.trans (b2.mono (Nat.le_of_lt hz1)))
      clear b2
      go_wp2
      go_ret
      exact ⟨ret_bool HR.out.symm, B2.out⟩
    rw [hq] at CQ
    have HL2 : Hid (locB S H P Q = (schB (bl S) && (hostB (bl H) && decide (P.length ≤ 6)))) := by rw [HL.out, hq]; rfl
    clear hq HL
    go_wp2_with fail
    refine (CQ.out _).mono ?_
    rintro e w2 ⟨⟨v, rfl⟩, b2⟩
    obtain ⟨hcc, _⟩ := bcell b2
    have d0 := (hcc _ 0 hz1).trans c0
    have d1 := (hcc _ 1 hz1).trans c1
    have d2 := (hcc _ 2 hz1).trans c2
    have B2 := Lib.hid (B1.out.trans (b2.mono (Nat.le_of_lt hz1)))
    clear b2 hcc c0 c1 c2 c3 HR1
    rcases hsc : schB (bl S) with _ | _
    · have HR : Hid (locB S H P Q = false) := by rw [HL2.out, hsc]; rfl
      have hs1 : decide (bl S = httpL) = false := by unfold schB at hsc; exact (Bool.or_eq_false_iff.1 hsc).1
      have hs2 : decide (bl S = httpsL) = false := by unfold schB at hsc; exact (Bool.or_eq_false_iff.1 hsc).2
      rw [hs1] at x1
      rw [hs2] at x2
      unfold httpL at x1
      unfold httpsL at x2
      clear hsc hs1 hs2
      go_wp2
      go_ret
      exact ⟨ret_bool HR.out.symm, B2.out⟩
    have HL3 : Hid (locB S H P Q = (hostB (bl H) && decide (P.length ≤ 6))) := by rw [HL2.out, hsc]; rfl
    rcases hs1 : decide (bl S = httpL) with _ | _
    · have hs2 : decide (bl S = httpsL) = true := by unfold schB at hsc; rw [hs1] at hsc; exact hsc
      rw [hs1] at x1
      rw [hs2] at x2
      unfold httpL at x1
      unfold httpsL at x2
      clear hsc hs1 hs2
      rcases hh : hostB (bl H) with _ | _
      · rw [hh] at CH
        have HR : Hid (locB S H P Q = false) := by rw [HL3.out, hh]; rfl
        clear hh
        go_wp2_with fail
        refine (CH.out _).mono ?_
        rintro e w3 ⟨rfl, rfl⟩
        go_wp2
        go_ret
        exact ⟨ret_bool HR.out.symm, B2.out⟩
      · rw [hh] at CH
        have HR : Hid (locB S H P Q = decide ((n : Int) ≤ 6)) := by rw [HL3.out, hh, h6.out]; rfl
        clear hh
        go_wp2_with fail
        refine (CH.out _).mono ?_
        rintro e w3 ⟨rfl, rfl⟩
        go_wp2
        go_ret
        exact ⟨ret_bool HR.out.symm, B2.out⟩
    · rw [hs1] at x1
      unfold httpL at x1
      clear hsc hs1 x2
      rcases hh : hostB (bl H) with _ | _
      · rw [hh] at CH
        have HR : Hid (locB S H P Q = false) := by rw [HL3.out, hh]; rfl
        clear hh
        go_wp2_with fail
        refine (CH.out _).mono ?_
        rintro e w3 ⟨rfl, rfl⟩
        go_wp2
        go_ret
        exact ⟨ret_bool HR.out.symm, B2.out⟩
      · rw [hh] at CH
        have HR : Hid (locB S H P Q = decide ((n : Int) ≤ 6)) := by rw [HL3.out, hh, h6.out]; rfl
        clear hh
        go_wp2_with fail
        refine (CH.out _).mono ?_
        rintro e w3 ⟨rfl, rfl⟩
        go_wp2
        go_ret
        exact ⟨ret_bool HR.out.symm, B2.out⟩
end Go.Proofs.YtmiemnhbkcmanaaDoor
