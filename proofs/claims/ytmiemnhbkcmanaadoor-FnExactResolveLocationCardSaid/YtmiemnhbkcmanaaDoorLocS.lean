/- A text cut at its first question mark, by the reference. -/
import Derived.Test.YtmiemnhbkcmanaaDoorLocU
namespace Go.Proofs.YtmiemnhbkcmanaaDoor
open Go.RowKit

theorem cut_at (s : ByteArray) (c : UInt8) (k : Nat) (h : k < s.size) (h0 : c ∉ (bl s).take k) (hc : s[k] = c) : Lib.cut (bl s) [c] = ((bl s).take k, (bl s).drop (k + 1), true) := by
  have e : bl s = (bl s).take k ++ ([c] ++ (bl s).drop (k + 1)) := by
    conv => lhs; rw [← List.take_append_drop k (bl s)]
    rw [bl_drop s k h, hc]; rfl
  have h1 := cut_pre c [] ((bl s).drop (k + 1)) ((bl s).take k) h0
  have e2 : (bl s).take k ++ (c :: [] ++ (bl s).drop (k + 1)) = bl s := e.symm
  rw [e2] at h1
  exact h1
theorem notin_step {s : ByteArray} {c : UInt8} {k : Nat} (h : k < s.size) (h0 : c ∉ (bl s).take k) (hc : ¬ s[k] = c) : c ∉ (bl s).take (k + 1) := by
  rw [bl_take s k h, List.mem_append]
  rintro (h1 | h1)
  · exact h0 h1
  · rw [List.mem_singleton] at h1; exact hc h1.symm
theorem ret_ssP {a b c d : ByteArray} (h : a = b) (h' : c = d) : Ending.returned (.tuple #[.string a, .string c]) = .returned (.tuple #[.string b, .string d]) := by rw [h, h']
theorem ext_mk (s : ByteArray) (a b : Nat) : s.extract a b = mkS (((bl s).take b).drop a) := by apply bl_inj; rw [bl_ext, bl_mkS]

set_option maxHeartbeats 1600000 in
theorem spec_l32Query (s : ByteArray) (w : World) (hs : s.size ≤ 4294967296) : Calls Tryd.prog 15 #[.string s] w fun e w' => e = .returned (.tuple #[.string (mkS (Lib.cut (bl s) [63]).1), .string (mkS (Lib.cut (bl s) [63]).2.1)]) ∧ Below w.heap.size w w' := by
  go_enter Tryd.func15, Tryd.ntmps15
  go_wp2
  go_loop [4] (fun t => ∃ k : Nat, k ≤ s.size ∧ t = .int .i64 (k : Int) ∧ Hid (63 ∉ (bl s).take k)) (fun t => s.size - (intOf t).toNat)
  case atStart => exact ⟨0, Nat.zero_le _, rfl, by show ¬ _; simp⟩
  case round =>
    obtain ⟨k, hk, rfl, HK⟩ := hrel
    by_cases hks : k < s.size
    case neg =>
      have HR : Hid (Lib.cut (bl s) [63] = (bl s, [], false)) := cut_none1 63 (bl s) (by have := HK.out; rwa [List.take_of_length_le (by rw [bl_len]; omega)] at this)
      go_wp2
      go_ret2
      exact ⟨by rw [HR.out]; exact ret_ssP (mkS_bl s).symm rfl, Below.refl _ _⟩
    by_cases hc : s[k] = 63
    · have q1 : ((s[k].toNat : Int) == 63) = true := beqN (n := 63) 63 rfl hc
      have HR := Lib.hid (cut_at s 63 k hks HK.out hc)
      have i1 : ((k : Int) + 1).toNat = k + 1 := by omega
      have i2 : (0 : Int) ≤ (k : Int) := by omega
      have i3 : (k : Int) ≤ (s.size : Int) := by omega
      have i4 : (0 : Int) ≤ (k : Int) + 1 := by omega
      have i5 : (k : Int) + 1 ≤ (s.size : Int) := by omega
      have i6 : IntKind.i64.wrap ((k : Int) + 1) = (k : Int) + 1 := IntWalk.i64_in _ (by omega)
      have HE1 : Hid (s.extract 0 k = mkS ((bl s).take k)) := by rw [ext_mk]; rfl
      have HE2 : Hid (s.extract (k + 1) s.size = mkS ((bl s).drop (k + 1))) := by rw [ext_mk, bl_all]; rfl
      clear hc
      go_wp2
      go_quiet (fail)
      go_wp2
      go_ret2
      exact ⟨by rw [HR.out]; exact ret_ssP HE1.out HE2.out, below_drewN (Below.refl _ _) _⟩
    · have q1 : ((s[k].toNat : Int) == 63) = false := bneN (n := 63) 63 rfl hc
      have HK2 : Hid (63 ∉ (bl s).take (k + 1)) := notin_step hks HK.out hc
      clear hc
      go_wp2
      go_round
      case rel => exact ⟨k + 1, by omega, by go_num, HK2⟩
      case measure => simp [intOf]; omega

theorem cutAt_snoc {c : UInt8} : ∀ {D : List (List UInt8)} {x : List UInt8} {u : List UInt8} (b : UInt8), cutAt c u = D ++ [x] → cutAt c (u ++ [b]) = if b = c then D ++ [x] ++ [[]] else D ++ [x ++ [b]] := by
  intro D x u
  induction u generalizing D x with
  | nil =>
    intro b h
    rw [cutAt] at h
    have h1 : D = [] ∧ x = [] := by
      rcases D with _ | ⟨d, D⟩
      · simp at h; exact ⟨rfl, h⟩
      · have := congrArg List.length h; simp at this
    rw [h1.1, h1.2, List.nil_append, cutAt]
    by_cases hb : b = c
    · rw [if_pos hb, if_pos hb, cutAt]; rfl
    · rw [if_neg hb, if_neg hb, cutAt]; rfl
  | cons y u ih =>
    intro b h
    rw [List.cons_append, cutAt]
    rw [cutAt] at h
    rcases hD : cutAt c u with _ | ⟨z, r⟩
    · exact absurd hD (cutAt_ne c u)
    by_cases hy : y = c
    · rw [if_pos hy] at h ⊢
      rcases D with _ | ⟨d, D⟩
      · rw [hD] at h; simp at h
      · rw [List.cons_append] at h
        injection h with h1 h2
        rw [ih b h2, ← h1]
        by_cases hb : b = c
        · rw [if_pos hb, if_pos hb]; rfl
        · rw [if_neg hb, if_neg hb]; rfl
    · rw [if_neg hy] at h ⊢
      rw [hD] at h
      simp only [List.headD_cons, List.tail_cons] at h
      rcases D with _ | ⟨d, D⟩
      · rw [List.nil_append] at h
        injection h with h1 h2
        subst h2
        have := ih (D := []) (x := z) b (by rw [hD]; rfl)
        rw [this]
        by_cases hb : b = c
        · rw [if_pos hb, if_pos hb]; simp [← h1]
        · rw [if_neg hb, if_neg hb]; simp [← h1]
      · rw [List.cons_append] at h
        injection h with h1 h2
        have := ih (D := z :: D) (x := x) b (by rw [hD, h2]; rfl)
        rw [this]
        by_cases hb : b = c
        · rw [if_pos hb, if_pos hb]; simp [← h1]
        · rw [if_neg hb, if_neg hb]; simp [← h1]
theorem cutAt_next {s : ByteArray} {c : UInt8} {k : Nat} {D : List (List UInt8)} {x : List UInt8} (h : k < s.size) (h0 : cutAt c ((bl s).take k) = D ++ [x]) : cutAt c ((bl s).take (k + 1)) = if s[k] = c then D ++ [x] ++ [[]] else D ++ [x ++ [s[k]]] := by
  rw [bl_take s k h]
  exact cutAt_snoc _ h0
theorem set_moreP (L : List (List UInt8)) (c y : List UInt8) (cs us : ByteArray) (hc : cs = mkS c) (h : us = mkS y) : (((L ++ [c]).map mkS).map strV).set L.length (.string (cs ++ us)) = ((L ++ [c ++ y]).map mkS).map strV := by
  rw [List.map_map, set_last, List.map_map, List.map_append, hc, h, mkS_app]
  rfl

set_option maxRecDepth 100000 in
set_option maxHeartbeats 3200000 in
theorem spec_l32Split (s : ByteArray) (w : World) (hs : s.size ≤ 1048576) :
    Calls Tryd.prog 16 #[.string s] w fun e w' => ∃ v, e = .returned v ∧ w'.ownsRow w.heap.size 9 1 v (cutAt 47 (bl s)).length (((cutAt 47 (bl s)).map mkS).map strV) ∧ Below w.heap.size w w' := by
  go_enter Tryd.func16, Tryd.ntmps16
  go_wp2
  have O0 := Lib.hid (own_new w #[.string ⟨#[]⟩] 9 1 rfl (by omega))
  go_loopw [3, 4] (fun v t wr => ∃ (k : Nat) (D : List (List UInt8)) (x : List UInt8), k ≤ s.size ∧ t = .int .i64 (k : Int) ∧ D.length ≤ k ∧ x.length ≤ k ∧ Hid (cutAt 47 ((bl s).take k) = D ++ [x]) ∧ wr.ownsRow w.heap.size 9 1 v (D.length + 1) (((D ++ [x]).map mkS).map strV) ∧ Below w.heap.size w wr) (fun _ t _ => s.size - (intOf t).toNat)
  case atStart => exact ⟨0, [], [], Nat.zero_le _, rfl, Nat.le_refl _, Nat.le_refl _, rfl, O0.out, (Below.refl _ _).alloc (Nat.le_refl _) _⟩
  case round =>
    obtain ⟨k, D, x, hk, rfl, hD, hx, HC, own, hb⟩ := hrel
    have O1 := Lib.hid own; have B1 := Lib.hid hb
    have hwr := hb.size
    obtain ⟨g, cv, rfl, hBg, hgl, kv, kv', hcell⟩ := own_at own (by omega)
    have hcl : wr.cell? ⟨g, D.length, none⟩ = some (.string (mkS x)) := hcell _ _ (by simp [strV])
    have hfr : ∀ j, wr.frozen? ⟨g, j, none⟩ = false := fun j => own.frozenAt j
    clear own hb hcell O0
    by_cases hks : k < s.size
    case neg =>
      have HR : Hid (cutAt 47 (bl s) = D ++ [x]) := by have := HC.out; rwa [List.take_of_length_le (by rw [bl_len]; omega)] at this
      go_wp2
      go_ret
      exact ⟨_, rfl, by rw [HR.out]; exact own_len_eq O1.out (by simp) rfl, B1.out⟩
    have HNx := Lib.hid (cutAt_next hks HC.out)
    by_cases hc : s[k] = 47
    · have q1 : ((s[k].toNat : Int) == 47) = true := beqN (n := 47) 47 rfl hc
      have HC2 : Hid (cutAt 47 ((bl s).take (k + 1)) = (D ++ [x]) ++ [[]]) := by rw [HNx.out, if_pos hc]; rfl
      clear hc hcl hfr
      go_wp2_with (at_builtin; refine wpList_pushS (.tmp 16) (.tmp 17) w.heap.size ⟨#[]⟩ _ (D.length + 1) ((D ++ [x]).map mkS) O1.out hwr (by omega) rfl (by rfl) (by rfl) wr.heap.size rfl (by rfl) ?_; intro v5 w5 o5 b5; have O5 := Lib.hid o5; have B5 := Lib.hid (B1.out.trans b5); clear o5 b5)
      go_roundw
      case rel => exact ⟨k + 1, D ++ [x], [], by omega, by go_num, by simp; omega, Nat.zero_le _, HC2, own_len_eq O5.out (by simp) (by simp [mkS]), B5.out⟩
      case measure => simp [intOf]; omega
    · have q1 : ((s[k].toNat : Int) == 47) = false := bneN (n := 47) 47 rfl hc
      have HC2 : Hid (cutAt 47 ((bl s).take (k + 1)) = D ++ [x ++ [s[k]]]) := by rw [HNx.out, if_neg hc]; rfl
      have HE : Hid (s.extract k (k + 1) = mkS [s[k]]) := by show _ = _; rw [← bl_one s k hks, mkS_bl]
      have hes : (s.extract k (k + 1)).size = 1 := by rw [HE.out]; rfl
      have hms : (mkS x).size ≤ 1048576 := by rw [mkS_size]; omega
      obtain ⟨_, _, hS, _⟩ := own_setn O1.out D.length (by omega) (.string (mkS x ++ s.extract k (k + 1)))
      rw [set_moreP D x [s[k]] _ _ rfl HE.out] at hS
      have HS := Lib.hid hS
      clear hS hc
      have i1 : (0 : Int) ≤ (k : Int) := by omega
      have i2 : (k : Int) + 1 ≤ (s.size : Int) := by omega
      have i3 : ((k : Int) + 1).toNat = k + 1 := by omega
      have i4 : IntKind.i64.wrap ((k : Int) + 1) = (k : Int) + 1 := IntWalk.i64_in _ (by omega)
      have i5 : (k : Int) ≤ (k : Int) + 1 := by omega
      have z1 : (mkS x).size + (s.extract k (k + 1)).size ≤ 9223372036854775807 := by omega
      have z2 : ¬ 9223372036854775807 < (mkS x).size + (s.extract k (k + 1)).size := by omega
      have z3 : (mkS x).size + 1 ≤ 9223372036854775807 := by omega
      generalize mkS x = X at *
      go_wp2_with fail
      go_region
      all_goals
        go_wp2
        go_roundw
        case rel => exact ⟨k + 1, D, x ++ [s[k]], by omega, by go_num, by omega, by simp; omega, HC2, HS.out, (B1.out.setCell (p := ⟨g, D.length, none⟩) hBg _).drew⟩
        case measure => simp [intOf]; omega
end Go.Proofs.YtmiemnhbkcmanaaDoor
