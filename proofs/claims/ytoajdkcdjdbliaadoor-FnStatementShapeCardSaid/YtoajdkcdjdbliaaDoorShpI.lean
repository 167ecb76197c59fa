/- The shape of a statement, of the program. -/
import Derived.Test.YtoajdkcdjdbliaaDoorShp
namespace Go.Proofs.YtoajdkcdjdbliaaDoor
open Go.RowKit

theorem joinQ_take {L : List (List UInt8)} {k : Nat} (h : k + 1 < L.length) : joinQ (L.take (k + 2)) = joinQ (L.take (k + 1)) ++ (63 :: L[k + 1]) := by
  rw [List.take_add_one, List.getElem?_eq_getElem h]
  have e : L.take (k + 1) = L.take k ++ [L[k]'(by omega)] := by rw [List.take_add_one, List.getElem?_eq_getElem (by omega)]; rfl
  rw [e, List.append_assoc]
  exact joinQ_snoc _ _ _
theorem hasQ_at {L : List (List UInt8)} {k : Nat} (h : k < L.length) (hq : L[k].contains 63 = true) : hasQ L = true := by
  unfold hasQ
  rw [List.any_eq_true]
  exact ⟨L[k], List.getElem_mem _, hq⟩
theorem hasQ_no {L : List (List UInt8)} (h : ∀ i, (hi : i < L.length) → L[i].contains 63 = false) : hasQ L = false := by
  rcases hh : hasQ L with _ | _
  · rfl
  · unfold hasQ at hh
    rw [List.any_eq_true] at hh
    obtain ⟨e, he, h2⟩ := hh
    obtain ⟨i, hi, rfl⟩ := List.getElem_of_mem he
    rw [h i hi] at h2
    cases h2
theorem getD_map {L : List (List UInt8)} {i : Nat} (h : i < L.length) : (L.map mkS).getD i ⟨#[]⟩ = mkS L[i] := by rw [getD_at (by simpa using h), List.getElem_map]
theorem shapeR_hasQ {l : List UInt8} (h : hasQ ((cut0 l).2.2.2 ++ [(cut0 l).2.1]) = true) : shapeR l = ([], false) := by
  unfold shapeR
  rw [if_neg]
  rintro ⟨_, _, h3⟩
  rw [h] at h3
  cases h3

set_option maxRecDepth 100000 in
set_option maxHeartbeats 1600000 in
theorem impl_StatementShape (s : ByteArray) (w : World) (hs : s.size ≤ 1099511627776) :
    Calls Tryd.prog 21 #[.string s] w (StrOk w (shapeR (bl s))) := by
  rcases ht : textB (bl s) with _ | _
  · have HR := Lib.hid (shapeR_bad ht)
    have CL := Lib.hid (impl_cut_bad s w hs ht)
    clear ht
    go_enter Tryd.func21, Tryd.ntmps21
    go_wp2_with fail
    refine (CL.out).mono ?_
    rintro e w1 ⟨rfl, rfl⟩
    go_wp2
    go_ret2
    exact ⟨by rw [HR.out]; rfl, Below.refl _ _⟩
  · have CL := Lib.hid (impl_cut s w hs ht)
    have hsz := textB_size ht
    rcases hc : (cut0 (bl s)).1 with _ | _
    · have hlen := cut_lens (bl s)
      rw [hc] at hlen
      have hsm := cut_small (bl s)
      rw [bl_len] at hsm
      obtain ⟨L, hL⟩ : ∃ L, L = (cut0 (bl s)).2.2.2 ++ [(cut0 (bl s)).2.1] := ⟨_, rfl⟩
      have hls0 : ∀ e ∈ L, e.length ≤ 600 := by
        intro e he
        rw [hL] at he
        rcases List.mem_append.1 he with he | he
        · have := hsm.2 e he; omega
        · rw [List.mem_singleton] at he
          have := hsm.1
          rw [he]; omega
      have HLS : Hid (∀ i, (hi : i < L.length) → L[i].length ≤ 600) := fun i hi => hls0 _ (List.getElem_mem _)
      clear hls0
      have HRY : Hid (hasQ L = false → shapeR (bl s) = (joinQ L, true)) := fun h => by
        unfold shapeR
        rw [← hL, if_pos ⟨ht, hc, h⟩]
      have HRN : Hid (hasQ L = true → shapeR (bl s) = ([], false)) := fun h => shapeR_hasQ (by rw [← hL]; exact h)
      have hnt : L.length = (cut0 (bl s)).2.2.1.length + 1 := by rw [hL]; simp at hlen ⊢; exact hlen
      have HC := Lib.hid hc
      have HLL := Lib.hid hL
      obtain ⟨nt, hnt2⟩ : ∃ nt, nt = (cut0 (bl s)).2.2.1.length := ⟨_, rfl⟩
      have HNT := Lib.hid hnt2
      rw [← hnt2] at hnt
      have HNL := Lib.hid hnt
      clear ht hc hlen hsm hL hnt2 hnt
      go_enter Tryd.func21, Tryd.ntmps21
      go_wp2_with fail
      refine (CL.out).mono ?_
      rintro e w1 ⟨vt, vb, rfl, ot, ob, b1⟩
      have B1 := Lib.hid b1
      rw [HC.out]
      rw [← HLL.out] at ob
      rw [← HNT.out] at ot
      have ob2 := own_len_eq ob HNL.out rfl
      obtain ⟨a1, c1, rfl, _, k1, k1', _⟩ := own_formn ot
      obtain ⟨a2, c2, rfl, r2, k2, k2', _⟩ := own_formn ob2
      have R2 := Lib.hid r2
      clear ot ob ob2 b1 r2 CL
      have hss : s.size ≤ 600 := hsz
      have hnt6 : nt ≤ 600 := by
        have h1 := cutT_len _ (bl s) (Nat.le_refl _) (false, [], [], [])
        rw [bl_len] at h1
        have h2 := HNT.out
        unfold cut0 at h2
        simp only [List.length_nil] at h1
        omega
      go_wp2
      go_loop [21] (fun t => ∃ k : Nat, k ≤ nt + 1 ∧ t = .int .i64 (k : Int) ∧ Hid (∀ i, (hi : i < L.length) → i < k → L[i].contains 63 = false)) (fun t => nt + 1 - (intOf t).toNat)
      case atStart => exact ⟨0, by omega, rfl, fun i hi h => by omega⟩
      case round =>
        obtain ⟨k, hk, rfl, HK⟩ := hrel
        by_cases hkn : k < nt + 1
        · have hkl : k < L.length := by rw [HNL.out]; exact hkn
          obtain ⟨b, off, hab, hlt, hcb⟩ := row_str R2.out k (by simpa using hkl)
          rw [getD_map hkl] at hcb
          subst hab
          have hls := HLS.out k hkl
          have hms : (mkS L[k]).size ≤ 600 := by rw [mkS_size]; exact hls
          have HB : Hid (bl (mkS L[k]) = L[k]) := bl_mkS _
          obtain ⟨y, hy⟩ : ∃ y, y = mkS L[k] := ⟨_, rfl⟩
          rw [← hy] at hcb hms HB
          have CH : Hid (∀ W, Calls Tryd.prog 30 #[.string y, .int .u8 63] W fun e w' => e = .returned (.bool (hasB (bl y) 63)) ∧ W = w') := fun W => impl_hasByte y 63 W (by omega)
          rcases hq : L[k].contains 63 with _ | _
          · have HK2 : Hid (∀ i, (hi : i < L.length) → i < k + 1 → L[i].contains 63 = false) := by
              intro i hi h
              rcases Nat.lt_or_ge i k with h1 | h1
              · exact HK.out i hi h1
              · have : i = k := by omega
                subst this
                exact hq
            have HV : Hid (hasB (bl y) 63 = false) := by unfold hasB; rw [HB.out]; exact hq
            clear hq hy hls
            go_wp2_with fail
            refine (CH.out _).mono ?_
            rintro e w2 ⟨rfl, rfl⟩
            rw [HV.out]
            go_wp2
            go_round
            case rel => exact ⟨k + 1, by omega, by go_num, HK2⟩
            case measure => simp [intOf]; omega
          · have HV : Hid (hasB (bl y) 63 = true) := by unfold hasB; rw [HB.out]; exact hq
            have HR := Lib.hid (HRN.out (hasQ_at hkl hq))
            clear hq hy hls
            go_wp2_with fail
            refine (CH.out _).mono ?_
            rintro e w2 ⟨rfl, rfl⟩
            rw [HV.out]
            go_wp2
            go_ret2
            exact ⟨by rw [HR.out]; rfl, B1.out⟩
        · have HR := Lib.hid (HRY.out (hasQ_no (fun i hi => HK.out i hi (by have := HNL.out; omega))))
          have h0l : 0 < L.length := by rw [HNL.out]; omega
          obtain ⟨b, off, hab, hlt, hcb⟩ := row_str R2.out 0 (by simpa using h0l)
          rw [getD_map h0l] at hcb
          subst hab
          simp only [Nat.add_zero] at hcb
          have hls := HLS.out 0 h0l
          obtain ⟨y, hy⟩ : ∃ y, y = mkS L[0] := ⟨_, rfl⟩
          have hms : y.size ≤ 600 := by rw [hy, mkS_size]; exact hls
          have HY : Hid (y = mkS (joinQ (L.take (0 + 1)))) := by
            rw [hy, List.take_add_one, List.getElem?_eq_getElem h0l]
            rfl
          rw [← hy] at hcb
          clear hy hls
          go_wp2
          go_loop [9, 33] (fun v t => ∃ (k : Nat) (x : ByteArray), k ≤ nt ∧ t = .int .i64 (k : Int) ∧ v = .string x ∧ x.size ≤ 601 * (k + 1) ∧ Hid (x = mkS (joinQ (L.take (k + 1))))) (fun _ t => nt - (intOf t).toNat)
          case atStart => exact ⟨0, y, Nat.zero_le _, rfl, rfl, by omega, HY⟩
          case round =>
            obtain ⟨k2, x, hk2, rfl, rfl, hxs, HX⟩ := hrel
            by_cases hkt : k2 < nt
            · have hkl : k2 + 1 < L.length := by rw [HNL.out]; omega
              obtain ⟨b', off', hab, hlt', hcb'⟩ := row_str R2.out (k2 + 1) (by simpa using hkl)
              rw [getD_map hkl] at hcb'
              injection hab with hab
              injection hab with hab1 hab2
              subst hab1; subst hab2
              have hls := HLS.out (k2 + 1) hkl
              obtain ⟨z, hz⟩ : ∃ z, z = mkS L[k2 + 1] := ⟨_, rfl⟩
              have hzs : z.size ≤ 600 := by rw [hz, mkS_size]; exact hls
              have HX2 : Hid (x ++ (⟨#[63]⟩ ++ z) = mkS (joinQ (L.take (k2 + 1 + 1)))) := by
                show _ = _
                rw [joinQ_take hkl, HX.out, hz]
                apply bl_inj
                rw [bl_app, bl_app, bl_mkS, bl_mkS, bl_mkS]
                rfl
              have hsz2 : (x ++ ((⟨#[63]⟩ : ByteArray) ++ z)).size ≤ 601 * (k2 + 1 + 1) := by
                rw [ByteArray.size_append, ByteArray.size_append]
                show x.size + (1 + z.size) ≤ _
                omega
              have HSZ := Lib.hid hsz2
              rw [← hz] at hcb'
              clear hz hls hsz2
              go_wp2
              go_round
              case rel => exact ⟨k2 + 1, _, by omega, by go_num, rfl, HSZ.out, HX2⟩
              case measure => simp [intOf]; omega
            · have HX2 : Hid (x = mkS (joinQ L)) := by
                have := HX.out
                rwa [List.take_of_length_le (by rw [HNL.out]; omega)] at this
              go_wp2
              go_ret2
              exact ⟨by rw [HR.out]; exact tup_str HX2.out, B1.out⟩
    · have HR := Lib.hid (shapeR_open hc)
      have HC := Lib.hid hc
      clear ht hc
      go_enter Tryd.func21, Tryd.ntmps21
      go_wp2_with fail
      refine (CL.out).mono ?_
      rintro e w1 ⟨vt, vb, rfl, ot, ob, b1⟩
      have B1 := Lib.hid b1
      clear ot ob b1
      rw [HC.out]
      go_wp2
      go_ret2
      exact ⟨by rw [HR.out]; rfl, B1.out⟩
end Go.Proofs.YtoajdkcdjdbliaaDoor
