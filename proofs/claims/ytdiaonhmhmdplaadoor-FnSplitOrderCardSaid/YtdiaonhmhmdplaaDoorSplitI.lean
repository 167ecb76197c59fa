/- Splitting an order, by the program. Printed by gen_spliti.py. -/
import Derived.Test.YtdiaonhmhmdplaaDoorSplit
import Derived.Test.YtdiaonhmhmdplaaDoorPush2
namespace Go.Proofs.YtdiaonhmhmdplaaDoor
open Go.RowKit

theorem sp_same (b : UInt8) : hasB (bl ⟨#[36, 92, 96, 42, 63, 40, 41, 91, 93, 123, 125, 59, 38, 124, 60, 62, 33]⟩) b = spL.contains b :=
  byte_allW (p := fun b => (bl ⟨#[36, 92, 96, 42, 63, 40, 41, 91, 93, 123, 125, 59, 38, 124, 60, 62, 33]⟩).contains b = spL.contains b) (by decide +kernel) b
set_option maxRecDepth 100000 in
set_option maxHeartbeats 3200000 in
theorem impl_SplitOrder (s : ByteArray) (w : World) (hs : s.size ≤ 1099511627776) :
    Calls Tryd.prog 5 #[.string s] w (StrsOk w (splitR (bl s))) := by
  go_enter Tryd.func5, Tryd.ntmps5
  go_wp2
  have O0 := Lib.hid (own_below (own_new w #[] 9 0 rfl (by omega)) ((Below.refl _ _).alloc (Nat.le_refl _) (.cells #[] 5 (0, 0))))
  have P0 := Lib.hid (own_mono (own_new (w.alloc (.cells #[] 9 (0, 0))) #[] 5 0 rfl (by omega)) (B' := w.heap.size) (by simp))
  have E0 : Hid (w.heap.size + 1 = (w.alloc (.cells #[] 9 (0, 0))).heap.size) := by show _ = _; simp
  go_loopw [4, 5, 6, 7, 8] (fun v vb i q7 t wr => ∃ (k : Nat) (q : UInt8) (d : List (List UInt8)) (cu : Option (List UInt8)) (n nb : Nat), k ≤ s.size ∧ t = .int .i64 (k : Int) ∧ q7 = .int .u8 (q.toNat : Int) ∧ i = .bool cu.isSome ∧ n ≤ k ∧ nb ≤ k ∧ Hid (n = d.length) ∧ Hid (nb = (cu.getD []).length) ∧ Hid (splitT (q, d, cu) ((bl s).drop k) = splitT (0, [], none) (bl s)) ∧ Hid (q ≠ 0 → cu.isSome = true) ∧ wr.ownsRow w.heap.size 9 1 v n ((d.map mkS).map strV) ∧ wr.ownsRow w.heap.size 5 1 vb nb ((cu.getD []).map byteV) ∧ Below w.heap.size w wr) (fun _ _ _ _ t _ => s.size - (intOf t).toNat)
  case atStart => exact ⟨0, 0, [], none, 0, 0, Nat.zero_le _, rfl, rfl, rfl, Nat.le_refl _, Nat.le_refl _, rfl, rfl, rfl, fun h => absurd rfl h, O0.out, by rw [E0.out]; exact P0.out, ((Below.refl _ _).alloc (Nat.le_refl _) _).alloc (by simp) _⟩
  case round =>
    obtain ⟨k, q, d, cu, n, nb, hk, rfl, rfl, rfl, hn, hnb, HN, HNB, HT, HQC, own, ownb, hb⟩ := hrel
    have OS := Lib.hid own; have OB := Lib.hid ownb; have B1 := Lib.hid hb
    have hwr := hb.size
    obtain ⟨av, cv, rfl, _, kv, kv', _⟩ := own_formn own
    obtain ⟨ab, cb, rfl, rb, kb, kb', _⟩ := own_formn ownb
    have RB := Lib.hid rb
    clear own ownb hb rb
    by_cases hks : k < s.size
    · have hx0 : (s[k].toNat : Int) < 256 := by have := s[k].toNat_lt; omega
      have HX := Lib.hid (splitT_go hks rfl (q, d, cu))
      have HXN := Lib.hid (splitT_no hks rfl (q, d, cu))
      have CH := Lib.hid (fun W => impl_hasByte ⟨#[36, 92, 96, 42, 63, 40, 41, 91, 93, 123, 125, 59, 38, 124, 60, 62, 33]⟩ s[k] W (by decide))
      by_cases hb : badW q s[k] = true
      · have HR : Hid (splitR (bl s) = ([], false)) := splitR_none (by rw [← HT.out, HXN.out (stepW_bad hb)])
        by_cases h1 : (s[k].toNat : Int) < 32
        · clear hb
          go_wp2
          go_ret2
          exact ⟨_, by rw [HR.out]; rfl, by rw [HR.out]; exact World.ownsRow_nil _ _ _ _, B1.out⟩
        · have h1' : decide ((s[k].toNat : Int) < 32) = false := by simpa using h1
          by_cases h2 : 126 < (s[k].toNat : Int)
          · clear hb
            go_wp2
            go_ret2
            exact ⟨_, by rw [HR.out]; rfl, by rw [HR.out]; exact World.ownsRow_nil _ _ _ _, B1.out⟩
          · have h2' : decide (126 < (s[k].toNat : Int)) = false := by simpa using h2
            have hbt : (spL.contains s[k] && !((q.toNat : Int) == 39)) = true := by
              unfold badW at hb
              rw [h1', h2'] at hb
              simpa only [Bool.false_or] using hb
            rw [Bool.and_eq_true] at hbt
            have c1 : ((q.toNat : Int) != 39) = true := hbt.2
            have HS : Hid (spL.contains s[k] = true) := hbt.1
            clear hb hbt
            go_wp2_with fail
            refine (CH.out _).mono ?_
            rintro e w1 ⟨rfl, rfl⟩
            rw [sp_same, HS.out]
            go_wp2
            go_ret2
            exact ⟨_, by rw [HR.out]; rfl, by rw [HR.out]; exact World.ownsRow_nil _ _ _ _, B1.out⟩
      · have hb0 : badW q s[k] = false := by simpa using hb
        have hb1 := hb0
        unfold badW at hb1
        rw [Bool.or_eq_false_iff, Bool.or_eq_false_iff] at hb1
        obtain ⟨u1, u2, u3⟩ := hb1
        clear hb
        by_cases hq39 : q = 39
        · have c39 : ((q.toNat : Int) != 39) = false := by rw [hq39]; rfl
          have cq0 : ((q.toNat : Int) != 0) = true := by rw [hq39]; rfl
          have hcs := HQC.out (by rw [hq39]; decide)
          clear u3
          by_cases hqx : q = s[k]
          · have c1 : ((s[k].toNat : Int) == (q.toNat : Int)) = true := beq_u8' hqx.symm
            have HT2 : Hid (splitT (0, d, cu) ((bl s).drop (k + 1)) = splitT (0, [], none) (bl s)) := by rw [← HT.out]; exact (HX.out _ (stepW_end hb0 hqx)).symm
            clear hqx hb0
            go_wp2
            go_roundw
            case rel => exact ⟨k + 1, 0, d, cu, n, nb, by omega, by go_num, rfl, rfl, by omega, by omega, HN, HNB, HT2, fun h => absurd rfl h, OS.out, OB.out, B1.out⟩
            case measure => simp [intOf]; omega
          · have c1 : ((s[k].toNat : Int) == (q.toNat : Int)) = false := beq_u8 (fun e => hqx e.symm)
            have HT2 : Hid (splitT (q, d, some (cu.getD [] ++ [s[k]])) ((bl s).drop (k + 1)) = splitT (0, [], none) (bl s)) := by rw [← HT.out]; exact (HX.out _ (stepW_more hb0 hqx (by rintro ⟨_, h⟩; rw [hq39] at h; cases h) (by rintro ⟨h, _⟩; rw [hq39] at h; cases h))).symm
            obtain ⟨c, rfl⟩ := Option.isSome_iff_exists.1 hcs
            have HNB2 : Hid (nb + 1 = ((some ((some c).getD [] ++ [s[k]])).getD []).length) := by have := HNB.out; show _ = _; simp at this ⊢; omega
            clear hqx hb0 hcs hq39
            go_wp2_with ((at_builtin; refine wpList_pushB2 (.tmp 50) (.tmp 52) w.heap.size s[k] _ nb ((some c).getD []) OB.out hwr (by omega) rfl (by rfl) (by rfl) wr.heap.size rfl (by rfl) ?_; intro v5 w5 o5 g5 b5; have OB5 := Lib.hid o5; have OS5 := Lib.hid (own_other OS.out g5 (fun q hq e => own_types_ne OB.out OS.out (by decide) q e hq)); have B5 := Lib.hid (B1.out.trans b5); clear o5 g5 b5))
            go_roundw
            case rel => exact ⟨k + 1, q, d, some ((some c).getD [] ++ [s[k]]), n, nb + 1, by omega, by go_num, rfl, rfl, by omega, by omega, HN, HNB2, HT2, fun _ => rfl, OS5.out, OB5.out, B5.out⟩
            case measure => simp [intOf]; omega
        · have c39 : ((q.toNat : Int) != 39) = true := ne_u8 hq39
          have hsc : spL.contains s[k] = false := by
            rw [Bool.and_eq_false_iff] at u3
            rcases u3 with u3 | u3
            · exact u3
            · exfalso
              have e39 : ((q.toNat : Int) == 39) = false := beq_u8 hq39
              rw [e39] at u3
              cases u3
          have CH2 : Hid (∀ W, Calls Tryd.prog 15 #[.string ⟨#[36, 92, 96, 42, 63, 40, 41, 91, 93, 123, 125, 59, 38, 124, 60, 62, 33]⟩, .int .u8 (s[k].toNat : Int)] W fun e w' => e = .returned (.bool false) ∧ W = w') := fun W => (CH.out W).mono fun _ _ ⟨h1, h2⟩ => ⟨by rw [h1, sp_same, hsc], h2⟩
          clear u3 hsc
          by_cases hqx : q = s[k]
          · have c1 : ((s[k].toNat : Int) == (q.toNat : Int)) = true := beq_u8' hqx.symm
            have cq0 : ((q.toNat : Int) != 0) = true := ne_u8 (a := q) (b := 0) (by intro e; have e2 := hqx.symm.trans e; rw [e2] at u1; revert u1; decide)
            have HT2 : Hid (splitT (0, d, cu) ((bl s).drop (k + 1)) = splitT (0, [], none) (bl s)) := by rw [← HT.out]; exact (HX.out _ (stepW_end hb0 hqx)).symm
            clear hqx hb0
            go_wp2_with (go_at_call 15; refine (CH2.out _).mono ?_; rintro e w1 ⟨rfl, rfl⟩)
            go_roundw
            case rel => exact ⟨k + 1, 0, d, cu, n, nb, by omega, by go_num, rfl, rfl, by omega, by omega, HN, HNB, HT2, fun h => absurd rfl h, OS.out, OB.out, B1.out⟩
            case measure => simp [intOf]; omega
          · by_cases hq0 : q = 0
            · have c1 : ((s[k].toNat : Int) == (q.toNat : Int)) = false := beq_u8 (fun e => hqx e.symm)
              have cq0 : ((q.toNat : Int) != 0) = false := by rw [hq0]; rfl
              by_cases h39 : s[k] = 39
              · have b39 : ((s[k].toNat : Int) == 39) = true := by rw [h39]; rfl
                have HT2 : Hid (splitT (s[k], d, some (cu.getD [])) ((bl s).drop (k + 1)) = splitT (0, [], none) (bl s)) := by rw [← HT.out]; exact (HX.out _ (stepW_quote hb0 hqx (by rintro ⟨h, _⟩; rw [h39] at h; cases h) hq0 (.inl h39))).symm
                clear hqx hb0 h39 hq0 hq39
                go_wp2_with (go_at_call 15; refine (CH2.out _).mono ?_; rintro e w1 ⟨rfl, rfl⟩)
                go_roundw
                case rel => exact ⟨k + 1, s[k], d, some (cu.getD []), n, nb, by omega, by go_num, rfl, rfl, by omega, by omega, HN, HNB, HT2, fun _ => rfl, OS.out, OB.out, B1.out⟩
                case measure => simp [intOf]; omega
              · have b39 : ((s[k].toNat : Int) == 39) = false := beq_u8 h39
                by_cases h34 : s[k] = 34
                · have b34 : ((s[k].toNat : Int) == 34) = true := by rw [h34]; rfl
                  have HT2 : Hid (splitT (s[k], d, some (cu.getD [])) ((bl s).drop (k + 1)) = splitT (0, [], none) (bl s)) := by rw [← HT.out]; exact (HX.out _ (stepW_quote hb0 hqx (by rintro ⟨h, _⟩; rw [h34] at h; cases h) hq0 (.inr h34))).symm
                  clear hqx hb0 h39 h34 hq0 hq39
                  go_wp2_with (go_at_call 15; refine (CH2.out _).mono ?_; rintro e w1 ⟨rfl, rfl⟩)
                  go_roundw
                  case rel => exact ⟨k + 1, s[k], d, some (cu.getD []), n, nb, by omega, by go_num, rfl, rfl, by omega, by omega, HN, HNB, HT2, fun _ => rfl, OS.out, OB.out, B1.out⟩
                  case measure => simp [intOf]; omega
                · have b34 : ((s[k].toNat : Int) == 34) = false := beq_u8 h34
                  by_cases h32 : s[k] = 32
                  · have b32 : ((s[k].toNat : Int) == 32) = true := by rw [h32]; rfl
                    have HT2 : Hid (splitT (0, d ++ cu.toList, none) ((bl s).drop (k + 1)) = splitT (0, [], none) (bl s)) := by rw [← HT.out]; exact (HX.out _ (stepW_space hb0 hqx h32 hq0)).symm
                    have HQ0 : Hid (Value.int .u8 (q.toNat : Int) = .int .u8 ((0 : UInt8).toNat : Int)) := by rw [hq0]; rfl
                    clear hqx hb0 h39 h34 h32 hq0 hq39
                    rcases cu with _ | c
                    · go_wp2_with (go_at_call 15; refine (CH2.out _).mono ?_; rintro e w1 ⟨rfl, rfl⟩)
                      go_roundw
                      case rel => exact ⟨k + 1, 0, d, none, n, 0, by omega, by go_num, HQ0.out, rfl, by omega, by omega, HN, rfl, by have := HT2.out; rw [Option.toList_none, List.append_nil] at this; exact this, fun h => absurd rfl h, OS.out, World.ownsRow_nil _ _ _ _, B1.out⟩
                      case measure => simp [intOf]; omega
                    · have kvb := conv_row wr ab nb cb c RB.out HNB.out.symm
                      have HN2 : Hid (n + 1 = (d ++ [c]).length) := by have := HN.out; show _ = _; simp; omega
                      go_wp2_with (first | (go_at_call 15; refine (CH2.out _).mono ?_; rintro e w1 ⟨rfl, rfl⟩) | (at_builtin; refine wpList_pushS2 (.tmp 66) (.tmp 69) w.heap.size _ _ n (d.map mkS) OS.out hwr (by omega) rfl (by rfl) (by rfl) wr.heap.size rfl (by rfl) ?_; intro v5 w5 o5 g5 b5; have OS5 := Lib.hid o5; have B5 := Lib.hid (B1.out.trans b5); clear o5 g5 b5))
                      go_roundw
                      case rel => exact ⟨k + 1, 0, d ++ [c], none, n + 1, 0, by omega, by go_num, HQ0.out, rfl, by omega, by omega, HN2, rfl, HT2, fun h => absurd rfl h, own_len_eq OS5.out rfl (by rw [List.map_append, List.map_append, List.map_append]; rfl), World.ownsRow_nil _ _ _ _, B5.out⟩
                      case measure => simp [intOf]; omega
                  · have b32 : ((s[k].toNat : Int) == 32) = false := beq_u8 h32
                    have HT2 : Hid (splitT (q, d, some (cu.getD [] ++ [s[k]])) ((bl s).drop (k + 1)) = splitT (0, [], none) (bl s)) := by rw [← HT.out]; exact (HX.out _ (stepW_more hb0 hqx (by rintro ⟨h, _⟩; exact h32 h) (by rintro ⟨_, h | h⟩; exact h39 h; exact h34 h))).symm
                    have HNB2 : Hid (nb + 1 = ((some (cu.getD [] ++ [s[k]])).getD []).length) := by have := HNB.out; show _ = _; simp; omega
                    clear hqx hb0 h39 h34 h32 hq0 hq39
                    go_wp2_with (first | (go_at_call 15; refine (CH2.out _).mono ?_; rintro e w1 ⟨rfl, rfl⟩) | (at_builtin; refine wpList_pushB2 (.tmp 35) (.tmp 37) w.heap.size s[k] _ nb (cu.getD []) OB.out hwr (by omega) rfl (by rfl) (by rfl) wr.heap.size rfl (by rfl) ?_; intro v5 w5 o5 g5 b5; have OB5 := Lib.hid o5; have OS5 := Lib.hid (own_other OS.out g5 (fun q hq e => own_types_ne OB.out OS.out (by decide) q e hq)); have B5 := Lib.hid (B1.out.trans b5); clear o5 g5 b5))
                    go_roundw
                    case rel => exact ⟨k + 1, q, d, some (cu.getD [] ++ [s[k]]), n, nb + 1, by omega, by go_num, rfl, rfl, by omega, by omega, HN, HNB2, HT2, fun _ => rfl, OS5.out, OB5.out, B5.out⟩
                    case measure => simp [intOf]; omega
            · have cq0 : ((q.toNat : Int) != 0) = true := ne_u8 hq0
              have hcs := HQC.out hq0
              have c1 : ((s[k].toNat : Int) == (q.toNat : Int)) = false := beq_u8 (fun e => hqx e.symm)
              have HT2 : Hid (splitT (q, d, some (cu.getD [] ++ [s[k]])) ((bl s).drop (k + 1)) = splitT (0, [], none) (bl s)) := by rw [← HT.out]; exact (HX.out _ (stepW_more hb0 hqx (by rintro ⟨_, h⟩; exact hq0 h) (by rintro ⟨h, _⟩; exact hq0 h))).symm
              obtain ⟨c, rfl⟩ := Option.isSome_iff_exists.1 hcs
              have HNB2 : Hid (nb + 1 = ((some ((some c).getD [] ++ [s[k]])).getD []).length) := by have := HNB.out; show _ = _; simp at this ⊢; omega
              clear hqx hb0 hcs hq0 hq39
              go_wp2_with (first | (go_at_call 15; refine (CH2.out _).mono ?_; rintro e w1 ⟨rfl, rfl⟩) | (at_builtin; refine wpList_pushB2 (.tmp 50) (.tmp 52) w.heap.size s[k] _ nb ((some c).getD []) OB.out hwr (by omega) rfl (by rfl) (by rfl) wr.heap.size rfl (by rfl) ?_; intro v5 w5 o5 g5 b5; have OB5 := Lib.hid o5; have OS5 := Lib.hid (own_other OS.out g5 (fun q hq e => own_types_ne OB.out OS.out (by decide) q e hq)); have B5 := Lib.hid (B1.out.trans b5); clear o5 g5 b5))
              go_roundw
              case rel => exact ⟨k + 1, q, d, some ((some c).getD [] ++ [s[k]]), n, nb + 1, by omega, by go_num, rfl, rfl, by omega, by omega, HN, HNB2, HT2, fun _ => rfl, OS5.out, OB5.out, B5.out⟩
              case measure => simp [intOf]; omega
    · have HTN : Hid (splitT (0, [], none) (bl s) = some (q, d, cu)) := by rw [← HT.out, List.drop_eq_nil_of_le (by rw [bl_len]; omega)]; rfl
      rcases cu with _ | c
      · have hq : q = 0 := by
          rcases Classical.em (q = 0) with h | h
          · exact h
          · have := HQC.out h; simp at this
        have HWN : Hid (n = (wordsW (q, d, none)).length) := by have := HN.out; show _ = _; simp [wordsW]; omega
        have b1 : ((q.toNat : Int) != 0) = false := by rw [hq]; rfl
        by_cases h8 : 8 < n
        · have HR : Hid (splitR (bl s) = ([], false)) := splitR_no HTN.out (.inr (by rw [← HWN.out]; exact h8))
          clear hq
          go_wp2
          go_ret2
          exact ⟨_, by rw [HR.out]; rfl, by rw [HR.out]; exact World.ownsRow_nil _ _ _ _, B1.out⟩
        · have HR : Hid (splitR (bl s) = ((wordsW (q, d, none)).map mkS, true)) := splitR_yes HTN.out (by rw [← HWN.out]; rintro (h | h); exact h hq; omega)
          have h8' : decide (8 < (n : Int)) = false := by simp; omega
          clear hq
          go_wp2
          go_ret2
          exact ⟨_, by rw [HR.out]; rfl, by rw [HR.out]; exact own_len_eq OS.out (by rw [HWN.out]; simp) (by simp [wordsW]), B1.out⟩
      · have kvb := conv_row wr ab nb cb c RB.out HNB.out.symm
        have HWN : Hid (n + 1 = (wordsW (q, d, some c)).length) := by have := HN.out; show _ = _; simp [wordsW]; omega
        by_cases hq : q = 0
        · have b1 : ((q.toNat : Int) != 0) = false := by rw [hq]; rfl
          by_cases h8 : 8 < n + 1
          · have HR : Hid (splitR (bl s) = ([], false)) := splitR_no HTN.out (.inr (by rw [← HWN.out]; exact h8))
            clear hq
            go_wp2_with (at_builtin; refine wpList_pushS2 (.tmp 72) (.tmp 75) w.heap.size _ _ n (d.map mkS) OS.out hwr (by omega) rfl (by rfl) (by rfl) wr.heap.size rfl (by rfl) ?_; intro v5 w5 o5 g5 b5; obtain ⟨a5, c5, rfl, _, k5, k5', _⟩ := own_formn o5; have OS5 := Lib.hid o5; have B5 := Lib.hid (B1.out.trans b5); clear o5 g5 b5)
            go_ret2
            exact ⟨_, by rw [HR.out]; rfl, by rw [HR.out]; exact World.ownsRow_nil _ _ _ _, B5.out⟩
          · have HR : Hid (splitR (bl s) = ((wordsW (q, d, some c)).map mkS, true)) := splitR_yes HTN.out (by rw [← HWN.out]; rintro (h | h); exact h hq; omega)
            clear hq
            go_wp2_with (at_builtin; refine wpList_pushS2 (.tmp 72) (.tmp 75) w.heap.size _ _ n (d.map mkS) OS.out hwr (by omega) rfl (by rfl) (by rfl) wr.heap.size rfl (by rfl) ?_; intro v5 w5 o5 g5 b5; obtain ⟨a5, c5, rfl, _, k5, k5', _⟩ := own_formn o5; have OS5 := Lib.hid o5; have B5 := Lib.hid (B1.out.trans b5); clear o5 g5 b5)
            go_ret2
            exact ⟨_, by rw [HR.out]; rfl, by rw [HR.out]; exact own_len_eq OS5.out (by rw [HWN.out]; simp) (by rw [wordsW, List.map_append, List.map_append, List.map_append]; rfl), B5.out⟩
        · have b1 : ((q.toNat : Int) != 0) = true := ne_u8 hq
          have HR : Hid (splitR (bl s) = ([], false)) := splitR_no HTN.out (.inl hq)
          clear hq
          go_wp2_with (at_builtin; refine wpList_pushS2 (.tmp 72) (.tmp 75) w.heap.size _ _ n (d.map mkS) OS.out hwr (by omega) rfl (by rfl) (by rfl) wr.heap.size rfl (by rfl) ?_; intro v5 w5 o5 g5 b5; obtain ⟨a5, c5, rfl, _, k5, k5', _⟩ := own_formn o5; have OS5 := Lib.hid o5; have B5 := Lib.hid (B1.out.trans b5); clear o5 g5 b5)
          go_ret2
          exact ⟨_, by rw [HR.out]; rfl, by rw [HR.out]; exact World.ownsRow_nil _ _ _ _, B5.out⟩
theorem splitR_len (l : List UInt8) : (splitR l).1.length ≤ 8 := by
  rcases h : splitT (0, [], none) l with _ | st
  · rw [splitR_none h]; simp
  · by_cases h2 : st.1 ≠ 0 ∨ 8 < (wordsW st).length
    · rw [splitR_no h h2]; simp
    · rw [splitR_yes h h2]
      simp only [List.length_map]
      omega
end Go.Proofs.YtdiaonhmhmdplaaDoor
