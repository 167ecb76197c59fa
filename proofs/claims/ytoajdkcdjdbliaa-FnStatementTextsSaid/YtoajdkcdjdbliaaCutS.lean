/- The texts of a statement, by the reference. -/
import Derived.Test.YtoajdkcdjdbliaaCut
namespace Go.Proofs.Ytoajdkcdjdbliaa
open Go.RowKit

theorem bne39 {x : UInt8} (h : ¬ x = 39) : ((x.toNat : Int) != 39) = true := by
  rw [bne_iff_ne]; intro e; exact h (UInt8.toNat_inj.1 (by have : (39 : UInt8).toNat = 39 := rfl; omega))
theorem beq39 {x : UInt8} (h : ¬ x = 39) : ((x.toNat : Int) == 39) = false := by
  rw [beq_eq_false_iff_ne]; intro e; exact h (UInt8.toNat_inj.1 (by have : (39 : UInt8).toNat = 39 := rfl; omega))
/-- What stands at a place from which a text's end is known. -/
theorem np_cases {s : ByteArray} {k e : Nat} (hp : np s k = some e) (h : k < s.size) : (¬ s[k] = 39 ∧ np s (k + 1) = some e) ∨ (∃ h1 : k + 1 < s.size, s[k] = 39 ∧ s[k + 1] = 39 ∧ np s (k + 2) = some e) ∨ (s[k] = 39 ∧ e = k + 1 ∧ ¬ ∃ h : k + 1 < s.size, s[k + 1] = 39) := by
  by_cases hx : s[k] = 39
  · by_cases hy : ∃ h : k + 1 < s.size, s[k + 1] = 39
    · obtain ⟨h1, h2⟩ := hy
      rw [np_dd h1 hx h2] at hp
      exact .inr (.inl ⟨h1, hx, h2, hp⟩)
    · rw [np_hit h hx hy] at hp
      exact .inr (.inr ⟨hx, (Option.some.inj hp).symm, hy⟩)
  · rw [np_ne h hx] at hp
    exact .inl ⟨hx, hp⟩
theorem np_gt : ∀ (n : Nat) {s : ByteArray} {k e : Nat}, s.size ≤ k + n → np s k = some e → k < e ∧ e ≤ s.size := by
  intro n
  induction n with
  | zero => intro s k e h hp; rw [np_end (by omega)] at hp; cases hp
  | succ n ih =>
    intro s k e h hp
    have hk := np_some hp
    rcases np_cases hp hk with ⟨_, h2⟩ | ⟨h1, _, _, h2⟩ | ⟨_, h2, _⟩
    · have := ih (k := k + 1) (by omega) h2; omega
    · rcases Nat.lt_or_ge (k + 2) s.size with h3 | h3
      · have := ih (k := k + 2) (by omega) h2; omega
      · rw [np_end h3] at h2; cases h2
    · omega

set_option maxRecDepth 100000 in
set_option maxHeartbeats 3200000 in
theorem spec_StatementTexts (s : ByteArray) (w : World) (hs : s.size ≤ 1099511627776) :
    Calls Try.prog 8 #[.string s] w (StrsOk w (textsR (bl s))) := by
  have CT := fun W' => spec_TextValid s W' (by omega)
  rcases ht : textB (bl s) with _ | _
  · rw [ht] at CT
    have CT' := Lib.hid CT
    have HR := Lib.hid (textsR_bad ht)
    clear CT ht
    have O0 := Lib.hid (own_new w #[] 9 0 rfl (by omega))
    go_enter Try.func8, Try.ntmps8
    go_wp2_with fail
    refine (CT'.out _).mono ?_
    rintro e w1 ⟨rfl, rfl⟩
    go_wp2
    go_ret2
    exact ⟨_, by rw [HR.out]; rfl, by rw [HR.out]; exact O0.out, (Below.refl _ _).alloc (Nat.le_refl _) _⟩
  · rw [ht] at CT
    have CT' := Lib.hid CT
    have HTB := Lib.hid ht
    clear CT ht
    have O0 := Lib.hid (own_new w #[] 9 0 rfl (by omega))
    go_enter Try.func8, Try.ntmps8
    go_wp2_with fail
    refine (CT'.out _).mono ?_
    rintro e w1 ⟨rfl, rfl⟩
    go_wp2
    go_loopw [4, 5] (fun v t wr => ∃ (k n : Nat) (now : List UInt8) (tx bt : List (List UInt8)), k ≤ s.size ∧ t = .int .i64 (k : Int) ∧ n ≤ k ∧ Hid (n = tx.length) ∧ Hid (cutT (false, now, tx, bt) ((bl s).drop k) = cut0 (bl s)) ∧ wr.ownsRow w.heap.size 9 1 v n ((tx.map mkS).map strV) ∧ Below w.heap.size w wr) (fun _ t _ => s.size - (intOf t).toNat)
    case atStart => exact ⟨0, 0, [], [], [], Nat.zero_le _, rfl, Nat.le_refl _, rfl, rfl, O0.out, (Below.refl _ _).alloc (Nat.le_refl _) _⟩
    case round =>
      obtain ⟨k, n, now, tx, bt, hk, rfl, hn, HN, HT, own, hb⟩ := hrel
      have O1 := Lib.hid own; have B1 := Lib.hid hb
      have hwr := hb.size
      obtain ⟨av, cv, rfl, _, kv, kv', _⟩ := own_formn own
      clear own hb
      by_cases hks : k < s.size
      · by_cases hx : s[k] = 39
        · have b1 : ((s[k].toNat : Int) != 39) = false := by rw [hx]; rfl
          have HT2 : Hid (cutT (true, [], tx, bt ++ [now]) ((bl s).drop (k + 1)) = cut0 (bl s)) := by
            rw [← HT.out, cut_step hks _ (by rintro ⟨_, h, _⟩; cases h)]
            unfold stepL
            rw [if_pos hx, if_neg (by simp)]
            rfl
          clear hx
          rcases hp : np s (k + 1) with _ | e
          · have HR : Hid (textsR (bl s) = ([], false)) := by
              apply textsR_open
              rw [← HT2.out]
              unfold np at hp
              rw [Option.map_eq_none_iff] at hp
              exact cut_none _ _ (Nat.le_refl _) hp _ rfl
            have CL := Lib.hid (spec_l36Next s k wr hs (by omega))
            rw [hp] at CL
            clear hp
            go_wp2_with fail
            refine (CL.out).mono ?_
            rintro e w1 ⟨rfl, rfl⟩
            go_wp2
            go_ret2
            exact ⟨_, by rw [HR.out]; rfl, by rw [HR.out]; exact own_mono (own_new wr #[] 9 0 rfl (by omega)) hwr, B1.out.alloc hwr _⟩
          · have hge := np_gt (s.size) (s := s) (k := k + 1) (e := e) (by omega) hp
            have CL := Lib.hid (spec_l36Next s k wr hs (by omega))
            rw [hp] at CL
            have e0 : npV (some e) = (e : Int) := rfl
            rw [e0] at CL
            have HP := Lib.hid hp
            clear hp e0
            go_wp2_with fail
            refine (CL.out).mono ?_
            rintro e9 w1 ⟨rfl, rfl⟩
            generalize bt ++ [now] = bt2 at HT2
            have he0 : (0 : Int) ≤ (e : Int) := by omega
            go_wp2
            go_loop [7, 8] (fun v7 t => ∃ (j : Nat) (x : ByteArray) (acc : List UInt8), k + 1 ≤ j ∧ j + 1 ≤ e ∧ t = .int .i64 (j : Int) ∧ v7 = .string x ∧ x.size ≤ j ∧ Hid (x = mkS acc) ∧ Hid (np s j = some e) ∧ Hid (cutT (true, acc, tx, bt2) ((bl s).drop j) = cut0 (bl s))) (fun _ t => e + 1 - (intOf t).toNat)
            case atStart => exact ⟨k + 1, ⟨#[]⟩, [], Nat.le_refl _, by omega, by go_num, rfl, Nat.zero_le _, rfl, HP, HT2⟩
            case round =>
              obtain ⟨j, x, acc, hj1, hj2, rfl, rfl, hxs, HXA, HPJ, HTJ⟩ := hrel
              have hjs : j < s.size := by omega
              by_cases hje : j + 1 < e
              · rcases np_cases HPJ.out hjs with ⟨h1, h2⟩ | ⟨h0, h1, h2, h3⟩ | ⟨_, h2, _⟩
                · have b2 := beq39 h1
                  have HPJ2 := Lib.hid h2
                  have HTJ2 : Hid (cutT (true, acc ++ [s[j]], tx, bt2) ((bl s).drop (j + 1)) = cut0 (bl s)) := by
                    rw [← HTJ.out, cut_step hjs _ (by rintro ⟨h, _⟩; exact h1 h)]
                    unfold stepL
                    rw [if_neg h1]
                    rfl
                  have HXA2 : Hid (x ++ s.extract j (j + 1) = mkS (acc ++ [s[j]])) := by
                    show _ = _
                    apply bl_inj
                    rw [bl_app, bl_one s j hjs, HXA.out, bl_mkS, bl_mkS]
                  have hsz : (x ++ s.extract j (j + 1)).size ≤ j + 1 := by rw [ByteArray.size_append]; have : (s.extract j (j + 1)).size = 1 := by rw [← bl_len, bl_one s j hjs]; rfl
                                                                           omega
                  have HSZ := Lib.hid hsz
                  clear h1 h2 hsz
                  go_wp2
                  go_round
                  case rel => exact ⟨j + 1, _, acc ++ [s[j]], by omega, by omega, by go_num, rfl, HSZ.out, HXA2, HPJ2, HTJ2⟩
                  case measure => simp [intOf]; omega
                · have b2 : ((s[j].toNat : Int) == 39) = true := by rw [h1]; rfl
                  have HPJ2 := Lib.hid h3
                  have hg2 := np_gt s.size (s := s) (k := j + 2) (e := e) (by omega) h3
                  have HTJ2 : Hid (cutT (true, acc ++ [39], tx, bt2) ((bl s).drop (j + 2)) = cut0 (bl s)) := by
                    rw [← HTJ.out, cut_double h0 h1 h2 _ rfl]; rfl
                  have HXA2 : Hid (x ++ s.extract (j + 1) (j + 2) = mkS (acc ++ [39])) := by
                    show _ = _
                    apply bl_inj
                    rw [bl_app, bl_one s (j + 1) h0, HXA.out, bl_mkS, bl_mkS, h2]
                  have hsz : (x ++ s.extract (j + 1) (j + 2)).size ≤ j + 2 := by rw [ByteArray.size_append]; have : (s.extract (j + 1) (j + 2)).size = 1 := by rw [← bl_len, bl_one s (j + 1) h0]; rfl
                                                                                 omega
                  have HSZ := Lib.hid hsz
                  clear h1 h2 h3 hsz
                  go_wp2
                  go_round
                  case rel => exact ⟨j + 2, _, acc ++ [39], by omega, by omega, by go_num, rfl, HSZ.out, HXA2, HPJ2, HTJ2⟩
                  case measure => simp [intOf]; omega
                · omega
              · have hje2 : e = j + 1 := by omega
                have HTJ2 : Hid (cutT (false, [], tx ++ [acc], bt2) ((bl s).drop e) = cut0 (bl s)) := by
                  rcases np_cases HPJ.out hjs with ⟨_, h2⟩ | ⟨_, _, _, h3⟩ | ⟨h1, _, h3⟩
                  · have := np_gt s.size (s := s) (k := j + 1) (e := e) (by omega) h2; omega
                  · have := np_gt s.size (s := s) (k := j + 2) (e := e) (by omega) h3; omega
                  · rw [← HTJ.out, cut_step hjs _ (by rintro ⟨_, _, h⟩; exact h3 h), hje2]
                    unfold stepL
                    rw [if_pos h1, if_pos rfl]
                    rfl
                have HN2 : Hid (n + 1 = (tx ++ [acc]).length) := by have := HN.out; show _ = _; simp; omega
                have hje3 : (e : Int) ≤ (j : Int) + 1 := by omega
                clear hje2 hje
                go_wp2_with (at_builtin; refine wpList_pushS (.tmp 51) (.tmp 53) w.heap.size _ _ n (tx.map mkS) O1.out hwr (by omega) rfl (by rfl) (by rfl) wr.heap.size rfl (by rfl) ?_; intro v5 w5 o5 b5; have O5 := Lib.hid o5; have B5 := Lib.hid (B1.out.trans b5); clear o5 b5)
                go_roundw
                case rel => exact ⟨e, n + 1, [], tx ++ [acc], bt2, by omega, rfl, by omega, HN2, HTJ2, own_len_eq O5.out rfl (by rw [HXA.out, List.map_append, List.map_append, List.map_append]; rfl), B5.out⟩
                case measure => simp [intOf]; omega
        · have b1 := bne39 hx
          have HT2 : Hid (cutT (false, now ++ [s[k]], tx, bt) ((bl s).drop (k + 1)) = cut0 (bl s)) := by
            rw [← HT.out, cut_step hks _ (by rintro ⟨h, _⟩; exact hx h)]
            unfold stepL
            rw [if_neg hx]
            rfl
          clear hx
          go_wp2
          go_roundw
          case rel => exact ⟨k + 1, n, now ++ [s[k]], tx, bt, by omega, by go_num, by omega, HN, HT2, O1.out, B1.out⟩
          case measure => simp [intOf]; omega
      · have HE : Hid (cut0 (bl s) = (false, now, tx, bt)) := by rw [← HT.out, cut_end (by omega)]; rfl
        have HR : Hid (textsR (bl s) = (tx.map mkS, true)) := textsR_yes HTB.out HE.out rfl
        go_wp2
        go_ret2
        exact ⟨_, by rw [HR.out]; rfl, by rw [HR.out]; exact own_len_eq O1.out (by rw [HN.out]; simp) rfl, B1.out⟩
end Go.Proofs.Ytoajdkcdjdbliaa
