/- Soft lines, of the program: the same lines. -/
import Derived.Test.YtnehdaocfijcpaaSoft
import Derived.Deep.DeepCutAuto
import Derived.RegionTactic
import Derived.Deep.RegionHeld3
namespace Go.Proofs.Ytnehdaocfijcpaa
open Go.RowKit

theorem hex_ix (d : Nat) (h : d < 16) : (⟨#[48, 49, 50, 51, 52, 53, 54, 55, 56, 57, 65, 66, 67, 68, 69, 70]⟩ : ByteArray)[d]'h = hexC d := by
  have : ∀ d : Fin 16, (⟨#[48, 49, 50, 51, 52, 53, 54, 55, 56, 57, 65, 66, 67, 68, 69, 70]⟩ : ByteArray)[d.1]'d.2 = hexC d.1 := by decide
  exact this ⟨d, h⟩
theorem two_str (w : World) (b c : UInt8) (H : Nat) (hH : w.heap.size = H) : (convert 22 9 (.slice (some ⟨H, 0, none⟩) 2 2)).run Try.prog (w.alloc (.cells #[.int .u8 (b.toNat : Int), .int .u8 (c.toNat : Int)] 5 (0, 0))).drew = .ok (.string (mkS [b, c])) (w.alloc (.cells #[.int .u8 (b.toNat : Int), .int .u8 (c.toNat : Int)] 5 (0, 0))).drew := by
  subst hH
  have h := own_formn_row (own_new w #[.int .u8 (b.toNat : Int), .int .u8 (c.toNat : Int)] 5 2 rfl (by omega))
  exact conv_row _ _ 2 2 [b, c] h rfl

set_option maxRecDepth 100000 in
set_option maxHeartbeats 1600000 in
theorem impl_SoftLines (a : Option Addr) (n c0 : Nat) (l : List UInt8) (w : World) (h : RowAt w a (l.map byteV)) (hn : l.length = n) (hn' : n ≤ 4611686018427387904) :
    Calls Try.prog 9 #[.slice a n c0] w fun e w' => ∃ v, e = .returned v ∧ w'.ownsRow w.heap.size 9 1 v (softL l).length ((softL l).map strV) ∧ Below w.heap.size w w' := by
  have H := Lib.hid h; have HN := Lib.hid hn
  clear h hn
  by_cases h60 : 60 < n
  · have HR := Lib.hid (softL_no (l := l) (by rw [HN.out]; omega))
    go_enter Try.func9, Try.ntmps9
    go_wp2
    go_ret
    exact ⟨_, rfl, by rw [HR.out]; exact World.ownsRow_nil _ _ _ _, Below.refl _ _⟩
  go_enter Try.func9, Try.ntmps9
  go_wp2
  have O0 := Lib.hid (own_new w #[] 9 0 rfl (by omega))
  go_loopw [3, 4, 14] (fun v q t wr => ∃ (j : Nat) (d : List (List UInt8)) (c : List UInt8) (cs : ByteArray), j ≤ n ∧ t = .int .i64 (j : Int) ∧ q = .string cs ∧ Hid (cs = mkS c) ∧ d.length ≤ j ∧ c.length ≤ 19 ∧ Hid (softF (l.take j) = (d, c)) ∧ wr.ownsRow w.heap.size 9 1 v d.length ((d.map mkS).map strV) ∧ Below w.heap.size w wr) (fun _ _ t _ => n - (intOf t).toNat)
  case atStart => exact ⟨0, [], [], ⟨#[]⟩, Nat.zero_le _, rfl, rfl, rfl, Nat.le_refl _, by simp, rfl, O0.out, (Below.refl _ _).alloc (Nat.le_refl _) _⟩
  case round =>
    obtain ⟨j, d, c, cs, hj, rfl, rfl, HCS, hd, hc, HF, own, hb⟩ := hrel
    have O1 := Lib.hid own; have B1 := Lib.hid hb
    obtain ⟨av, cv, rfl, _, kv, kv', _⟩ := own_formn own
    clear own hb
    have hcs1 : cs.size = c.length := by rw [HCS.out, mkS_size]
    have HL := Lib.hid hcs1
    have cu1 : cs.size ≤ 19 := by omega
    clear hcs1
    by_cases hjn : j < n
    · obtain ⟨b, off, rfl, hlt, hcb⟩ := row_byte (H.out.below (Nat.le_refl _) B1.out) j (by rw [HN.out]; exact hjn)
      have HS := Lib.hid (softF_step (by rw [HN.out]; exact hjn) HF.out)
      rw [← getD_at (by rw [HN.out]; exact hjn) 0] at hcb
      generalize l.getD j 0 = x at hcb HS
      obtain ⟨us, hus⟩ : ∃ us, us = mkS (unitB x) := ⟨_, rfl⟩
      have hus1 : us.size = (unitB x).length := by rw [hus, mkS_size]
      have hul := unitB_len x
      have HUL := Lib.hid hus1
      have HUS := Lib.hid hus
      have cu2 : us.size ≤ 3 := by omega
      have hone := one_str wr x
      clear hus hul hus1
      have hb0 : (x.toNat : Int) < 256 := by have := x.toNat_lt; omega
      have hb1 : 0 ≤ (x.toNat : Int) := by omega
      have HB2 := Lib.hid (B1.out.alloc B1.out.size (.cells #[.int .u8 (x.toNat : Int)] 5 (0, 0)))
      rcases hs : selfB x with _ | _
      · by_cases h1 : 33 ≤ (x.toNat : Int)
        · by_cases h2 : (x.toNat : Int) ≤ 126
          · have h3 : ((x.toNat : Int) == 61) = true := by simpa [selfB, h1, h2] using hs
            have q0 : 0 ≤ (x.toNat : Int) / 16 := by omega
            have q1 : (x.toNat : Int) / 16 < 16 := by omega
            have q2 : bits BinOp.and IntKind.u8 (x.toNat : Int) 15 = (x.toNat : Int) % 16 := u8_and15 _ hb1 hb0
            have q3 : 0 ≤ (x.toNat : Int) % 16 := by omega
            have q4 : (x.toNat : Int) % 16 < 16 := by omega
            have e1 := hex_ix (x.toNat / 16) (by omega)
            have e2 := hex_ix (x.toNat % 16) (by omega)
            have e3 := two_str (wr.alloc (.cells #[.int .u8 (x.toNat : Int)] 5 (0, 0))) (hexC (x.toNat / 16)) (hexC (x.toNat % 16)) (wr.heap.size + 1) (by simp)
            have hd2 : (mkS [hexC (x.toNat / 16), hexC (x.toNat % 16)]).size ≤ 2 := by rw [mkS_size]; exact Nat.le_refl _
            have HD : Hid (⟨#[61]⟩ ++ mkS [hexC (x.toNat / 16), hexC (x.toNat % 16)] = us) := by rw [HUS.out, unitB_no hs]; exact mkS_app [61] _
            generalize mkS [hexC (x.toNat / 16), hexC (x.toNat % 16)] = dd at e3 hd2 HD
            clear hs
            go_wp2
            go_region
            rw [HD.out]
            obtain ⟨W, hW⟩ : ∃ W, W = ((wr.alloc (.cells #[.int .u8 (x.toNat : Int)] 5 (0, 0))).alloc (.cells #[.int .u8 ((hexC (x.toNat / 16)).toNat : Int), .int .u8 ((hexC (x.toNat % 16)).toNat : Int)] 5 (0, 0))).drew := ⟨_, rfl⟩
            rw [← hW]
            have hbW : Below wr.heap.size wr W := by rw [hW]; exact (((Below.refl _ _).alloc (Nat.le_refl _) _).alloc (by simp) _).drew
            clear hW e1 e2 e3 q2 HD hd2
            have B2 := Lib.hid (B1.out.trans (hbW.mono B1.out.size))
            have O2 := Lib.hid (own_below O1.out hbW)
            clear hbW hone HB2
            by_cases hlong : 19 < cs.size + us.size
            · have HF2 : Hid (softF (l.take (j + 1)) = (d ++ [c ++ [61]], unitB x)) := by rw [HS.out, stepS_long (by rw [← HL.out, ← HUL.out]; exact hlong)]; rfl
              have hu19 : (unitB x).length ≤ 19 := by have := unitB_len x; omega
              have HE : Hid (⟨#[]⟩ ++ us = mkS (unitB x)) := by rw [HUS.out]; exact mkS_app [] _
              go_wp2_with (at_builtin; refine wpList_pushS (.tmp 46) (.tmp 49) w.heap.size _ _ d.length (d.map mkS) O2.out B2.out.size (by omega) rfl (by rfl) (by rfl) W.heap.size rfl (by rfl) ?_; intro v5 w5 o5 b5; have O5 := Lib.hid o5; have B5 := Lib.hid (B2.out.trans b5); clear o5 b5)
              go_roundw
              case rel => exact ⟨j + 1, d ++ [c ++ [61]], unitB x, _, by omega, by go_num, rfl, HE, by simp; omega, hu19, HF2, own_len_eq O5.out (by simp) (by rw [HCS.out]; rw [List.map_append, List.map_append, List.map_append]; exact congrArg (fun z => List.map strV (List.map mkS d) ++ [Value.string z]) (mkS_app c [61])), B5.out⟩
              case measure => simp [intOf]; omega
            · have HF2 : Hid (softF (l.take (j + 1)) = (d, c ++ unitB x)) := by rw [HS.out, stepS_short (by rw [← HL.out, ← HUL.out]; exact hlong)]; rfl
              have HU19 : Hid ((c ++ unitB x).length ≤ 19) := by rw [List.length_append, ← HL.out, ← HUL.out]; show _ ≤ _; omega
              have HE : Hid (cs ++ us = mkS (c ++ unitB x)) := by rw [HCS.out, HUS.out, mkS_app]; rfl
              go_wp2
              go_roundw
              case rel => exact ⟨j + 1, d, c ++ unitB x, _, by omega, by go_num, rfl, HE, by omega, HU19.out, HF2, O2.out, B2.out⟩
              case measure => simp [intOf]; omega
          · have h4 : decide ((x.toNat : Int) ≤ 126) = false := by simpa using h2
            have q0 : 0 ≤ (x.toNat : Int) / 16 := by omega
            have q1 : (x.toNat : Int) / 16 < 16 := by omega
            have q2 : bits BinOp.and IntKind.u8 (x.toNat : Int) 15 = (x.toNat : Int) % 16 := u8_and15 _ hb1 hb0
            have q3 : 0 ≤ (x.toNat : Int) % 16 := by omega
            have q4 : (x.toNat : Int) % 16 < 16 := by omega
            have e1 := hex_ix (x.toNat / 16) (by omega)
            have e2 := hex_ix (x.toNat % 16) (by omega)
            have e3 := two_str (wr.alloc (.cells #[.int .u8 (x.toNat : Int)] 5 (0, 0))) (hexC (x.toNat / 16)) (hexC (x.toNat % 16)) (wr.heap.size + 1) (by simp)
            have hd2 : (mkS [hexC (x.toNat / 16), hexC (x.toNat % 16)]).size ≤ 2 := by rw [mkS_size]; exact Nat.le_refl _
            have HD : Hid (⟨#[61]⟩ ++ mkS [hexC (x.toNat / 16), hexC (x.toNat % 16)] = us) := by rw [HUS.out, unitB_no hs]; exact mkS_app [61] _
            generalize mkS [hexC (x.toNat / 16), hexC (x.toNat % 16)] = dd at e3 hd2 HD
            clear hs
            go_wp2
            go_region
            rw [HD.out]
            obtain ⟨W, hW⟩ : ∃ W, W = ((wr.alloc (.cells #[.int .u8 (x.toNat : Int)] 5 (0, 0))).alloc (.cells #[.int .u8 ((hexC (x.toNat / 16)).toNat : Int), .int .u8 ((hexC (x.toNat % 16)).toNat : Int)] 5 (0, 0))).drew := ⟨_, rfl⟩
            rw [← hW]
            have hbW : Below wr.heap.size wr W := by rw [hW]; exact (((Below.refl _ _).alloc (Nat.le_refl _) _).alloc (by simp) _).drew
            clear hW e1 e2 e3 q2 HD hd2
            have B2 := Lib.hid (B1.out.trans (hbW.mono B1.out.size))
            have O2 := Lib.hid (own_below O1.out hbW)
            clear hbW hone HB2
            by_cases hlong : 19 < cs.size + us.size
            · have HF2 : Hid (softF (l.take (j + 1)) = (d ++ [c ++ [61]], unitB x)) := by rw [HS.out, stepS_long (by rw [← HL.out, ← HUL.out]; exact hlong)]; rfl
              have hu19 : (unitB x).length ≤ 19 := by have := unitB_len x; omega
              have HE : Hid (⟨#[]⟩ ++ us = mkS (unitB x)) := by rw [HUS.out]; exact mkS_app [] _
              go_wp2_with (at_builtin; refine wpList_pushS (.tmp 46) (.tmp 49) w.heap.size _ _ d.length (d.map mkS) O2.out B2.out.size (by omega) rfl (by rfl) (by rfl) W.heap.size rfl (by rfl) ?_; intro v5 w5 o5 b5; have O5 := Lib.hid o5; have B5 := Lib.hid (B2.out.trans b5); clear o5 b5)
              go_roundw
              case rel => exact ⟨j + 1, d ++ [c ++ [61]], unitB x, _, by omega, by go_num, rfl, HE, by simp; omega, hu19, HF2, own_len_eq O5.out (by simp) (by rw [HCS.out]; rw [List.map_append, List.map_append, List.map_append]; exact congrArg (fun z => List.map strV (List.map mkS d) ++ [Value.string z]) (mkS_app c [61])), B5.out⟩
              case measure => simp [intOf]; omega
            · have HF2 : Hid (softF (l.take (j + 1)) = (d, c ++ unitB x)) := by rw [HS.out, stepS_short (by rw [← HL.out, ← HUL.out]; exact hlong)]; rfl
              have HU19 : Hid ((c ++ unitB x).length ≤ 19) := by rw [List.length_append, ← HL.out, ← HUL.out]; show _ ≤ _; omega
              have HE : Hid (cs ++ us = mkS (c ++ unitB x)) := by rw [HCS.out, HUS.out, mkS_app]; rfl
              go_wp2
              go_roundw
              case rel => exact ⟨j + 1, d, c ++ unitB x, _, by omega, by go_num, rfl, HE, by omega, HU19.out, HF2, O2.out, B2.out⟩
              case measure => simp [intOf]; omega
        · have h4 : decide (33 ≤ (x.toNat : Int)) = false := by simpa using h1
          have q0 : 0 ≤ (x.toNat : Int) / 16 := by omega
          have q1 : (x.toNat : Int) / 16 < 16 := by omega
          have q2 : bits BinOp.and IntKind.u8 (x.toNat : Int) 15 = (x.toNat : Int) % 16 := u8_and15 _ hb1 hb0
          have q3 : 0 ≤ (x.toNat : Int) % 16 := by omega
          have q4 : (x.toNat : Int) % 16 < 16 := by omega
          have e1 := hex_ix (x.toNat / 16) (by omega)
          have e2 := hex_ix (x.toNat % 16) (by omega)
          have e3 := two_str (wr.alloc (.cells #[.int .u8 (x.toNat : Int)] 5 (0, 0))) (hexC (x.toNat / 16)) (hexC (x.toNat % 16)) (wr.heap.size + 1) (by simp)
          have hd2 : (mkS [hexC (x.toNat / 16), hexC (x.toNat % 16)]).size ≤ 2 := by rw [mkS_size]; exact Nat.le_refl _
          have HD : Hid (⟨#[61]⟩ ++ mkS [hexC (x.toNat / 16), hexC (x.toNat % 16)] = us) := by rw [HUS.out, unitB_no hs]; exact mkS_app [61] _
          generalize mkS [hexC (x.toNat / 16), hexC (x.toNat % 16)] = dd at e3 hd2 HD
          clear hs
          go_wp2
          go_region
          rw [HD.out]
          obtain ⟨W, hW⟩ : ∃ W, W = ((wr.alloc (.cells #[.int .u8 (x.toNat : Int)] 5 (0, 0))).alloc (.cells #[.int .u8 ((hexC (x.toNat / 16)).toNat : Int), .int .u8 ((hexC (x.toNat % 16)).toNat : Int)] 5 (0, 0))).drew := ⟨_, rfl⟩
          rw [← hW]
          have hbW : Below wr.heap.size wr W := by rw [hW]; exact (((Below.refl _ _).alloc (Nat.le_refl _) _).alloc (by simp) _).drew
          clear hW e1 e2 e3 q2 HD hd2
          have B2 := Lib.hid (B1.out.trans (hbW.mono B1.out.size))
          have O2 := Lib.hid (own_below O1.out hbW)
          clear hbW hone HB2
          by_cases hlong : 19 < cs.size + us.size
          · have HF2 : Hid (softF (l.take (j + 1)) = (d ++ [c ++ [61]], unitB x)) := by rw [HS.out, stepS_long (by rw [← HL.out, ← HUL.out]; exact hlong)]; rfl
            have hu19 : (unitB x).length ≤ 19 := by have := unitB_len x; omega
            have HE : Hid (⟨#[]⟩ ++ us = mkS (unitB x)) := by rw [HUS.out]; exact mkS_app [] _
            go_wp2_with (at_builtin; refine wpList_pushS (.tmp 46) (.tmp 49) w.heap.size _ _ d.length (d.map mkS) O2.out B2.out.size (by omega) rfl (by rfl) (by rfl) W.heap.size rfl (by rfl) ?_; intro v5 w5 o5 b5; have O5 := Lib.hid o5; have B5 := Lib.hid (B2.out.trans b5); clear o5 b5)
            go_roundw
            case rel => exact ⟨j + 1, d ++ [c ++ [61]], unitB x, _, by omega, by go_num, rfl, HE, by simp; omega, hu19, HF2, own_len_eq O5.out (by simp) (by rw [HCS.out]; rw [List.map_append, List.map_append, List.map_append]; exact congrArg (fun z => List.map strV (List.map mkS d) ++ [Value.string z]) (mkS_app c [61])), B5.out⟩
            case measure => simp [intOf]; omega
          · have HF2 : Hid (softF (l.take (j + 1)) = (d, c ++ unitB x)) := by rw [HS.out, stepS_short (by rw [← HL.out, ← HUL.out]; exact hlong)]; rfl
            have HU19 : Hid ((c ++ unitB x).length ≤ 19) := by rw [List.length_append, ← HL.out, ← HUL.out]; show _ ≤ _; omega
            have HE : Hid (cs ++ us = mkS (c ++ unitB x)) := by rw [HCS.out, HUS.out, mkS_app]; rfl
            go_wp2
            go_roundw
            case rel => exact ⟨j + 1, d, c ++ unitB x, _, by omega, by go_num, rfl, HE, by omega, HU19.out, HF2, O2.out, B2.out⟩
            case measure => simp [intOf]; omega
      · have h4 : 33 ≤ (x.toNat : Int) ∧ (x.toNat : Int) ≤ 126 ∧ ((x.toNat : Int) == 61) = false := by
          simp only [selfB, Bool.and_eq_true, decide_eq_true_iff, Bool.not_eq_true'] at hs
          exact hs
        obtain ⟨h1, h2, h3⟩ := h4
        have HX : Hid (mkS [x] = us) := by rw [HUS.out, unitB_yes hs]; rfl
        rw [HX.out] at hone
        clear hs
        go_upto_region 11 with (fail)
        obtain ⟨W, hW⟩ : ∃ W, W = (wr.alloc (.cells #[.int .u8 (x.toNat : Int)] 5 (0, 0))) := ⟨_, rfl⟩
        rw [← hW]
        have hbW : Below wr.heap.size wr W := by rw [hW]; exact ((Below.refl _ _).alloc (Nat.le_refl _) _)
        rw [← hW] at hone HB2
        clear hW
        have B2 := Lib.hid (B1.out.trans (hbW.mono B1.out.size))
        have O2 := Lib.hid (own_below O1.out hbW)
        clear hbW hone HB2
        by_cases hlong : 19 < cs.size + us.size
        · have HF2 : Hid (softF (l.take (j + 1)) = (d ++ [c ++ [61]], unitB x)) := by rw [HS.out, stepS_long (by rw [← HL.out, ← HUL.out]; exact hlong)]; rfl
          have hu19 : (unitB x).length ≤ 19 := by have := unitB_len x; omega
          have HE : Hid (⟨#[]⟩ ++ us = mkS (unitB x)) := by rw [HUS.out]; exact mkS_app [] _
          go_wp2_with (at_builtin; refine wpList_pushS (.tmp 46) (.tmp 49) w.heap.size _ _ d.length (d.map mkS) O2.out B2.out.size (by omega) rfl (by rfl) (by rfl) W.heap.size rfl (by rfl) ?_; intro v5 w5 o5 b5; have O5 := Lib.hid o5; have B5 := Lib.hid (B2.out.trans b5); clear o5 b5)
          go_roundw
          case rel => exact ⟨j + 1, d ++ [c ++ [61]], unitB x, _, by omega, by go_num, rfl, HE, by simp; omega, hu19, HF2, own_len_eq O5.out (by simp) (by rw [HCS.out]; rw [List.map_append, List.map_append, List.map_append]; exact congrArg (fun z => List.map strV (List.map mkS d) ++ [Value.string z]) (mkS_app c [61])), B5.out⟩
          case measure => simp [intOf]; omega
        · have HF2 : Hid (softF (l.take (j + 1)) = (d, c ++ unitB x)) := by rw [HS.out, stepS_short (by rw [← HL.out, ← HUL.out]; exact hlong)]; rfl
          have HU19 : Hid ((c ++ unitB x).length ≤ 19) := by rw [List.length_append, ← HL.out, ← HUL.out]; show _ ≤ _; omega
          have HE : Hid (cs ++ us = mkS (c ++ unitB x)) := by rw [HCS.out, HUS.out, mkS_app]; rfl
          go_wp2
          go_roundw
          case rel => exact ⟨j + 1, d, c ++ unitB x, _, by omega, by go_num, rfl, HE, by omega, HU19.out, HF2, O2.out, B2.out⟩
          case measure => simp [intOf]; omega
    · obtain rfl : j = n := by omega
      have HR := Lib.hid (softL_yes (l := l) (d := d) (c := c) (by rw [HN.out]; omega) (by have := HF.out; rwa [List.take_of_length_le (by rw [HN.out]; omega)] at this))
      go_wp2_with (at_builtin; refine wpList_pushS (.tmp 55) (.tmp 57) w.heap.size _ _ d.length (d.map mkS) O1.out B1.out.size (by omega) rfl (by rfl) (by rfl) wr.heap.size rfl (by rfl) ?_; intro v5 w5 o5 b5; have O5 := Lib.hid o5; have B5 := Lib.hid (B1.out.trans b5); clear o5 b5)
      go_ret
      exact ⟨_, rfl, by rw [HR.out]; exact own_len_eq O5.out (by simp) (by rw [HCS.out, List.map_append, List.map_append, List.map_append]; rfl), B5.out⟩
end Go.Proofs.Ytnehdaocfijcpaa
