/- Soft lines, of the program and of the reference. -/
import Derived.Test.YtnehdaocfijcpaaStrs
namespace Go.Proofs.Ytnehdaocfijcpaa
open Go.RowKit

def hexC (d : Nat) : UInt8 := if d < 10 then UInt8.ofNat (48 + d) else UInt8.ofNat (55 + d)
def selfB (b : UInt8) : Bool := decide (33 ≤ (b.toNat : Int)) && (decide ((b.toNat : Int) ≤ 126) && !((b.toNat : Int) == 61))
/-- What stands for a byte. -/
def unitB (b : UInt8) : List UInt8 := if selfB b then [b] else [61, hexC (b.toNat / 16), hexC (b.toNat % 16)]
theorem hex_dig : ∀ d : Nat, d < 16 → (⟨#[48, 49, 50, 51, 52, 53, 54, 55, 56, 57, 65, 66, 67, 68, 69, 70]⟩ : ByteArray).extract d (d + 1) = mkS [hexC d] := by
  intro d hd
  apply bl_inj
  rw [bl_ext, bl_mkS]
  have : ∀ d : Fin 16, (List.take (d.1 + 1) (bl ⟨#[48, 49, 50, 51, 52, 53, 54, 55, 56, 57, 65, 66, 67, 68, 69, 70]⟩)).drop d.1 = [hexC d.1] := by decide
  exact this ⟨d, hd⟩
theorem hex_unit (n : Nat) (h : n < 256) : (⟨#[61]⟩ ++ (⟨#[48, 49, 50, 51, 52, 53, 54, 55, 56, 57, 65, 66, 67, 68, 69, 70]⟩ : ByteArray).extract ((n : Int) / 16).toNat ((n : Int) / 16 + 1).toNat ++ (⟨#[48, 49, 50, 51, 52, 53, 54, 55, 56, 57, 65, 66, 67, 68, 69, 70]⟩ : ByteArray).extract ((n : Int) % 16).toNat ((n : Int) % 16 + 1).toNat) = mkS [61, hexC (n / 16), hexC (n % 16)] := by
  rw [show ((n : Int) / 16).toNat = n / 16 by omega, show ((n : Int) / 16 + 1).toNat = n / 16 + 1 by omega, show ((n : Int) % 16).toNat = n % 16 by omega, show ((n : Int) % 16 + 1).toNat = n % 16 + 1 by omega, hex_dig _ (by omega), hex_dig _ (by omega)]
  rfl
theorem ret_str {a b : ByteArray} (h : a = b) : Ending.returned (.string a) = .returned (.string b) := by rw [h]
theorem unitB_no {b : UInt8} (h : selfB b = false) : unitB b = [61, hexC (b.toNat / 16), hexC (b.toNat % 16)] := by unfold unitB; rw [h]; rfl
theorem unitB_yes {b : UInt8} (h : selfB b = true) : unitB b = [b] := by unfold unitB; rw [h]; rfl
theorem unitB_len (b : UInt8) : (unitB b).length ≤ 3 ∧ 1 ≤ (unitB b).length := by unfold unitB; split <;> simp

set_option maxHeartbeats 1600000 in
theorem spec_l40Byte (b : UInt8) (w : World) : Calls Try.prog 25 #[.int .u8 (b.toNat : Int)] w fun e w' => e = .returned (.string (mkS (unitB b))) ∧ Below w.heap.size w w' := by
  have hb0 : (b.toNat : Int) < 256 := by have := b.toNat_lt; omega
  have hb1 : 0 ≤ (b.toNat : Int) := by omega
  rcases hs : selfB b with _ | _
  · have HU := Lib.hid ((congrArg mkS (unitB_no hs)).trans (hex_unit b.toNat (by omega)).symm)
    have q0 : 0 ≤ (b.toNat : Int) / 16 := by omega
    have q1 : (b.toNat : Int) / 16 ≤ 15 := by omega
    have q4 : 0 ≤ (b.toNat : Int) % 16 := by omega
    have q5 : (b.toNat : Int) % 16 ≤ 15 := by omega
    by_cases h1 : 33 ≤ (b.toNat : Int)
    · by_cases h2 : (b.toNat : Int) ≤ 126
      · have h3 : ((b.toNat : Int) == 61) = true := by simpa [selfB, h1, h2] using hs
        have h4 : ((b.toNat : Int) != 61) = false := by simp only [bne, h3]; rfl
        clear hs
        generalize (b.toNat : Int) = x at *
        have q2 : IntKind.u8.wrap (x / 16 + 1) = x / 16 + 1 := by rw [IntKind.wrap_u8]; omega
        have q3 : IntKind.u8.wrap (x % 16 + 1) = x % 16 + 1 := by rw [IntKind.wrap_u8]; omega
        go_enter Try.func25, Try.ntmps25
        go_wp2
        go_quiet (fail)
        go_wp2
        go_ret
        exact ⟨ret_str HU.out.symm, below_drewN (Below.refl _ _) _⟩
      · have h4 : decide ((b.toNat : Int) ≤ 126) = false := by simpa using h2
        clear hs
        generalize (b.toNat : Int) = x at *
        have q2 : IntKind.u8.wrap (x / 16 + 1) = x / 16 + 1 := by rw [IntKind.wrap_u8]; omega
        have q3 : IntKind.u8.wrap (x % 16 + 1) = x % 16 + 1 := by rw [IntKind.wrap_u8]; omega
        go_enter Try.func25, Try.ntmps25
        go_wp2
        go_quiet (fail)
        go_wp2
        go_ret
        exact ⟨ret_str HU.out.symm, below_drewN (Below.refl _ _) _⟩
    · have h4 : decide (33 ≤ (b.toNat : Int)) = false := by simpa using h1
      clear hs
      generalize (b.toNat : Int) = x at *
      have q2 : IntKind.u8.wrap (x / 16 + 1) = x / 16 + 1 := by rw [IntKind.wrap_u8]; omega
      have q3 : IntKind.u8.wrap (x % 16 + 1) = x % 16 + 1 := by rw [IntKind.wrap_u8]; omega
      go_enter Try.func25, Try.ntmps25
      go_wp2
      go_quiet (fail)
      go_wp2
      go_ret
      exact ⟨ret_str HU.out.symm, below_drewN (Below.refl _ _) _⟩
  · have HU : Hid (mkS (unitB b) = mkS [b]) := by rw [unitB_yes hs]; rfl
    have hs' : 33 ≤ (b.toNat : Int) ∧ (b.toNat : Int) ≤ 126 ∧ ((b.toNat : Int) == 61) = false := by
      simp only [selfB, Bool.and_eq_true, decide_eq_true_iff, Bool.not_eq_true'] at hs
      exact hs
    obtain ⟨h1, h2, h3⟩ := hs'
    have h4 : ((b.toNat : Int) != 61) = true := by simp only [bne, h3]; rfl
    have hone := one_str w b
    clear hs
    generalize (b.toNat : Int) = x at *
    go_enter Try.func25, Try.ntmps25
    go_wp2
    go_ret
    exact ⟨ret_str HU.out.symm, (Below.refl _ _).alloc (Nat.le_refl _) _⟩

/-- Lines so far, and the line that is written. -/
def stepS (st : List (List UInt8) × List UInt8) (b : UInt8) : List (List UInt8) × List UInt8 :=
  if 19 < st.2.length + (unitB b).length then (st.1 ++ [st.2 ++ [61]], unitB b) else (st.1, st.2 ++ unitB b)
def softF (l : List UInt8) : List (List UInt8) × List UInt8 := l.foldl stepS ([], [])
def softL (l : List UInt8) : List ByteArray := if l.length ≤ 60 then ((softF l).1 ++ [(softF l).2]).map mkS else []
theorem softF_step {l : List UInt8} {j : Nat} (h : j < l.length) {d : List (List UInt8)} {c : List UInt8} (hs : softF (l.take j) = (d, c)) : softF (l.take (j + 1)) = stepS (d, c) (l.getD j 0) := by
  rw [List.take_add_one, List.getElem?_eq_getElem h, List.getD_eq_getElem?_getD, List.getElem?_eq_getElem h]
  unfold softF at hs ⊢
  rw [List.foldl_append, hs]
  rfl
theorem stepS_long {d : List (List UInt8)} {c : List UInt8} {b : UInt8} (h : 19 < c.length + (unitB b).length) : stepS (d, c) b = (d ++ [c ++ [61]], unitB b) := by unfold stepS; rw [if_pos h]
theorem stepS_short {d : List (List UInt8)} {c : List UInt8} {b : UInt8} (h : ¬ 19 < c.length + (unitB b).length) : stepS (d, c) b = (d, c ++ unitB b) := by unfold stepS; rw [if_neg h]
theorem set_push (L : List (List UInt8)) (y : List UInt8) (us : ByteArray) (h : us = mkS y) : (((L.map mkS) ++ [(⟨#[]⟩ : ByteArray)]).map strV).set L.length (.string ((⟨#[]⟩ : ByteArray) ++ us)) = ((L ++ [y]).map mkS).map strV := by
  have := set_last strV (L.map mkS) (⟨#[]⟩ : ByteArray) (.string ((⟨#[]⟩ : ByteArray) ++ us))
  rw [List.length_map] at this
  rw [this, List.map_append, List.map_append, h]
  have e : (⟨#[]⟩ : ByteArray) ++ mkS y = mkS y := mkS_app [] y
  rw [e]
  rfl
theorem set_more (L : List (List UInt8)) (c y : List UInt8) (cs us : ByteArray) (hc : cs = mkS c) (h : us = mkS y) : (((L ++ [c]).map mkS).map strV).set L.length (.string (cs ++ us)) = ((L ++ [c ++ y]).map mkS).map strV := by
  rw [List.map_map, set_last, List.map_map, List.map_append, hc, h, mkS_app]
  rfl
theorem softL_yes {l : List UInt8} (h : l.length ≤ 60) {d : List (List UInt8)} {c : List UInt8} (hs : softF l = (d, c)) : softL l = (d ++ [c]).map mkS := by unfold softL; rw [if_pos h, hs]
theorem softL_no {l : List UInt8} (h : 60 < l.length) : softL l = [] := by unfold softL; rw [if_neg (by omega)]

set_option maxRecDepth 100000 in
set_option maxHeartbeats 1600000 in
theorem spec_SoftLines (a : Option Addr) (n c0 : Nat) (l : List UInt8) (w : World) (h : RowAt w a (l.map byteV)) (hn : l.length = n) (hn' : n ≤ 4611686018427387904) :
    Calls Try.prog 7 #[.slice a n c0] w fun e w' => ∃ v, e = .returned v ∧ w'.ownsRow w.heap.size 9 1 v (softL l).length ((softL l).map strV) ∧ Below w.heap.size w w' := by
  have H := Lib.hid h; have HN := Lib.hid hn
  clear h hn
  go_enter Try.func7, Try.ntmps7
  go_wp2
  have O0 := Lib.hid (own_new w #[.string ⟨#[]⟩] 9 1 rfl (by omega))
  go_loopw [3, 4] (fun v t wr => ∃ (j : Nat) (d : List (List UInt8)) (c : List UInt8), j ≤ n ∧ t = .int .i64 (j : Int) ∧ d.length ≤ j ∧ j ≤ 60 ∧ c.length ≤ 19 ∧ Hid (softF (l.take j) = (d, c)) ∧ wr.ownsRow w.heap.size 9 1 v (d.length + 1) (((d ++ [c]).map mkS).map strV) ∧ Below w.heap.size w wr) (fun _ t _ => n - (intOf t).toNat)
  case atStart => exact ⟨0, [], [], Nat.zero_le _, rfl, Nat.le_refl _, by omega, by simp, rfl, O0.out, (Below.refl _ _).alloc (Nat.le_refl _) _⟩
  case round =>
    obtain ⟨j, d, c, hj, rfl, hd, hj60, hc, HF, own, hb⟩ := hrel
    have O1 := Lib.hid own; have B1 := Lib.hid hb
    obtain ⟨g, cv, rfl, hBg, hgl, kv, kv', hcell⟩ := own_at own (by omega)
    have HC := Lib.hid hcell
    clear own hb hcell
    by_cases hjn : j < n
    · by_cases h60 : n ≤ 60
      · obtain ⟨b, off, rfl, hlt, hcb⟩ := row_byte (H.out.below (Nat.le_refl _) B1.out) j (by rw [HN.out]; exact hjn)
        have HS := Lib.hid (softF_step (by rw [HN.out]; exact hjn) HF.out)
        have hg : l.getD j 0 = l[j]'(by rw [HN.out]; exact hjn) := by rw [List.getD_eq_getElem?_getD, List.getElem?_eq_getElem]; rfl
        rw [← hg] at hcb
        clear hg
        generalize l.getD j 0 = x at hcb HS
        obtain ⟨cs, hcs⟩ : ∃ cs, cs = mkS c := ⟨_, rfl⟩
        obtain ⟨us, hus⟩ : ∃ us, us = mkS (unitB x) := ⟨_, rfl⟩
        have hcs1 : cs.size = c.length := by rw [hcs, mkS_size]
        have hus1 : us.size = (unitB x).length := by rw [hus, mkS_size]
        have hul := unitB_len x
        have HL := Lib.hid hcs1; have HUL := Lib.hid hus1
        have hcl : wr.cell? ⟨g, d.length, none⟩ = some (.string cs) := HC.out _ _ (by rw [hcs]; simp [strV])
        have HCS := Lib.hid hcs; have HUS := Lib.hid hus
        have cu1 : cs.size ≤ 19 := by omega
        have cu2 : us.size ≤ 3 := by omega
        clear hcs hus hul
        go_wp2_with fail
        refine (spec_l40Byte x _).mono ?_
        rintro e w1 ⟨rfl, b1⟩
        rw [← HUS.out]
        have O2 := Lib.hid (own_below O1.out b1)
        have B2 := Lib.hid (B1.out.trans (b1.mono B1.out.size))
        have hcl1 : w1.cell? ⟨g, d.length, none⟩ = some (.string cs) := (b1.cell (p := ⟨g, d.length, none⟩) hgl).trans hcl
        clear b1 hcl
        by_cases hlong : 19 < cs.size + us.size
        · obtain ⟨f0, _, hS, _⟩ := own_setn O2.out d.length (by omega) (.string (cs ++ ⟨#[61]⟩))
          have e1 := set_more d c [61] cs ⟨#[61]⟩ HCS.out rfl
          rw [e1] at hS
          have HS2 := Lib.hid hS
          have hF2 : softF (l.take (j + 1)) = (d ++ [c ++ [61]], unitB x) := by rw [HS.out, stepS_long (by rw [← HL.out, ← HUL.out]; exact hlong)]
          have HF2 := Lib.hid hF2
          have hu19 : (unitB x).length ≤ 19 := by have := unitB_len x; omega
          have B3 := Lib.hid (B2.out.setCell (p := ⟨g, d.length, none⟩) hBg (.string (cs ++ ⟨#[61]⟩)))
          clear hS e1 hcs1 hus1 hF2
          go_wp2_with (at_builtin; go_loud (refine wpList_pushS (.tmp 44) (.tmp 45) w.heap.size ⟨#[]⟩ _ (d.length + 1) ((d ++ [c ++ [61]]).map mkS) HS2.out B3.out.size (by omega) rfl rfl rfl w1.heap.size (by simp) rfl ?_); intro v5 w5 o5 b5; have O5 := Lib.hid o5; have B5 := Lib.hid (B3.out.trans b5); obtain ⟨g5, c5, rfl, hBg5, hgl5, k5, k5', hc5⟩ := own_at o5 (by omega); have hcl5 : w5.cell? ⟨g5, d.length + 1, none⟩ = some (.string ⟨#[]⟩) := hc5 _ _ (by simp [strV]); obtain ⟨f5, _, hS5, _⟩ := own_setn o5 (d.length + 1) (by omega) (.string (⟨#[]⟩ ++ us)); have HS5 := Lib.hid hS5; clear o5 b5 hc5 hS5)
          go_roundw
          case rel =>
            refine ⟨j + 1, d ++ [c ++ [61]], unitB x, by omega, by go_num, by simp; omega, by omega, hu19, HF2, own_len_eq HS5.out (by simp) ?_, B5.out.setCell (p := ⟨g5, d.length + 1, none⟩) hBg5 _⟩
            rw [show d.length + 1 = (d ++ [c ++ [61]]).length by simp]
            exact set_push _ _ _ HUS.out
          case measure => simp [intOf]; omega
        · obtain ⟨f0, _, hS, _⟩ := own_setn O2.out d.length (by omega) (.string (cs ++ us))
          have e1 := set_more d c (unitB x) cs us HCS.out HUS.out
          rw [e1] at hS
          have HS2 := Lib.hid hS
          have HF2 : Hid (softF (l.take (j + 1)) = (d, c ++ unitB x)) := by rw [HS.out, stepS_short (by rw [← HL.out, ← HUL.out]; exact hlong)]; rfl
          have hu19 : (c ++ unitB x).length ≤ 19 := by rw [List.length_append]; omega
          have HU19 := Lib.hid hu19
          clear hS e1 hcs1 hus1 hu19
          go_wp2
          go_roundw
          case rel => exact ⟨j + 1, d, c ++ unitB x, by omega, by go_num, by omega, by omega, HU19.out, HF2, HS2.out, B2.out.setCell (p := ⟨g, d.length, none⟩) hBg _⟩
          case measure => simp [intOf]; omega
      · have HR := Lib.hid (softL_no (l := l) (by rw [HN.out]; omega))
        have h60' : decide ((n : Int) ≤ 60) = false := by simp; omega
        go_wp2
        go_ret
        exact ⟨_, rfl, by rw [HR.out]; exact own_mono (own_new wr #[] 9 0 rfl (by omega)) B1.out.size, B1.out.alloc B1.out.size _⟩
    · obtain rfl : j = n := by omega
      have HR := Lib.hid (softL_yes (l := l) (d := d) (c := c) (by rw [HN.out]; exact hj60) (by have := HF.out; rwa [List.take_of_length_le (by rw [HN.out]; omega)] at this))
      go_wp2
      go_ret
      exact ⟨_, rfl, by rw [HR.out]; exact own_len_eq O1.out (by simp) rfl, B1.out⟩
end Go.Proofs.Ytnehdaocfijcpaa
