/- EscapeStars and StarsPlain, of the program and of the reference. -/
import Derived.Test.YtlilmphbjmjpdaaBv
namespace Go.Proofs.Ytlilmphbjmjpdaa
open Go.RowKit

theorem beq_no {a b : Int} (h : ¬ a = b) : (a == b) = false := by simpa using h
theorem beq_yes {a b : Int} (h : a = b) : (a == b) = true := by simpa using h
theorem ret_str {a b : ByteArray} (h : a = b) : Ending.returned (.string a) = .returned (.string b) := by rw [h]
theorem ret_strb {a b : ByteArray} {x y : Bool} (h : a = b) (h' : x = y) : Ending.returned (.tuple #[.string a, .bool x]) = .returned (.tuple #[.string b, .bool y]) := by rw [h, h']
/-- The signs that are set behind a backslash. -/
def starC (c : UInt8) : Bool := decide ((c.toNat : Int) = 42 ∨ (c.toNat : Int) = 63 ∨ (c.toNat : Int) = 92)
def escC (c : UInt8) : List UInt8 := if starC c then [92, c] else [c]
def escT (l : List UInt8) : List UInt8 := l.flatMap escC
def escB (l : List UInt8) : List UInt8 := if textB l then escT l else []
theorem escT_snoc (l : List UInt8) (c : UInt8) : escT (l ++ [c]) = escT l ++ escC c := by simp [escT]
theorem escC_le (c : UInt8) : (escC c).length ≤ 2 := by unfold escC; split <;> simp
theorem escT_le (l : List UInt8) : (escT l).length ≤ 2 * l.length := by
  induction l with
  | nil => simp [escT]
  | cons c l ih =>
    have := escC_le c
    simp only [escT, List.flatMap_cons, List.length_append, List.length_cons] at ih ⊢
    omega
theorem escC_yes {c : UInt8} (h : starC c = true) : escC c = [92, c] := by simp [escC, h]
theorem escC_no {c : UInt8} (h : starC c = false) : escC c = [c] := by simp [escC, h]
theorem escB_no {l : List UInt8} (h : textB l = false) : escB l = [] := by simp [escB, h]
theorem escB_yes {l : List UInt8} (h : textB l = true) : escB l = escT l := by simp [escB, h]
theorem esc_step {s o o' : ByteArray} {k : Nat} (h : k < s.size) (ho : bl o = escT ((bl s).take k)) (ho' : bl o' = bl o ++ escC s[k]) : bl o' = escT ((bl s).take (k + 1)) := by
  rw [bl_take s k h, escT_snoc, ho', ho]

theorem esc_size {x o' : ByteArray} {k : Nat} {c : UInt8} (h : x.size ≤ 2 * k) (ho' : bl o' = bl x ++ escC c) : o'.size ≤ 2 * (k + 1) := by
  have := escC_le c
  rw [← bl_len, ho', List.length_append, bl_len]
  omega

set_option maxHeartbeats 800000 in
theorem spec_EscapeStars (s : ByteArray) (w : World) (hs : s.size ≤ 9223372036854775807) :
    Calls Try.prog 9 #[.string s] w fun e w' => e = .returned (.string (mkS (escB (bl s)))) ∧ w = w' := by
  rcases ht : textB (bl s) with _ | _
  · have HB : Hid (mkS (escB (bl s)) = ⟨#[]⟩) := by rw [escB_no ht]; rfl
    have CT := fun W => spec_TextValid s W hs
    rw [ht] at CT
    have CT' := Lib.hid CT
    clear ht CT
    go_enter Try.func9, Try.ntmps9
    go_wp2
    go_loop [3, 4] (fun o i => o = .string ⟨#[]⟩ ∧ i = .int .i64 0) (fun i _ => 1)
    case atStart => exact ⟨rfl, rfl⟩
    case round =>
      obtain ⟨rfl, rfl⟩ := hrel
      by_cases h0 : 0 < s.size
      · go_wp2_with fail
        refine (CT'.out _).mono ?_
        rintro e w1 ⟨rfl, rfl⟩
        go_wp2
        go_ret
        exact ⟨ret_str HB.out.symm, rfl⟩
      · go_wp2
        go_ret
        exact ⟨ret_str HB.out.symm, rfl⟩
  · have hsz := textB_size ht
    have HB : Hid (mkS (escB (bl s)) = mkS (escT (bl s))) := by rw [escB_yes ht]; rfl
    have CT := fun W => spec_TextValid s W hs
    rw [ht] at CT
    have CT' := Lib.hid CT
    clear ht CT
    go_enter Try.func9, Try.ntmps9
    go_wp2
    go_loop [3, 4] (fun o i => ∃ (k : Nat) (x : ByteArray), k ≤ s.size ∧ i = .int .i64 k ∧ o = .string x ∧ x.size ≤ 2 * k ∧ Hid (bl x = escT ((bl s).take k))) (fun _ i => s.size - (intOf i).toNat)
    case atStart => exact ⟨0, ⟨#[]⟩, Nat.zero_le _, rfl, rfl, Nat.le_refl 0, rfl⟩
    case round =>
      obtain ⟨k, x, hk, rfl, rfl, hx, HX⟩ := hrel
      by_cases h0 : k < s.size
      · have HE : ∀ o', bl o' = bl x ++ escC s[k] → o'.size ≤ 2 * (k + 1) ∧ Hid (bl o' = escT ((bl s).take (k + 1))) := fun o' ho => ⟨esc_size hx ho, esc_step h0 HX.out ho⟩
        have HO := Lib.hid (bl_one s k h0)
        have HE' := Lib.hid HE
        clear HE
        rcases hc : starC s[k] with _ | _
        · have HC := Lib.hid (escC_no hc)
          have hd : ¬ ((s[k].toNat : Int) = 42 ∨ (s[k].toNat : Int) = 63 ∨ (s[k].toNat : Int) = 92) := by simpa only [starC, decide_eq_false_iff_not] using hc
          have h1 : ((s[k].toNat : Int) == 42) = false := beq_no fun e => hd (.inl e)
          have h2 : ((s[k].toNat : Int) == 63) = false := beq_no fun e => hd (.inr (.inl e))
          have h3 : ((s[k].toNat : Int) == 92) = false := beq_no fun e => hd (.inr (.inr e))
          clear hc hd
          go_wp2_with fail
          refine (CT'.out _).mono ?_
          rintro e w1 ⟨rfl, rfl⟩
          go_wp2
          go_round
          case rel => exact ⟨k + 1, _, by omega, by go_num, rfl, HE'.out _ (by rw [bl_app, HO.out, HC.out])⟩
          case measure => simp [intOf]; omega
        · have HC := Lib.hid (escC_yes hc)
          have hd : (s[k].toNat : Int) = 42 ∨ (s[k].toNat : Int) = 63 ∨ (s[k].toNat : Int) = 92 := by simpa only [starC, decide_eq_true_iff] using hc
          clear hc
          by_cases h1 : (s[k].toNat : Int) = 42
          · have k1 : ((s[k].toNat : Int) == 42) = true := beq_yes h1
            clear hd h1
            go_wp2_with fail
            refine (CT'.out _).mono ?_
            rintro e w1 ⟨rfl, rfl⟩
            go_wp2
            go_round
            case rel => exact ⟨k + 1, _, by omega, by go_num, rfl, HE'.out _ (by rw [bl_app, bl_app, HO.out, HC.out, List.append_assoc]; rfl)⟩
            case measure => simp [intOf]; omega
          · by_cases h2 : (s[k].toNat : Int) = 63
            · have k1 : ((s[k].toNat : Int) == 42) = false := beq_no h1
              have k2 : ((s[k].toNat : Int) == 63) = true := beq_yes h2
              clear hd h1 h2
              go_wp2_with fail
              refine (CT'.out _).mono ?_
              rintro e w1 ⟨rfl, rfl⟩
              go_wp2
              go_round
              case rel => exact ⟨k + 1, _, by omega, by go_num, rfl, HE'.out _ (by rw [bl_app, bl_app, HO.out, HC.out, List.append_assoc]; rfl)⟩
              case measure => simp [intOf]; omega
            · have h3 : (s[k].toNat : Int) = 92 := by omega
              have k1 : ((s[k].toNat : Int) == 42) = false := beq_no h1
              have k2 : ((s[k].toNat : Int) == 63) = false := beq_no h2
              have k3 : ((s[k].toNat : Int) == 92) = true := beq_yes h3
              clear hd h1 h2 h3
              go_wp2_with fail
              refine (CT'.out _).mono ?_
              rintro e w1 ⟨rfl, rfl⟩
              go_wp2
              go_round
              case rel => exact ⟨k + 1, _, by omega, by go_num, rfl, HE'.out _ (by rw [bl_app, bl_app, HO.out, HC.out, List.append_assoc]; rfl)⟩
              case measure => simp [intOf]; omega
      · have HR : Hid (x = mkS (escT (bl s))) := bl_inj (by rw [bl_mkS, HX.out, List.take_of_length_le (by rw [bl_len]; omega)])
        go_wp2
        go_ret
        exact ⟨ret_str (by rw [HR.out, HB.out]), rfl⟩

def hasB (l : List UInt8) (c : UInt8) : Bool := l.any fun x => decide ((x.toNat : Int) = (c.toNat : Int))
theorem hasB_at {s : ByteArray} {k : Nat} {c : UInt8} (h : k < s.size) (hc : (s[k].toNat : Int) = (c.toNat : Int)) : hasB (bl s) c = true := by
  rw [hasB, List.any_eq_true]
  exact ⟨s[k], List.mem_of_getElem? (bl_get s k h), by simpa using hc⟩
theorem hasB_step {s : ByteArray} {k : Nat} {c : UInt8} (h : k < s.size) (hc : ¬ (s[k].toNat : Int) = (c.toNat : Int)) (hk : hasB ((bl s).take k) c = false) : hasB ((bl s).take (k + 1)) c = false := by
  rw [bl_take s k h]
  unfold hasB at hk ⊢
  rw [List.any_append, hk]
  simp only [List.any_cons, List.any_nil, Bool.or_false, Bool.false_or, decide_eq_false_iff_not]
  exact hc
theorem hasB_end {s : ByteArray} {k : Nat} {c : UInt8} (h : s.size ≤ k) (hk : hasB ((bl s).take k) c = false) : hasB (bl s) c = false := by
  rwa [List.take_of_length_le (by rw [bl_len]; exact h)] at hk

set_option maxHeartbeats 400000 in
theorem impl_hasByte (s : ByteArray) (c : UInt8) (w : World) (hs : s.size ≤ 9223372036854775807) :
    Calls Try.prog 21 #[.string s, .int .u8 (c.toNat : Int)] w fun e w' => e = .returned (.bool (hasB (bl s) c)) ∧ w = w' := by
  go_enter Try.func21, Try.ntmps21
  go_wp2
  go_loop [5] (fun i => ∃ k : Nat, k ≤ s.size ∧ i = .int .i64 k ∧ Hid (hasB ((bl s).take k) c = false)) (fun i => s.size - (intOf i).toNat)
  case atStart => exact ⟨0, Nat.zero_le _, rfl, rfl⟩
  case round =>
    obtain ⟨k, hk, rfl, HK⟩ := hrel
    by_cases hlt : k < s.size
    · by_cases hc : (s[k].toNat : Int) = (c.toNat : Int)
      · have HB := Lib.hid (hasB_at hlt hc)
        go_wp2
        go_ret
        exact ⟨ret_bool HB.out.symm, rfl⟩
      · have HB : Hid (hasB ((bl s).take (k + 1)) c = false) := hasB_step hlt hc HK.out
        go_wp2
        go_round
        case rel => exact ⟨k + 1, by omega, by go_num, HB⟩
        case measure => simp [intOf]; omega
    · have HB := Lib.hid (hasB_end (by omega) HK.out)
      go_wp2
      go_ret
      exact ⟨ret_bool HB.out.symm, rfl⟩

theorem hasB_star (c : UInt8) : hasB (bl ⟨#[42, 63, 92]⟩) c = starC c := by
  rw [Bool.eq_iff_iff]
  simp only [hasB, bl, starC, List.any_cons, List.any_nil, Bool.or_false, Bool.or_eq_true, decide_eq_true_iff]
  constructor
  · rintro (h | h | h)
    · exact .inl h.symm
    · exact .inr (.inl h.symm)
    · exact .inr (.inr h.symm)
  · rintro (h | h | h)
    · exact .inl h.symm
    · exact .inr (.inl h.symm)
    · exact .inr (.inr h.symm)

set_option maxRecDepth 100000 in
set_option maxHeartbeats 1600000 in
theorem impl_EscapeStars (s : ByteArray) (w : World) (hs : s.size ≤ 9223372036854775807) :
    Calls Try.prog 10 #[.string s] w fun e w' => e = .returned (.string (mkS (escB (bl s)))) ∧ Below w.heap.size w w' := by
  rcases ht : textB (bl s) with _ | _
  · have HB : Hid (mkS (escB (bl s)) = ⟨#[]⟩) := by rw [escB_no ht]; rfl
    have CT := fun W => impl_TextValid s W hs
    rw [ht] at CT
    have CT' := Lib.hid CT
    clear ht CT
    go_enter Try.func10, Try.ntmps10
    go_wp2_with fail
    refine (CT'.out _).mono ?_
    rintro e w1 ⟨rfl, rfl⟩
    go_wp2
    go_ret
    exact ⟨ret_str HB.out.symm, Below.refl _ _⟩
  · have hsz := textB_size ht
    have HB : Hid (mkS (escB (bl s)) = mkS (escT (bl s))) := by rw [escB_yes ht]; rfl
    have CT := fun W => impl_TextValid s W hs
    rw [ht] at CT
    have CT' := Lib.hid CT
    clear ht CT
    go_enter Try.func10, Try.ntmps10
    go_wp2_with fail
    refine (CT'.out _).mono ?_
    rintro e w1 ⟨rfl, rfl⟩
    go_wp2
    have O0 := Lib.hid (own_new w #[] 5 0 rfl (by omega))
    go_loopw [3, 4] (fun o i wr => ∃ (k : Nat) (acc : List UInt8), k ≤ s.size ∧ i = .int .i64 k ∧ acc.length ≤ 2 * k ∧ Hid (acc = escT ((bl s).take k)) ∧ wr.ownsRow w.heap.size 5 1 o acc.length (acc.map byteV) ∧ Below w.heap.size w wr) (fun _ i _ => s.size - (intOf i).toNat)
    case atStart => exact ⟨0, [], Nat.zero_le _, rfl, by simp, rfl, O0.out, (Below.refl _ _).alloc (Nat.le_refl _) _⟩
    case round =>
      obtain ⟨k, acc, hk, rfl, hacc, HX, own, hb⟩ := hrel
      have O1 := Lib.hid own; have B1 := Lib.hid hb
      obtain ⟨av, cv, rfl, _, kv, kv', _⟩ := own_formn own
      clear own hb
      by_cases h0 : k < s.size
      · have CH : Hid (∀ W, Calls Try.prog 21 #[.string ⟨#[42, 63, 92]⟩, .int .u8 (s[k].toNat : Int)] W fun e w' => e = .returned (.bool (starC s[k])) ∧ W = w') := fun W => by
          have := impl_hasByte ⟨#[42, 63, 92]⟩ s[k] W (by decide)
          rwa [hasB_star] at this
        have HS : Hid ((bl s).take (k + 1) = (bl s).take k ++ [s[k]]) := bl_take s k h0
        rcases hc : starC s[k] with _ | _
        · have HC := Lib.hid (escC_no hc)
          rw [hc] at CH
          clear hc
          have HR : Hid (acc ++ [s[k]] = escT ((bl s).take (k + 1))) := by rw [HS.out, escT_snoc, HC.out, HX.out]; rfl
          go_wp2_with fail
          refine (CH.out _).mono ?_
          rintro e w2 ⟨rfl, rfl⟩
          go_wp2_with (at_builtin; refine wpList_push (.tmp 22) (.tmp 26) w.heap.size s[k] _ acc O1.out B1.out.size (by omega) rfl rfl rfl rfl ?_; intro v5 w5 o5 b5; have O5 := Lib.hid o5; have B5 := Lib.hid b5; clear o5 b5)
          go_roundw
          case rel => exact ⟨k + 1, acc ++ [s[k]], by omega, by go_num, by simp; omega, HR, O5.out, B1.out.trans B5.out⟩
          case measure => simp [intOf]; omega
        · have HC := Lib.hid (escC_yes hc)
          rw [hc] at CH
          clear hc
          have HR : Hid (acc ++ [92] ++ [s[k]] = escT ((bl s).take (k + 1))) := by rw [HS.out, escT_snoc, HC.out, HX.out, List.append_assoc]; rfl
          go_wp2_with fail
          refine (CH.out _).mono ?_
          rintro e w2 ⟨rfl, rfl⟩
          have hl2 : (acc ++ [92]).length ≤ 2000 := by simp; omega
          go_wp2_with (first
            | (at_builtin; refine wpList_push (.tmp 19) (.tmp 20) w.heap.size 92 _ acc O1.out B1.out.size (by omega) rfl rfl rfl rfl ?_; intro v5 w5 o5 b5; have O5 := Lib.hid o5; have B5 : Hid (Below w.heap.size w w5) := B1.out.trans b5; clear o5 b5)
            | (at_builtin; refine wpList_push (.tmp 22) (.tmp 26) w.heap.size s[k] _ (acc ++ [92]) O5.out B5.out.size (by omega) rfl rfl rfl rfl ?_; intro v6 w6 o6 b6; have O6 := Lib.hid o6; have B6 := Lib.hid b6; clear o6 b6))
          go_roundw
          case rel => exact ⟨k + 1, acc ++ [92] ++ [s[k]], by omega, by go_num, by simp; omega, HR, O6.out, B5.out.trans B6.out⟩
          case measure => simp [intOf]; omega
      · have HR : Hid (acc = escT (bl s)) := by rw [HX.out, List.take_of_length_le (by rw [bl_len]; omega)]; rfl
        have KD := conv_row wr av acc.length cv acc (own_formn_row O1.out) rfl
        go_wp2
        go_ret
        exact ⟨ret_str (by rw [HR.out, HB.out]), B1.out⟩
end Go.Proofs.Ytlilmphbjmjpdaa
