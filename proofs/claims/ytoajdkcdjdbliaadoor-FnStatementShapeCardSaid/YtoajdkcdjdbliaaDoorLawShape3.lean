/- The walk of the law FnStatementShape. -/
import Derived.Test.YtoajdkcdjdbliaaDoorLawFill2
import Derived.Test.YtoajdkcdjdbliaaDoorStmtDraw2
namespace Go.Proofs.YtoajdkcdjdbliaaDoor
open Go.RowKit

theorem joinQ_le (m : Nat) : ∀ L : List (List UInt8), (∀ e ∈ L, e.length ≤ m) → (joinQ L).length ≤ (m + 1) * L.length := by
  intro L
  induction L with
  | nil => intro _; simp [joinQ]
  | cons a L ih =>
    intro h
    have h1 := h a (List.mem_cons_self ..)
    have h2 := ih (fun e he => h e (List.mem_cons_of_mem _ he))
    rcases L with _ | ⟨b, L⟩
    · show a.length ≤ (m + 1) * 1; omega
    · show (a ++ (63 :: joinQ (b :: L))).length ≤ (m + 1) * ((b :: L).length + 1)
      rw [List.length_append, List.length_cons, Nat.mul_add]
      omega
theorem shapeR_le (l : List UInt8) : (shapeR l).1.length ≤ 601 * 602 := by
  unfold shapeR
  split
  · rename_i hc
    have hl : l.length ≤ 600 := by
      have := textB_size (s := mkS l) (by rw [bl_mkS]; exact hc.1)
      rwa [mkS_size] at this
    have h1 := cut_small l
    have h2 := cut_lens l
    have h3 : (cut0 l).2.2.1.length ≤ 0 + l.length := cutT_len _ l (Nat.le_refl _) (false, [], [], [])
    rw [hc.2.1] at h2
    have h4 : (cut0 l).2.2.2.length ≤ 600 := by simp at h2; omega
    refine Nat.le_trans (joinQ_le 600 _ (fun e he => ?_)) ?_
    · rcases List.mem_append.1 he with he | he
      · have := h1.2 e he; omega
      · rw [List.mem_singleton] at he; subst he; have := h1.1; omega
    · rw [List.length_append]
      exact Nat.mul_le_mul_left 601 (by show _ + 1 ≤ 602; omega)
  · exact Nat.zero_le _
theorem text_small (l : List UInt8) : ∀ e ∈ (cut0 l).2.2.1, e.length ≤ l.length := by
  have := cutT_inv (fun m st => st.2.1.length ≤ m ∧ ∀ e ∈ st.2.2.1, e.length ≤ m) ?_ ?_ _ l (Nat.le_refl _) 0 (false, [], [], []) ⟨Nat.le_refl _, fun e he => by cases he⟩
  · unfold cut0; intro e he; have h := this.2 e he; omega
  · intro m st x h
    unfold stepL
    split
    · split
      · refine ⟨Nat.zero_le _, fun e he => ?_⟩
        rcases List.mem_append.1 he with he | he
        · have := h.2 e he; omega
        · rw [List.mem_singleton] at he; subst he; have := h.1; omega
      · exact ⟨Nat.zero_le _, fun e he => by have := h.2 e he; omega⟩
    · refine ⟨by show (st.2.1 ++ [x]).length ≤ m + 1; rw [List.length_append]; have := h.1; simp; omega, fun e he => by have := h.2 e he; omega⟩
  · intro m st _ h
    refine ⟨by show (st.2.1 ++ [39]).length ≤ m + 2; rw [List.length_append]; have := h.1; simp; omega, fun e he => by have := h.2 e he; omega⟩
theorem shapeR_none {l : List UInt8} (h : (shapeR l).2 = false) : (shapeR l).1 = [] := by
  unfold shapeR at h ⊢
  split
  · rename_i hc; rw [if_pos hc] at h; cases h
  · rfl
theorem shape_some {l : List UInt8} (h : (shapeR l).2 = true) : (((shapeR l).1).any fun x => decide (x = 39)) = false ∧ (∀ s ∈ (textsR l).1, s.size ≤ 600) ∧ ((fillR (shapeR l).1 ((textsR l).1.map bl)).2 = true → (fillR (shapeR l).1 ((textsR l).1.map bl)).1 = mkS l) := by
  have hp : shapeR l = ((shapeR l).1, true) := by rw [← h]
  have hc : textB l = true ∧ (cut0 l).1 = false := by
    unfold shapeR at h
    split at h
    · rename_i hc; exact ⟨hc.1, hc.2.1⟩
    · cases h
  have hT : textsR l = ((cut0 l).2.2.1.map mkS, true) := textsR_yes hc.1 rfl hc.2
  have hmm : ((cut0 l).2.2.1.map mkS).map bl = (cut0 l).2.2.1 := by
    rw [List.map_map]
    conv => rhs; rw [← List.map_id (cut0 l).2.2.1]
    exact List.map_congr_left fun t _ => bl_mkS t
  refine ⟨shape_quote hp, ?_, fun hf => ?_⟩
  · rw [hT]
    have hl : l.length ≤ 600 := by
      have := textB_size (s := mkS l) (by rw [bl_mkS]; exact hc.1)
      rwa [mkS_size] at this
    intro s hs
    obtain ⟨t, ht, rfl⟩ := List.mem_map.1 hs
    rw [mkS_size]
    have := text_small l t ht
    omega
  · rw [hT, hmm] at hf ⊢
    have hok : fillOk (shapeR l).1 (cut0 l).2.2.1 = true := by
      rcases hb : fillOk (shapeR l).1 (cut0 l).2.2.1 with _ | _
      · rw [fillR_no hb] at hf; cases hf
      · rfl
    rw [fillR_yes hok, shape_fill hp rfl hok]

theorem draw_StatementShape (w : World) (a : Option Addr) (n c : Nat) (f : Nat → UInt8) (hb : BytesAt w a n f) (hc : n ≤ c) (hc' : c ≤ 9223372036854775807) :
    Calls Tryd.prog 20 #[.slice a n c] w (DrawStr w 201) := by
  have HB := Lib.hid hb; clear hb
  go_enter Tryd.func20, Tryd.ntmps20
  go_wp2_with fail
  refine (draw_StatementTexts _ _ _ _ _ HB.out hc hc').mono ?_
  rintro e w1 ⟨s, rfl, hs, b1⟩
  go_wp2
  go_ret
  exact ⟨s, rfl, hs, b1⟩

set_option maxRecDepth 100000 in
set_option maxHeartbeats 1600000 in
theorem walk_FnStatementShape (a : Option Addr) (n c : Nat) (z : List Int) (w : World) (hrow : IsRow .u8 w a n c z) (hm : MaxOk w) :
    Calls Tryd.prog 6 #[.slice a n c] w fun e w' => e = .returned (.bool true) ∧ Below w.heap.size w w' := by
  have hcap := hrow.caps
  have hby := Lib.hid hrow.bytes
  have HM := Lib.hid hm
  clear hrow hm
  by_cases hn : 1048576 < n
  · go_enter Tryd.func6, Tryd.ntmps6
    go_wp2
    go_ret
    exact ⟨rfl, Below.refl _ _⟩
  · go_enter Tryd.func6, Tryd.ntmps6
    go_wp2_with fail
    refine (draw_StatementShape _ _ _ _ _ hby.out hcap.1 hcap.2).mono ?_
    rintro e w1 ⟨s, rfl, hs, b1⟩
    have B1 := Lib.hid b1
    have HM1 := Lib.hid (HM.out.below b1)
    clear b1 hby hcap hn HM
    have CS : Hid (∀ W, Calls Tryd.prog 22 #[.string s] W (StrOk W (shapeR (bl s)))) := fun W => spec_StatementShape s W (by omega)
    have CI : Hid (∀ W, Calls Tryd.prog 21 #[.string s] W (StrOk W (shapeR (bl s)))) := fun W => impl_StatementShape s W (by omega)
    have CX : Hid (∀ W, Calls Tryd.prog 13 #[.string s] W (StrsOk W (textsR (bl s)))) := fun W => impl_StatementTexts s W (by omega)
    have hle := textsR_len (bl s)
    have hsl := shapeR_le (bl s)
    have HNO := Lib.hid (shapeR_none (l := bl s))
    have hso := shape_some (l := bl s)
    rw [mkS_bl] at hso
    have HSO := Lib.hid hso
    clear hso
    generalize shapeR (bl s) = q at *
    generalize textsR (bl s) = r at *
    obtain ⟨q1, q2⟩ := q
    obtain ⟨T, r2⟩ := r
    obtain ⟨X, hX⟩ : ∃ X, X = mkS q1 := ⟨_, rfl⟩
    have HX := Lib.hid hX
    have hXs : X.size ≤ 601 * 602 := by rw [hX, mkS_size]; exact hsl
    have HBX : Hid (bl X = q1) := by show _ = _; rw [hX, bl_mkS]
    clear hX hsl
    go_wp2_with fail
    refine (CI.out _).mono ?_
    rintro e w2 ⟨rfl, b2⟩
    have B2 := Lib.hid (B1.out.trans (b2.mono B1.out.size))
    have HM2 := Lib.hid (HM1.out.below b2)
    clear b2 HM1 CI
    simp only [← HX.out]
    go_wp2_with fail
    refine (CS.out _).mono ?_
    rintro e w3 ⟨rfl, b3⟩
    have B3 := Lib.hid (B2.out.trans (b3.mono B2.out.size))
    have HM3 := Lib.hid (HM2.out.below b3)
    clear b3 HM2 CS
    simp only [← HX.out]
    cases q2
    · obtain rfl : X = ⟨#[]⟩ := by rw [HX.out]; have := HNO.out rfl; rw [show q1 = [] from this]; rfl
      go_wp2_with (go_at_call 12; refine (alive_any _).mono ?_; rintro e w5 ⟨rfl, b5⟩)
      go_ret
      exact ⟨rfl, B3.out.trans (b5.mono B3.out.size)⟩
    · obtain ⟨h39, h600, hfl⟩ := HSO.out rfl
      rw [← HBX.out] at h39 hfl
      have HT6 : Hid (∀ s ∈ T, s.size ≤ 1048576) := fun s hs => by have := h600 s hs; omega
      have H39 : Hid (∀ k, (h : k < X.size) → ¬ X[k] = 39) := fun k h e => by
        rw [any_at h e] at h39; cases h39
      have CF : Hid (∀ W a c, RowAt W a (T.map strV) → MaxOk W → Calls Tryd.prog 18 #[.string X, .slice a T.length c] W (TupOk W (fillR (bl X) (T.map bl)))) := fun W a c h h2 => impl_FillStatement X a _ c T W h rfl (by have h := hle; exact Nat.le_trans h (by decide)) (by omega) HT6.out h2
      have HFL := Lib.hid hfl
      clear hfl h600 h39 HSO HNO
      generalize fillR (bl X) (T.map bl) = fr at *
      obtain ⟨y, good⟩ := fr
      go_wp2
      go_loop [8] (fun t => ∃ k : Nat, k ≤ X.size ∧ t = .int .i64 (k : Int)) (fun t => X.size - (intOf t).toNat)
      case atStart => exact ⟨0, Nat.zero_le _, rfl⟩
      case round =>
        obtain ⟨k, hk, rfl⟩ := hrel
        by_cases hks : k < X.size
        · have b39 : ((X[k].toNat : Int) == 39) = false := beq39 (H39.out k hks)
          go_wp2
          go_round
          case rel => exact ⟨k + 1, by omega, by go_num⟩
          case measure => simp [intOf]; omega
        · go_wp2_with fail
          refine (CX.out _).mono ?_
          rintro e w5 ⟨v5, rfl, o5, b5⟩
          obtain ⟨a5, c5, rfl, _, k5, k5', _⟩ := own_formn o5
          have B5 := Lib.hid (B3.out.trans (b5.mono B3.out.size))
          have HM5 := Lib.hid (HM3.out.below b5)
          have O5 := Lib.hid o5
          clear b5 o5 CX
          go_wp2_with fail
          refine (CF.out _ _ _ (own_formn_row O5.out) HM5.out).mono ?_
          rintro e w6 ⟨rfl, b6⟩
          have B6 := Lib.hid (B5.out.trans (b6.mono B5.out.size))
          clear b6 CF
          cases good
          · go_wp2
            go_ret
            exact ⟨rfl, B6.out⟩
          · obtain rfl : y = s := HFL.out rfl
            go_wp2
            go_ret
            exact ⟨rfl, B6.out⟩
end Go.Proofs.YtoajdkcdjdbliaaDoor
