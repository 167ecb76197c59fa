/- The walks of the laws FnEscapeStars and FnStarsFit. -/
import Derived.Test.YtlilmphbjmjpdaaLawStars
import Derived.Test.YtlilmphbjmjpdaaStarsFit3
namespace Go.Proofs.Ytlilmphbjmjpdaa
open Go.RowKit

theorem sameC_iff {a b : UInt8} : sameC a b = true ↔ a = b := by
  unfold sameC
  rw [beq_iff_eq]
  constructor
  · intro h; exact UInt8.toNat_inj.1 (by omega)
  · rintro rfl; rfl
theorem starC_no {c : UInt8} (h : starC c = false) : ¬ (c.toNat : Int) = 42 ∧ ¬ (c.toNat : Int) = 63 ∧ ¬ (c.toNat : Int) = 92 := by
  have hd : ¬ ((c.toNat : Int) = 42 ∨ (c.toNat : Int) = 63 ∨ (c.toNat : Int) = 92) := by simpa only [starC, decide_eq_false_iff_not] using h
  exact ⟨fun e => hd (.inl e), fun e => hd (.inr (.inl e)), fun e => hd (.inr (.inr e))⟩
theorem escT_cons (c : UInt8) (l : List UInt8) : escT (c :: l) = escC c ++ escT l := by simp [escT]
/-- The pattern of a plain text fits that text alone. -/
theorem fit_esc (t : List UInt8) : ∀ s, fitP (escT t) s = decide (s = t) := by
  induction t with
  | nil => intro s; cases s <;> simp [escT, fit_nil]
  | cons c t ih =>
    intro s
    rw [escT_cons]
    have key : fitP (escC c ++ escT t) s = match s with | [] => false | x :: s' => sameC x c && fitP (escT t) s' := by
      rcases h : starC c with _ | _
      · obtain ⟨h1, h2, h3⟩ := starC_no h
        rw [escC_no h]
        exact fit_other _ _ h1 h2 h3
      · rw [escC_yes h]
        exact fit_slash (c := 92) _ _ (by decide)
    rw [key]
    cases s with
    | nil => simp
    | cons x s =>
      simp only
      rw [ih, Bool.eq_iff_iff, Bool.and_eq_true, sameC_iff, decide_eq_true_iff, decide_eq_true_iff]
      simp
theorem slash_esc (t : List UInt8) : slashOk (escT t) = true := by
  induction t with
  | nil => rfl
  | cons c t ih =>
    rw [escT_cons]
    rcases h : starC c with _ | _
    · rw [escC_no h]
      exact (slash_other (starC_no h).2.2).trans ih
    · rw [escC_yes h]
      exact (slash_two (by decide)).trans ih
theorem starN_esc (t : List UInt8) : starN (escT t) = 0 := by
  induction t with
  | nil => rfl
  | cons c t ih =>
    rw [escT_cons]
    rcases h : starC c with _ | _
    · rw [escC_no h]
      exact (star_other (starC_no h).1 (starC_no h).2.2).trans ih
    · rw [escC_yes h]
      exact (star_two (by decide)).trans ih
theorem all_esc {t : List UInt8} (h : t.all okC = true) : (escT t).all okC = true := by
  induction t with
  | nil => rfl
  | cons c t ih =>
    rw [List.all_cons, Bool.and_eq_true] at h
    rw [escT_cons, List.all_append, ih h.2, Bool.and_true]
    rcases h' : starC c with _ | _
    · rw [escC_no h']; simp [h.1]
    · rw [escC_yes h']; simp [h.1]; decide
/-- A letter ahead of the pattern of a text: it does not fit the text. -/
theorem sf_ahead (s : ByteArray) (t : List UInt8) (h : bl s = t) (p : ByteArray) (hp : bl p = 97 :: escT t) : sfB s p = false := by
  have e : fitP (bl p) (bl s) = false := by
    rw [hp, h, fit_other _ _ (by decide) (by decide) (by decide)]
    cases t with
    | nil => rfl
    | cons x t' =>
      simp only
      rw [fit_esc, Bool.and_eq_false_iff]
      right
      rw [decide_eq_false_iff_not]
      intro x
      have := congrArg List.length x
      simp at this
  rw [sfB, e, Bool.and_false]
theorem sf_star (s : ByteArray) : sfB s ⟨#[42]⟩ = vB s := by
  have e1 : patB ⟨#[42]⟩ = true := by decide
  have e2 : bl ⟨#[42]⟩ = [42] := rfl
  have e3 : anyRest (fitP []) (bl s) = true := by
    have : ∀ l : List UInt8, anyRest (fitP []) l = true := by
      intro l
      induction l with
      | nil => simp [anyRest, fit_nil]
      | cons c l ih => simp [anyRest, ih]
    exact this _
  rw [sfB, e1, e2, fit_star _ _ (by decide), e3, Bool.and_true, Bool.and_true]
theorem sf_plain (s p : ByteArray) (h : vB s = true) (hp : p = mkS (escB (bl s))) (h40 : (p.size : Int) ≤ 40) : sfB s p = true := by
  obtain ⟨ht, _⟩ := vB_text h
  have e : bl p = escT (bl s) := by rw [hp, bl_mkS, escB_yes ht]
  have hall : (bl s).all okC = true := by unfold textB at ht; rw [Bool.and_eq_true] at ht; exact ht.2
  have e2 : textB (bl p) = true := by
    unfold textB
    rw [Bool.and_eq_true, decide_eq_true_iff]
    refine ⟨by rw [bl_len]; omega, ?_⟩
    rw [e]
    exact all_esc hall
  have e3 : patB p = true := by
    rw [patB, e2, decide_eq_true h40, e, slash_esc, starN_esc]; rfl
  rw [sfB, h, e3, e, fit_esc]
  simp

set_option maxRecDepth 100000 in
set_option maxHeartbeats 1600000 in
theorem walk_FnEscapeStars (a : Option Addr) (n c : Nat) (z : List Int) (w : World) (hrow : IsRow .u8 w a n c z) :
    Calls Try.prog 7 #[.slice a n c] w fun e w' => e = .returned (.bool true) ∧ Below w.heap.size w w' := by
  have hcap := hrow.caps
  have hby := Lib.hid hrow.bytes
  clear hrow
  by_cases hn : 1048576 < n
  · go_enter Try.func7, Try.ntmps7
    go_wp2
    go_ret
    exact ⟨rfl, Below.refl _ _⟩
  · go_enter Try.func7, Try.ntmps7
    go_wp2_with fail
    refine (draw_EscapeStars _ _ _ _ _ hby.out hcap.1 hcap.2).mono ?_
    rintro e w1 ⟨s, rfl, hs, b1⟩
    have B1 := Lib.hid b1
    clear b1 hby hcap hn
    have CI := Lib.hid (impl_EscapeStars s w1 (by omega))
    have CS : Hid (∀ W, Calls Try.prog 9 #[.string s] W fun e w' => e = .returned (.string (mkS (escB (bl s)))) ∧ W = w') := fun W => spec_EscapeStars s W (by omega)
    have CT : Hid (∀ W, Calls Try.prog 18 #[.string s] W fun e w' => e = .returned (.bool (textB (bl s))) ∧ W = w') := fun W => impl_TextValid s W (by omega)
    rcases ht : textB (bl s) with _ | _
    · rw [ht] at CT
      have e0 : mkS (escB (bl s)) = ⟨#[]⟩ := by rw [escB_no ht]; rfl
      rw [e0] at CI CS
      clear ht e0
      go_wp2_with fail
      refine CI.out.mono ?_
      rintro e w2 ⟨rfl, b2⟩
      have B2 : Hid (Below w.heap.size w w2) := B1.out.trans (b2.mono B1.out.size)
      clear b2
      go_wp2_with fail
      refine (CS.out _).mono ?_
      rintro e w3 ⟨rfl, rfl⟩
      go_wp2_with fail
      refine (CT.out _).mono ?_
      rintro e w3 ⟨rfl, rfl⟩
      go_wp2_with (go_at_call 16; refine (alive_any _).mono ?_; rintro e w5 ⟨rfl, b5⟩)
      go_ret
      exact ⟨rfl, B2.out.trans (b5.mono B2.out.size)⟩
    · rw [ht] at CT
      obtain ⟨p, hp⟩ : ∃ p, p = mkS (escB (bl s)) := ⟨_, rfl⟩
      rw [← hp] at CI CS
      have hblp : bl p = escB (bl s) := by rw [hp, bl_mkS]
      have hpl : p.size ≤ 12 := by have h1 := escB_le (bl s); rw [← hblp, bl_len, bl_len] at h1; omega
      have CP : Hid (∀ W, Calls Try.prog 12 #[.string p] W fun e w' => e = .returned (.tuple #[.string s, .bool true]) ∧ Below W.heap.size W w') := fun W => by
        have := impl_StarsPlain p W (by omega)
        rwa [hblp, plainB_esc ht, mkS_bl] at this
      have CF : Hid (∀ W, Calls Try.prog 14 #[.string s, .string (⟨#[97]⟩ ++ p)] W fun e w' => e = .returned (.bool false) ∧ ∃ q, w' = W.drewN q) := fun W => by
        have := impl_StarsFit s (⟨#[97]⟩ ++ p) W (by omega) (by rw [ByteArray.size_append]; show 1 + p.size ≤ _; omega)
        rwa [sf_ahead s (bl s) rfl (⟨#[97]⟩ ++ p) (by rw [bl_app, hblp, escB_yes ht]; rfl)] at this
      clear ht hp hblp
      go_wp2_with fail
      refine CI.out.mono ?_
      rintro e w2 ⟨rfl, b2⟩
      have B2 : Hid (Below w.heap.size w w2) := B1.out.trans (b2.mono B1.out.size)
      clear b2
      go_wp2_with fail
      refine (CS.out _).mono ?_
      rintro e w3 ⟨rfl, rfl⟩
      go_wp2_with fail
      refine (CT.out _).mono ?_
      rintro e w3 ⟨rfl, rfl⟩
      go_wp2_with fail
      refine (CP.out _).mono ?_
      rintro e w3 ⟨rfl, b3⟩
      have B3 : Hid (Below w.heap.size w w3) := B2.out.trans (b3.mono B2.out.size)
      clear b3
      go_wp2_with fail
      refine (CF.out _).mono ?_
      rintro e w4 ⟨rfl, q, rfl⟩
      go_wp2
      go_ret
      exact ⟨rfl, below_drewN B3.out _⟩
end Go.Proofs.Ytlilmphbjmjpdaa
