/- The walk of the law FnSourcesValid. -/
import Derived.Test.YtpplagecancccaaSrcDraw
import Derived.Test.YtpplagecancccaaLawSrcP
import Derived.Test.YtpplagecancccaaSrcS
import Derived.Test.YtpplagecancccaaAlive
namespace Go.Proofs.Ytpplagecancccaa
open Go.RowKit

theorem srcL_one {w : World} {B : Nat} : ∀ (l : List (ByteArray × Value)) (S : List Src), SrcL w B l S → ∀ u ∈ prC l, u.oneCell' = true := by
  intro l
  induction l with
  | nil => intro S _ u hu; cases hu
  | cons p l ih =>
    intro S h u hu
    cases S with
    | nil => exact h.elim
    | cons s S =>
      have e : prC (p :: l) = prC [p] ++ prC l := by simp [prC]
      rw [e] at hu
      rcases List.mem_append.1 hu with hu | hu
      · exact prC_one p.1 h.1.2 u hu
      · exact ih S h.2 u hu
def DrawSrcs (w : World) (e : Ending) (w' : World) : Prop :=
  ∃ (v : Value) (l : List (ByteArray × Value)) (S : List Src), e = .returned v ∧ S.length ≤ 5 ∧ w'.ownsRow w.heap.size 29 2 v S.length (prC l) ∧ SrcL w' w.heap.size l S ∧ (∀ s ∈ S, SrcSm s) ∧ Below w.heap.size w w'
theorem draw_SourcesValid (w : World) (a : Option Addr) (n c : Nat) (f : Nat → UInt8) (hb : BytesAt w a n f) (hc : n ≤ c) (hc' : c ≤ 9223372036854775807) :
    Calls Try.prog 8 #[.slice a n c] w (DrawSrcs w) := by
  have HB := Lib.hid hb; clear hb
  go_enter Try.func8, Try.ntmps8
  go_wp2_with fail
  refine (open_any _ _ _ _ _ HB.out hc hc').mono ?_
  rintro e w1 ⟨rfl, hb1, hr1⟩
  have hR1 := hr1.lt
  have HR1 := Lib.hid hr1
  have HB1 := Lib.hid hb1
  clear hb1 HB hr1
  generalize hRR : w.heap.size = R at *
  go_wp2_with fail
  refine (sources_any _ _ _ _ HR1.out (by omega) (by omega) (by omega)).mono ?_
  rintro e w2 ⟨v, l, S, rfl, hS, own, hl, hsm, hg, _⟩
  have B2 := Lib.hid (HB1.out.grown hg (Nat.le_of_lt (by omega)) (by intro q hq; injection hq with hq; omega))
  have O2 := Lib.hid (ownN_mono own (B' := R) (by omega))
  have L2 := Lib.hid (SrcL.map (fun v F o => OwnS.mono o (B' := R) (by omega)) l S hl)
  have HSM := Lib.hid hsm
  clear own hl hsm hg
  go_wp2
  go_ret
  subst hRR
  exact ⟨v, l, S, rfl, hS, O2.out, L2.out, HSM.out, B2.out⟩

set_option maxRecDepth 100000 in
set_option maxHeartbeats 1600000 in
theorem walk_FnSourcesValid (a : Option Addr) (n c : Nat) (z : List Int) (w : World) (hrow : IsRow .u8 w a n c z) :
    Calls Try.prog 3 #[.slice a n c] w fun e w' => e = .returned (.bool true) ∧ Below w.heap.size w w' := by
  have hcap := hrow.caps
  have hby := Lib.hid hrow.bytes
  clear hrow
  by_cases hn : 1048576 < n
  · go_enter Try.func3, Try.ntmps3
    go_wp2
    go_ret
    exact ⟨rfl, Below.refl _ _⟩
  · go_enter Try.func3, Try.ntmps3
    go_wp2_with fail
    refine (draw_SourcesValid _ _ _ _ _ hby.out hcap.1 hcap.2).mono ?_
    rintro e w1 ⟨v, l, S, rfl, hS5, own, hl, hsm, b1⟩
    obtain ⟨m, hm⟩ : ∃ m, S.length = m := ⟨_, rfl⟩
    rw [hm] at own
    obtain ⟨a1, c1, rfl, hc1, hc1', hat⟩ := srcs_own own hl hm
    have B1 := Lib.hid b1
    have AT1 := Lib.hid (hat.mono (Nat.zero_le _))
    have OW1 := Lib.hid own
    have L1 := Lib.hid hl
    have HOK : Hid (∀ s ∈ S, SrcOk 1048576 s) := fun s hs => (hsm s hs).ok
    have HM := Lib.hid hm
    have hm5 : m ≤ 5 := by omega
    clear b1 hby hcap hn hat own hl hsm hm
    have CI := Lib.hid (fun W h => impl_SourcesValid a1 m c1 S W h HM.out (by omega) hc1 hc1' HOK.out)
    have CS := Lib.hid (fun W h => spec_SourcesValid a1 m c1 S W h HM.out (by omega) HOK.out)
    rcases hv : validB S with _ | _
    · rw [hv] at CI CS
      clear hv
      go_wp2_with fail
      refine (CI.out _ AT1.out).mono ?_
      rintro e w2 ⟨rfl, b2⟩
      have B2 := Lib.hid (B1.out.trans (b2.mono B1.out.size))
      have AT2 := Lib.hid (AT1.out.below b2)
      clear b2
      go_wp2_with fail
      refine (CS.out _ AT2.out).mono ?_
      rintro e w3 ⟨rfl, b3⟩
      have B3 := Lib.hid (B2.out.trans (b3.mono B2.out.size))
      clear b3
      go_wp2_with (go_at_call 11; refine (alive_any _).mono ?_; rintro e w5 ⟨rfl, b5⟩)
      go_ret
      exact ⟨rfl, B3.out.trans (b5.mono B3.out.size)⟩
    · have HV := Lib.hid hv
      rw [hv] at CI CS
      clear hv
      by_cases hm0 : m = 0
      · subst hm0
        go_wp2_with fail
        refine (CI.out _ AT1.out).mono ?_
        rintro e w2 ⟨rfl, b2⟩
        have B2 := Lib.hid (B1.out.trans (b2.mono B1.out.size))
        have AT2 := Lib.hid (AT1.out.below b2)
        clear b2
        go_wp2_with fail
        refine (CS.out _ AT2.out).mono ?_
        rintro e w3 ⟨rfl, b3⟩
        have B3 := Lib.hid (B2.out.trans (b3.mono B2.out.size))
        clear b3
        go_wp2_with (go_at_call 11; refine (alive_any _).mono ?_; rintro e w5 ⟨rfl, b5⟩)
        go_ret
        exact ⟨rfl, B3.out.trans (b5.mono B3.out.size)⟩
      · have hmb : ((m : Int) == 0) = false := by simp; omega
        obtain ⟨s, S', rfl⟩ : ∃ s S', S = s :: S' := by
          cases S with
          | nil => exact absurd HM.out.symm hm0
          | cons s S' => exact ⟨s, S', rfl⟩
        have HV1 := Lib.hid (valid_tail HV.out)
        have HV2 := Lib.hid (valid_twice s S')
        go_wp2_with fail
        refine (CI.out _ AT1.out).mono ?_
        rintro e w2 ⟨rfl, b2⟩
        have B2 := Lib.hid (B1.out.trans (b2.mono B1.out.size))
        have AT2 := Lib.hid (AT1.out.below b2)
        have OW2 := Lib.hid (ownN_below OW1.out b2)
        have L2 := Lib.hid (SrcL.map (fun v F o => OwnS.below o b2) l _ L1.out)
        clear b2 AT1 OW1 L1
        go_wp2_with fail
        refine (CS.out _ AT2.out).mono ?_
        rintro e w3 ⟨rfl, b3⟩
        have B3 := Lib.hid (B2.out.trans (b3.mono B2.out.size))
        have AT3 := Lib.hid (AT2.out.below b3)
        have OW3 := Lib.hid (ownN_below OW2.out b3)
        have L3 := Lib.hid (SrcL.map (fun v F o => OwnS.below o b3) l _ L2.out)
        clear b3 AT2 OW2 L2 CI CS B1 B2
        obtain ⟨b, off, u, rfl, hbl, k0, k1, k2⟩ := AT3.out 0 (by simp)
        obtain ⟨g, cap, hv2, _⟩ := own_at0 OW3.out (by omega)
        obtain ⟨rfl, rfl⟩ : b = g ∧ off = 0 := by injection hv2 with e1 e2 e3; injection e1 with e1; injection e1 with e1 e2; exact ⟨e1, e2⟩
        simp at k0 k1
        have hS1 : S'.length = m - 1 := by have := HM.out; simp only [List.length_cons] at this; omega
        have hS2 : (s :: s :: S').length = 1 + m := by have := HM.out; simp only [List.length_cons] at this ⊢; omega
        have HS1 := Lib.hid hS1
        have HS2 := Lib.hid hS2
        have HOK1 : Hid (∀ t ∈ S', SrcOk 1048576 t) := fun t ht => HOK.out t (List.mem_cons_of_mem _ ht)
        have HOK2 : Hid (∀ t ∈ s :: s :: S', SrcOk 1048576 t) := fun t ht => by
          rcases List.mem_cons.1 ht with rfl | ht
          · exact HOK.out _ (List.mem_cons_self ..)
          · exact HOK.out t ht
        clear hS1 hS2
        obtain ⟨p0, l', rfl⟩ : ∃ p0 l', l = p0 :: l' := by
          cases l with
          | nil => exact L3.out.elim
          | cons p0 l' => exact ⟨p0, l', rfl⟩
        have HP0 : Hid (p0.1 = s.K ∧ OwnS w3 w.heap.size p0.2 s.F) := L3.out.1
        have hu : u = p0.2 := by
          have h1 := OW3.out.cellAt 1 (by omega)
          rw [k1] at h1
          simpa [prC] using h1
        subst hu
        obtain ⟨fa, fc, hfv, _⟩ := ownN_formn HP0.out.2
        have hcc : c1 = 1 ∨ ¬ c1 = 1 := by omega
        rcases hcc with hcc | hcc
        case' inl =>
          subst hcc
          obtain rfl : m = 1 := by omega
          have HS1 : Hid (S'.length = 0) := HS1.out
          have AT4 : Hid (SrcsAt w3 0 (some ⟨b, 0, none⟩) S') := by
            have : S' = [] := List.eq_nil_of_length_eq_zero (by have := HS1.out; omega)
            subst this
            exact fun i hi => by simp at hi
        case' inr =>
          have AT4 : Hid (SrcsAt w3 0 (some ⟨b, 2, none⟩) S') := Lib.hid (by simpa using SrcsAt.tail AT3.out)
        all_goals
          go_wp2_with fail
          refine (impl_SourcesValid _ _ _ S' w3 AT4.out HS1.out (by omega) (by omega) (by omega) HOK1.out).mono ?_
          rintro e w4 ⟨rfl, b4⟩
          rw [HV1.out]
          have B4 := Lib.hid (B3.out.trans (b4.mono B3.out.size))
          have OW4 := Lib.hid (ownN_below OW3.out b4)
          have L4 := Lib.hid (SrcL.map (fun v F o => OwnS.below o b4) _ _ L3.out)
          have hbs : b < w4.heap.size := Nat.lt_of_lt_of_le hbl b4.size
          have q0 : w4.cell? ⟨b, 0, none⟩ = some (.string s.K) := (b4.cell (p := ⟨b, 0, none⟩) hbl).trans k0
          have q1 : w4.cell? ⟨b, 1, none⟩ = some p0.2 := (b4.cell (p := ⟨b, 1, none⟩) hbl).trans k1
          rw [hfv] at q1
          clear b4
          obtain ⟨i0, hi, hz0, hz1, hz2⟩ := info_parts info_src2
          have HI := Lib.hid hi; have HZ0 := Lib.hid hz0; have HZ1 := Lib.hid hz1; have HZ2 := Lib.hid hz2
          clear hi hz0 hz1 hz2
          have hbel := bel_new (w := w4) (.cells #[.string s.K, .slice fa s.F.length fc] 29 (0, 0))
          have OWN := Lib.hid (ownN_new w4 #[.string s.K, .slice fa s.F.length fc] 29 2 1 rfl (by omega))
          have OW5 := Lib.hid (ownN_below OW4.out hbel)
          have hnews := row_cells (ownN_row OW5.out)
          have HNEWS := Lib.hid hnews
          have HLEN := Lib.hid (ownN_len OW4.out)
          have HONE : Hid (∀ u ∈ prC (p0 :: l'), u.oneCell' = true) := srcL_one _ _ L4.out
          have hb5 : b < w4.heap.size := hbs
          have B5 := Lib.hid (B4.out.trans (hbel.mono B4.out.size))
          have L5 := Lib.hid (SrcL.map (fun v F o => OwnS.below o hbel) _ _ L4.out)
          clear hbel hnews
          go_wp2_with (at_builtin; refine wpList_oper (by rfl) ?_; (refine oper_push (.tmp 31) (.tmp 32) _ (by rfl) w4.heap.size 29 i0 _ 2 40 Try.underlying23 HI.out HZ0.out HZ1.out HZ2.out rfl (by omega) _ 1 _ (by rfl) OWN.out ⟨b, 0, none⟩ _ _ (prC (p0 :: l')) (by rfl) HLEN.out HNEWS.out HONE.out (by simp only [maxLen]; omega) (by omega) (by simp) ?_); intro v6 w6 o6 g6; have OS6 := Lib.hid o6; have G6 := Lib.hid g6; clear o6 g6)
          have HG6 : Hid (Below w4.heap.size (w4.alloc (.cells #[.string s.K, .slice fa s.F.length fc] 29 (0, 0))) w6) := below_of_grown G6.out (by simp) (by intro q hq; simp [Value.ownBlock] at hq; omega)
          have hol : SrcL w6 w.heap.size ((s.K, .slice fa s.F.length fc) :: p0 :: l') (s :: s :: S') := by
            have e := SrcL.map (fun v F o => ownN_other o G6.out (fun q hq e => ownN_types_ne o OWN.out (by decide) q hq e)) _ _ L5.out
            refine ⟨⟨rfl, ?_⟩, e⟩
            have := e.1.2
            rwa [hfv] at this
          have o6 : w6.ownsRow w.heap.size 29 2 v6 _ (prC ((s.K, .slice fa s.F.length fc) :: p0 :: l')) := ownN_mono OS6.out (by have := B4.out.size; omega)
          obtain ⟨a6, c6, rfl, hc6, hc6', hat6⟩ := srcs_own o6 hol HS2.out
          have AT6 := Lib.hid (hat6.mono (Nat.zero_le _))
          have B6 : Hid (Below w.heap.size w w6) := B5.out.trans (HG6.out.mono B4.out.size)
          clear hol o6 hat6
          refine (impl_SourcesValid _ _ _ (s :: s :: S') w6 AT6.out HS2.out (by omega) hc6 hc6' HOK2.out).mono ?_
          rintro e w7 ⟨rfl, b7⟩
          rw [HV2.out]
          go_wp2
          go_ret
          exact ⟨rfl, B6.out.trans (b7.mono B6.out.size)⟩
end Go.Proofs.Ytpplagecancccaa
