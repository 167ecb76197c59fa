/- The walk of the law FnSourceAllows. -/
import Derived.Test.YtpplagecancccaaAllowDraw
import Derived.Test.YtpplagecancccaaAllowI
namespace Go.Proofs.Ytpplagecancccaa
open Go.RowKit

theorem allow_nil {S : List Src} {kind home host : ByteArray} (h : allowR S kind home host = true) : allowR [] kind home host = true := by
  unfold allowR at h ⊢
  rw [Bool.and_eq_true, Bool.and_eq_true, Bool.and_eq_true, Bool.and_eq_true] at h
  obtain ⟨⟨⟨⟨_, h1⟩, h2⟩, h3⟩, _⟩ := h
  rw [h1, h2, h3]
  rfl
theorem find_no {S : List Src} {kind : ByteArray} (h : (S.any fun s => decide (s.K = kind)) = false) : findK S kind = none := by
  rw [findK, List.find?_eq_none]
  intro s hs e
  rw [List.any_eq_false] at h
  exact h s hs e
theorem allow_dflt {S : List Src} {kind home host : ByteArray} (h : (S.any fun s => decide (s.K = kind)) = false) (hn : nameB (bl kind) = true) : allowR S dfltS home host = allowR S kind home host := by
  unfold allowR
  have e1 : pickS S kind = findK S dfltS := by unfold pickS; rw [find_no h]
  have e2 : pickS S dfltS = findK S dfltS := by unfold pickS; cases findK S dfltS <;> rfl
  rw [e1, e2, hn, show nameB (bl dfltS) = true by decide]
theorem allow_bad {S : List Src} {kind home host : ByteArray} (h : validB S = false) : allowR S kind home host = false := by
  unfold allowR
  rw [h]; rfl
theorem any_take {S : List Src} {k : Nat} (h : k < S.length) (kind : ByteArray) : ((S.take (k + 1)).any fun s => decide (s.K = kind)) = (((S.take k).any fun s => decide (s.K = kind)) || decide (S[k].K = kind)) := by
  rw [List.take_succ_eq_append_getElem h, List.any_append]; simp

set_option maxRecDepth 100000 in
set_option maxHeartbeats 3200000 in
theorem walk_FnSourceAllows (a : Option Addr) (n c : Nat) (z : List Int) (w : World) (hrow : IsRow .u8 w a n c z) :
    Calls Try.prog 5 #[.slice a n c] w fun e w' => e = .returned (.bool true) ∧ Below w.heap.size w w' := by
  have hcap := hrow.caps
  have hby := Lib.hid hrow.bytes
  clear hrow
  by_cases hn : 1048576 < n
  · go_enter Try.func5, Try.ntmps5
    go_wp2
    go_ret
    exact ⟨rfl, Below.refl _ _⟩
  · go_enter Try.func5, Try.ntmps5
    go_wp2_with fail
    refine (draw_SourceAllows _ _ _ _ _ hby.out hcap.1 hcap.2).mono ?_
    rintro e w1 ⟨v, l, S, kind, home, host, rfl, ⟨hk1, hk2, hk3⟩, hS5, own, hl, hsm, b1⟩
    obtain ⟨m, hm⟩ : ∃ m, S.length = m := ⟨_, rfl⟩
    rw [hm] at own
    obtain ⟨a1, c1, rfl, hc1, hc1', hat⟩ := srcs_own own hl hm
    have B1 := Lib.hid b1
    have AT1 := Lib.hid (hat.mono (Nat.zero_le _))
    have HOK : Hid (∀ s ∈ S, SrcOk 1048576 s) := fun s hs => (hsm s hs).ok
    have HM := Lib.hid hm
    have hm5 : m ≤ 5 := by omega
    have BB : Hid (Below w1.heap.size w1 w1) := Below.refl _ _
    clear b1 hby hcap hn hat own hl hsm hm
    have CI : Hid (∀ W, Below w1.heap.size w1 W → Calls Try.prog 16 #[.slice a1 m c1, .string kind, .string home, .string host] W fun e w' => e = .returned (.bool (allowR S kind home host)) ∧ Below W.heap.size W w') := fun W h => impl_SourceAllows a1 m c1 S kind home host W (AT1.out.below h) HM.out (by omega) hc1 hc1' HOK.out (by omega) (by omega) (by omega)
    have CS : Hid (∀ W, Below w1.heap.size w1 W → Calls Try.prog 17 #[.slice a1 m c1, .string kind, .string home, .string host] W fun e w' => e = .returned (.bool (allowR S kind home host)) ∧ Below W.heap.size W w') := fun W h => spec_SourceAllows a1 m c1 S kind home host W (AT1.out.below h) HM.out (by omega) HOK.out (by omega) (by omega) (by omega)
    have CV : Hid (∀ W, Below w1.heap.size w1 W → Calls Try.prog 9 #[.slice a1 m c1] W fun e w' => e = .returned (.bool (validB S)) ∧ Below W.heap.size W w') := fun W h => impl_SourcesValid a1 m c1 S W (AT1.out.below h) HM.out (by omega) hc1 hc1' HOK.out
    have CD : Hid (∀ W, Below w1.heap.size w1 W → Calls Try.prog 16 #[.slice a1 m c1, .string dfltS, .string home, .string host] W fun e w' => e = .returned (.bool (allowR S dfltS home host)) ∧ Below W.heap.size W w') := fun W h => impl_SourceAllows a1 m c1 S dfltS home host W (AT1.out.below h) HM.out (by omega) hc1 hc1' HOK.out (by decide) (by omega) (by omega)
    have CN : Hid (∀ W, Below w1.heap.size w1 W → Calls Try.prog 16 #[.slice none 0 0, .string kind, .string home, .string host] W fun e w' => e = .returned (.bool (allowR [] kind home host)) ∧ Below W.heap.size W w') := fun W h => impl_SourceAllows none 0 0 [] kind home host W (fun i hi => by simp at hi) rfl (by omega) (by omega) (by omega) (fun s hs => by cases hs) (by omega) (by omega) (by omega)
    have NV : Hid (∀ W, Calls Try.prog 18 #[.string kind] W fun e w' => e = .returned (.bool (nameB (bl kind))) ∧ W = w') := fun W => impl_NameValid kind W (by omega)
    rcases hv : validB S with _ | _
    · have h0 := allow_bad (kind := kind) (home := home) (host := host) hv
      rw [h0] at CI CS
      rw [hv] at CV
      clear hv h0
      go_wp2_with (first
        | (go_at_call 16; refine (CI.out _ BB.out).mono ?_; rintro e w5 ⟨rfl, b5⟩; have BB := Lib.hid (BB.out.trans (b5.mono BB.out.size)); clear b5)
        | (go_at_call 17; refine (CS.out _ BB.out).mono ?_; rintro e w5 ⟨rfl, b5⟩; have BB := Lib.hid (BB.out.trans (b5.mono BB.out.size)); clear b5)
        | (go_at_call 9; refine (CV.out _ BB.out).mono ?_; rintro e w5 ⟨rfl, b5⟩; have BB := Lib.hid (BB.out.trans (b5.mono BB.out.size)); clear b5)
        | (go_at_call 11; refine (alive_any _).mono ?_; rintro e w5 ⟨rfl, b5⟩; have BB := Lib.hid (BB.out.trans (b5.mono BB.out.size)); clear b5))
      go_ret
      exact ⟨rfl, B1.out.trans (BB.out.mono B1.out.size)⟩
    · rw [hv] at CV
      clear hv
      have HAN := Lib.hid (@allow_nil S kind home host)
      have HAD := Lib.hid (@allow_dflt S kind home host)
      generalize allowR S kind home host = ok at *
      generalize allowR [] kind home host = al at *
      generalize allowR S dfltS home host = dv at *
      go_wp2_with (first
        | (go_at_call 16; refine (CI.out _ BB.out).mono ?_; rintro e w5 ⟨rfl, b5⟩; have BB := Lib.hid (BB.out.trans (b5.mono BB.out.size)); clear b5)
        | (go_at_call 17; refine (CS.out _ BB.out).mono ?_; rintro e w5 ⟨rfl, b5⟩; have BB := Lib.hid (BB.out.trans (b5.mono BB.out.size)); clear b5)
        | (go_at_call 9; refine (CV.out _ BB.out).mono ?_; rintro e w5 ⟨rfl, b5⟩; have BB := Lib.hid (BB.out.trans (b5.mono BB.out.size)); clear b5))
      have AT5 := Lib.hid (AT1.out.below BB.out)
      clear CI CS CV
      go_loop [8, 9] (fun o t => ∃ (k : Nat) (b : Bool), k ≤ m ∧ t = .int .i64 (k : Int) ∧ o = .bool b ∧ Hid (b = (S.take k).any fun s => decide (s.K = kind))) (fun _ t => m - (intOf t).toNat)
      case atStart => exact ⟨0, false, Nat.zero_le _, rfl, rfl, rfl⟩
      case round =>
        obtain ⟨k, b, hk, rfl, rfl, HB⟩ := hrel
        by_cases hlt : k < m
        · have hks : k < S.length := by rw [HM.out]; exact hlt
          obtain ⟨g, off, u, rfl, hbl, x0, x1, x2⟩ := AT5.out k hks
          have HT := any_take hks kind
          rw [← HB.out] at HT
          cases b with
          | true =>
            have HT2 : Hid (true = (S.take (k + 1)).any fun s => decide (s.K = kind)) := by show _ = _; rw [HT]; rfl
            clear HT HB
            go_wp2
            go_round
            case rel => exact ⟨k + 1, true, by omega, by go_num, rfl, HT2⟩
            case measure => simp [intOf]; omega
          | false =>
            have htl := tl_yn S[k].K kind
            rcases hd : decide (S[k].K = kind) with _ | _
            · rw [hd] at htl HT
              have HT2 : Hid (false = (S.take (k + 1)).any fun s => decide (s.K = kind)) := by show _ = _; rw [HT]; rfl
              clear HT HB hd
              go_wp2
              go_round
              case rel => exact ⟨k + 1, false, by omega, by go_num, rfl, HT2⟩
              case measure => simp [intOf]; omega
            · rw [hd] at htl HT
              have HT2 : Hid (true = (S.take (k + 1)).any fun s => decide (s.K = kind)) := by show _ = _; rw [HT]; rfl
              clear HT HB hd
              go_wp2
              go_round
              case rel => exact ⟨k + 1, true, by omega, by go_num, rfl, HT2⟩
              case measure => simp [intOf]; omega
        · obtain rfl : k = m := by omega
          have HB2 : Hid (b = S.any fun s => decide (s.K = kind)) := by
            show _ = _
            rw [HB.out, List.take_of_length_le (by rw [HM.out]; exact Nat.le_refl _)]
          have HAD2 : Hid (b = false → nameB (bl kind) = true → dv = ok) := fun e => HAD.out (by rw [← HB2.out, e])
          clear HB HB2 HAD
          generalize nameB (bl kind) = nb at *
          have hx : (ok = true → al = true) ∧ (b = false → nb = true → dv = ok) := ⟨HAN.out, HAD2.out⟩
          clear HAN HAD2 AT5
          obtain ⟨hal, hdv⟩ := hx
          have hcase : (b = true) ∨ (b = false ∧ nb = false) ∨ (b = false ∧ nb = true ∧ dv = ok) := by
            cases b with
            | true => exact .inl rfl
            | false =>
              cases nb with
              | false => exact .inr (.inl ⟨rfl, rfl⟩)
              | true => exact .inr (.inr ⟨rfl, rfl, hdv rfl rfl⟩)
          clear hdv
          have hoc : (ok = true ∧ al = true) ∨ ok = false := by
            cases ok with
            | true => exact .inl ⟨rfl, hal rfl⟩
            | false => exact .inr rfl
          clear hal
          rcases hoc with ⟨rfl, rfl⟩ | rfl <;> rcases hcase with rfl | ⟨rfl, rfl⟩ | ⟨rfl, rfl, rfl⟩
          all_goals
            go_wp2_with fail
            refine (CN.out _ BB.out).mono ?_
            rintro e w5 ⟨rfl, b5⟩
            have BB := Lib.hid (BB.out.trans (b5.mono BB.out.size))
            clear b5 CN
            go_wp2_with (first
          | (go_at_call 16; refine (CD.out _ BB.out).mono ?_; rintro e w5 ⟨rfl, b5⟩; have BB := Lib.hid (BB.out.trans (b5.mono BB.out.size)); clear b5)
          | (go_at_call 18; refine (NV.out _).mono ?_; rintro e w5 ⟨rfl, rfl⟩)
          | (go_at_call 11; refine (alive_any _).mono ?_; rintro e w5 ⟨rfl, b5⟩; have BB := Lib.hid (BB.out.trans (b5.mono BB.out.size)); clear b5))
            go_ret
            exact ⟨rfl, B1.out.trans (BB.out.mono B1.out.size)⟩
end Go.Proofs.Ytpplagecancccaa
