/- The walks of the laws FnSourcesText and FnReadSources. -/
import Derived.Test.YtpplagecancccaaDoorRdS
import Derived.Test.YtpplagecancccaaDoorSrcDraw
import Derived.Test.YtpplagecancccaaDoorSameSrc
import Derived.Test.YtpplagecancccaaDoorAlive
namespace Go.Proofs.YtpplagecancccaaDoor
open Go.RowKit

theorem part_small {s : Src} (h : SrcSm s) : (partS s).size ≤ 55 := by
  obtain ⟨h1, h2, h3⟩ := h
  have := join_le 10 [32] (s.F.map bl) (by
    intro x hx
    obtain ⟨t, ht, rfl⟩ := List.mem_map.1 hx
    rw [bl_len]; exact h3 t ht)
  rw [List.length_map] at this
  have h4 : s.F.length * (10 + [(32 : UInt8)].length) ≤ 4 * 11 := Nat.mul_le_mul h2 (Nat.le_refl _)
  rw [partS, mkS_size, List.length_append, List.length_cons, bl_len]; omega
theorem txt_small {S : List Src} (h5 : S.length ≤ 5) (h : ∀ s ∈ S, SrcSm s) : (srcTxt S).size ≤ 1000 := by
  cases hv : validB S with
  | false => rw [srcTxt_no hv]; exact Nat.zero_le _
  | true =>
    have := join_le 55 [59, 32] ((S.map partS).map bl) (by
      intro x hx
      obtain ⟨y, hy, rfl⟩ := List.mem_map.1 hx
      obtain ⟨s, hs, rfl⟩ := List.mem_map.1 hy
      rw [bl_len]; exact part_small (h s hs))
    rw [List.length_map, List.length_map] at this
    have h2 : S.length * (55 + [(59 : UInt8), 32].length) ≤ 5 * 57 := Nat.mul_le_mul h5 (Nat.le_refl _)
    rw [srcTxt_yes hv, joinS, mkS_size]; omega
def EndsOk (l : List UInt8) : Prop := ∃ (p : List UInt8) (x : UInt8), l = p ++ [x] ∧ x ≠ 32
theorem ends_app (a : List UInt8) {b : List UInt8} (h : EndsOk b) : EndsOk (a ++ b) := by
  obtain ⟨p, x, rfl, hx⟩ := h
  exact ⟨a ++ p, x, by rw [List.append_assoc], hx⟩
theorem ends_plain {l : List UInt8} (h : plainL l) (hn : l ≠ []) : EndsOk l := by
  refine ⟨l.dropLast, l.getLast hn, (List.dropLast_concat_getLast hn).symm, (h _ (List.getLast_mem hn)).1⟩
theorem ends_join (sep : List UInt8) : ∀ L : List (List UInt8), L ≠ [] → (∀ l ∈ L, EndsOk l) → EndsOk (Lib.join L sep) := by
  intro L
  induction L with
  | nil => intro h; exact absurd rfl h
  | cons a L ih =>
    intro _ h
    rcases L with _ | ⟨b, L⟩
    · rw [Lib.join_one]; exact h a (by simp)
    · have e : Lib.join (a :: b :: L) sep = a ++ (sep ++ Lib.join (b :: L) sep) := by
        rw [Lib.join_cons, Lib.join_cons, Lib.joinTail, List.map_cons, List.flatten_cons, Lib.joinTail]
        simp
      rw [e]
      exact ends_app _ (ends_app _ (ih (by simp) (fun l hl => h l (by simp [hl]))))
theorem txt_ends {S : List Src} (hv : validB S = true) (hn : S ≠ []) : EndsOk (bl (srcTxt S)) := by
  rw [txt_bl hv]
  refine ends_join _ _ (by simpa using hn) ?_
  intro l hl
  obtain ⟨y, hy, rfl⟩ := List.mem_map.1 hl
  obtain ⟨s, hs, rfl⟩ := List.mem_map.1 hy
  obtain ⟨_, h2, h3⟩ := src_plain (valid_mem hv s hs)
  rw [partS, bl_mkS]
  refine ends_app _ ?_
  have : EndsOk (Lib.join (s.F.map bl) [32]) := ends_join _ _ (by simpa using h2) (by
    intro l hl
    obtain ⟨t, ht, rfl⟩ := List.mem_map.1 hl
    exact ends_plain (h3 t ht).1 (h3 t ht).2)
  exact ends_app [32] this
theorem read_more (l : List UInt8) : readR (l ++ [32]) = ([], false) := by
  rcases read_cases (l ++ [32]) with h | ⟨S, _, h2, h3⟩
  · exact h
  · exfalso
    by_cases hn : S = []
    · subst hn
      have e : bl (srcTxt []) = [] := rfl
      rw [e] at h3
      simp at h3
    · obtain ⟨p, x, e, hx⟩ := txt_ends h2 hn
      rw [e] at h3
      have := (List.append_inj' h3 rfl).2
      injection this with e1 _
      exact hx e1
theorem ok_valid {S : List Src} {s : ByteArray} (hs : s.size ≤ 1048576) (h : bl (srcTxt S) = bl s) (hv : validB S = true) : ∀ t ∈ S, SrcOk 1048576 t := by
  have e : parse (bl s) = S := by rw [← h]; exact parse_back hv
  intro t ht
  rw [← e] at ht
  obtain ⟨p, hp, rfl⟩ := (parse_le _ (bl s) (Nat.le_refl _)).2 t ht
  rw [bl_len] at hp
  exact mkSrc_ok (by omega)

def DrawSrcsT (w : World) (e : Ending) (w' : World) : Prop :=
  ∃ (v : Value) (l : List (ByteArray × Value)) (S : List Src), e = .returned v ∧ S.length ≤ 5 ∧ w'.ownsRow w.heap.size 40 2 v S.length (prC l) ∧ SrcL w' w.heap.size l S ∧ (∀ s ∈ S, SrcSm s) ∧ Below w.heap.size w w'
theorem draw_SourcesText (w : World) (a : Option Addr) (n c : Nat) (f : Nat → UInt8) (hb : BytesAt w a n f) (hc : n ≤ c) (hc' : c ≤ 9223372036854775807) :
    Calls Tryd.prog 6 #[.slice a n c] w (DrawSrcsT w) := by
  have HB := Lib.hid hb; clear hb
  go_enter Tryd.func6, Tryd.ntmps6
  go_wp2_with fail
  refine (open_any _ _ _ _ _ HB.out hc hc').mono ?_
  rintro e w1 ⟨rfl, hb1, hr1⟩
  have hR1 := hr1.lt
  have HR1 := Lib.hid hr1
  have HB1 := Lib.hid hb1
  clear hb1 HB hr1
  generalize hRR : w.heap.size = R at *
  go_wp2_with fail
  refine (sources_any _ _ _ _ HR1.out (by omega) (by omega) (by omega)).mono ?_
  rintro e w2 ⟨v, l, S, rfl, hS, own, hl, hsm, hg, _⟩
  have B2 := Lib.hid (HB1.out.grown hg (Nat.le_of_lt (by omega)) (by intro q hq; injection hq with hq; omega))
  have O2 := Lib.hid (ownN_mono own (B' := R) (by omega))
  have L2 := Lib.hid (SrcL.map (fun v F o => OwnS.mono o (B' := R) (by omega)) l S hl)
  have HSM := Lib.hid hsm
  clear own hl hsm hg
  go_wp2
  go_ret
  subst hRR
  exact ⟨v, l, S, rfl, hS, O2.out, L2.out, HSM.out, B2.out⟩
set_option maxRecDepth 100000 in
set_option maxHeartbeats 1600000 in
theorem walk_FnSourcesText (a : Option Addr) (n c : Nat) (z : List Int) (w : World) (hrow : IsRow .u8 w a n c z) (hmx : MaxOk w) :
    Calls Tryd.prog 3 #[.slice a n c] w fun e w' => e = .returned (.bool true) ∧ Below w.heap.size w w' := by
  have hcap := hrow.caps
  have hby := Lib.hid hrow.bytes
  have HM := Lib.hid hmx
  clear hrow hmx
  by_cases hn : 1048576 < n
  · go_enter Tryd.func3, Tryd.ntmps3
    go_wp2
    go_ret
    exact ⟨rfl, Below.refl _ _⟩
  · go_enter Tryd.func3, Tryd.ntmps3
    go_wp2_with fail
    refine (draw_SourcesText _ _ _ _ _ hby.out hcap.1 hcap.2).mono ?_
    rintro e w1 ⟨v, l, S, rfl, hS5, own, hl, hsm, b1⟩
    obtain ⟨m, hm⟩ : ∃ m, S.length = m := ⟨_, rfl⟩
    rw [hm] at own
    obtain ⟨a1, c1, rfl, hc1, hc1', hat⟩ := srcs_own own hl hm
    have B1 := Lib.hid b1
    have AT1 := Lib.hid (hat.mono (Nat.zero_le _))
    have HOK : Hid (∀ s ∈ S, SrcOk 1048576 s) := fun s hs => (hsm s hs).ok
    have HMM := Lib.hid hm
    have hm5 : m ≤ 5 := by omega
    have hsz := txt_small hS5 hsm
    have BB : Hid (Below w1.heap.size w1 w1) := Below.refl _ _
    clear b1 hby hcap hn hat own hl hsm hm
    have CI : Hid (∀ W, Below w1.heap.size w1 W → Calls Tryd.prog 7 #[.slice a1 m c1] W fun e w' => e = .returned (.string (srcTxt S)) ∧ Below W.heap.size W w') := fun W h => impl_SourcesText a1 m c1 S W (AT1.out.below h) HMM.out (by omega) hc1 hc1' HOK.out
    have CS : Hid (∀ W, Below w1.heap.size w1 W → Calls Tryd.prog 8 #[.slice a1 m c1] W fun e w' => e = .returned (.string (srcTxt S)) ∧ Below W.heap.size W w') := fun W h => spec_SourcesText a1 m c1 S W (AT1.out.below h) HMM.out (by omega) HOK.out
    have CV : Hid (∀ W, Below w1.heap.size w1 W → Calls Tryd.prog 9 #[.slice a1 m c1] W fun e w' => e = .returned (.bool (validB S)) ∧ Below W.heap.size W w') := fun W h => spec_SourcesValid a1 m c1 S W (AT1.out.below h) HMM.out (by omega) HOK.out
    have CR : Hid (∀ W, Below w1.heap.size w1 W → Calls Tryd.prog 11 #[.string (srcTxt S)] W (ReadPost W (readR (bl (srcTxt S))))) := fun W h => impl_ReadSources (srcTxt S) W (by omega) (HM.out.below (B1.out.trans (h.mono B1.out.size)))
    rcases hv : validB S with _ | _
    · rw [hv] at CV
      have hem : srcTxt S = ⟨#[]⟩ := srcTxt_no hv
      rw [hem] at CI CS
      clear hv CR hem
      go_wp2_with (first
        | (go_at_call 7; refine (CI.out _ BB.out).mono ?_; rintro e w5 ⟨rfl, b5⟩; have BB := Lib.hid (BB.out.trans (b5.mono BB.out.size)); clear b5)
        | (go_at_call 8; refine (CS.out _ BB.out).mono ?_; rintro e w5 ⟨rfl, b5⟩; have BB := Lib.hid (BB.out.trans (b5.mono BB.out.size)); clear b5)
        | (go_at_call 9; refine (CV.out _ BB.out).mono ?_; rintro e w5 ⟨rfl, b5⟩; have BB := Lib.hid (BB.out.trans (b5.mono BB.out.size)); clear b5)
        | (go_at_call 10; refine (alive_any _).mono ?_; rintro e w5 ⟨rfl, b5⟩; have BB := Lib.hid (BB.out.trans (b5.mono BB.out.size)); clear b5))
      go_ret
      exact ⟨rfl, B1.out.trans (BB.out.mono B1.out.size)⟩
    · rw [hv] at CV
      rw [read_back hv] at CR
      clear hv
      generalize srcTxt S = y at *
      go_wp2_with (first
        | (go_at_call 7; refine (CI.out _ BB.out).mono ?_; rintro e w5 ⟨rfl, b5⟩; have BB := Lib.hid (BB.out.trans (b5.mono BB.out.size)); clear b5)
        | (go_at_call 8; refine (CS.out _ BB.out).mono ?_; rintro e w5 ⟨rfl, b5⟩; have BB := Lib.hid (BB.out.trans (b5.mono BB.out.size)); clear b5)
        | (go_at_call 9; refine (CV.out _ BB.out).mono ?_; rintro e w5 ⟨rfl, b5⟩; have BB := Lib.hid (BB.out.trans (b5.mono BB.out.size)); clear b5))
      refine (CR.out _ BB.out).mono ?_
      rintro e w6 ⟨v6, l6, rfl, o6, d6, b6⟩
      obtain ⟨a6, c6, rfl, _, _, hat6⟩ := srcs_ownD o6 d6 rfl
      rw [show (S, true).fst.length = m from HMM.out]
      have AT6 := Lib.hid (hat6.mono (Nat.zero_le _))
      have BB6 := Lib.hid (BB.out.trans (b6.mono BB.out.size))
      have AT7 := Lib.hid (AT1.out.below BB6.out)
      clear o6 d6 hat6 b6
      go_wp2_with fail
      refine (sameSources_any _ _ _ _ _ S _ AT6.out AT7.out HMM.out (by omega) HOK.out).mono ?_
      rintro e w7 ⟨rfl, b7⟩
      go_wp2
      go_ret
      exact ⟨rfl, B1.out.trans ((BB6.out.trans (b7.mono BB6.out.size)).mono B1.out.size)⟩
end Go.Proofs.YtpplagecancccaaDoor
