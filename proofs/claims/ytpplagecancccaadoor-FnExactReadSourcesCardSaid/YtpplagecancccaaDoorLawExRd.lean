/- The walk of the law FnExactReadSources. -/
import Derived.Test.YtpplagecancccaaDoorMarkSrc
namespace Go.Proofs.YtpplagecancccaaDoor
open Go.RowKit

theorem ok_validX {S : List Src} {s : ByteArray} (hs : s.size ≤ 1048576) (h : bl (srcTxt S) = bl s) (hv : validB S = true) : ∀ t ∈ S, SrcOk 1048576 t := by
  have e : parse (bl s) = S := by rw [← h]; exact parse_back hv
  intro t ht
  rw [← e] at ht
  obtain ⟨p, hp, rfl⟩ := (parse_le _ (bl s) (Nat.le_refl _)).2 t ht
  rw [bl_len] at hp
  exact mkSrc_ok (by omega)
theorem kAt_small {S : List Src} (h5 : S.length ≤ 5) (h : ∀ s ∈ S, s.F.length ≤ 4) (i : Nat) : kAt 1 S i ≤ 100 := by
  have : ∀ l : List Src, (∀ s ∈ l, s.F.length ≤ 4) → (l.map fun s => 1 + s.F.length).sum ≤ l.length * 5 := by
    intro l
    induction l with
    | nil => intro _; simp
    | cons s l ih =>
      intro hl
      have := ih (fun t ht => hl t (by simp [ht]))
      have := hl s (by simp)
      rw [List.map_cons, List.sum_cons, List.length_cons]
      omega
  have h2 := this (S.take i) (fun s hs => h s (List.mem_of_mem_take hs))
  have h3 : (S.take i).length ≤ 5 := by rw [List.length_take]; omega
  unfold kAt
  omega
set_option maxRecDepth 100000 in
set_option maxHeartbeats 1600000 in
theorem walk_FnExactReadSources (s : ByteArray) (w : World) (h0 : s.size ≤ maxLen) (hmx : MaxOk w) :
    Calls Tryd.prog 4 #[.string s] w fun e w' => e = .returned (.bool true) ∧ Below w.heap.size w w' := by
  have HM := Lib.hid hmx
  have h0' : s.size ≤ 9223372036854775807 := by simpa [maxLen] using h0
  clear hmx h0
  by_cases hn : 1048576 < s.size
  · go_enter Tryd.func4, Tryd.ntmps4
    go_wp2
    go_ret
    exact ⟨rfl, Below.refl _ _⟩
  · have CR := Lib.hid (fun W h => impl_ReadSources s W (by omega) h)
    have CS := Lib.hid (fun W => spec_ReadSources s W (by omega))
    obtain ⟨S, ok, hr, h5, hok, hpos, hF⟩ : ∃ (S : List Src) (ok : Bool), readR (bl s) = (S, ok) ∧ S.length ≤ 5 ∧ (∀ t ∈ S, SrcOk 1048576 t) ∧ (∀ t ∈ S, 1 ≤ t.F.length) ∧ (∀ t ∈ S, t.F.length ≤ 4) := by
      rcases read_cases (bl s) with hr | ⟨S, hr, hv, ht⟩
      · exact ⟨[], false, hr, by simp, (by intro t ht; cases ht), (by intro t ht; cases ht), (by intro t ht; cases ht)⟩
      · exact ⟨S, true, hr, (valid_all hv).1, ok_validX (by omega) ht hv, (fun t ht => (srcB_len' (valid_mem hv t ht)).1), (fun t ht => (srcB_len' (valid_mem hv t ht)).2)⟩
    rw [hr] at CR CS
    obtain ⟨n, hnS⟩ : ∃ n, S.length = n := ⟨_, rfl⟩
    have HN := Lib.hid hnS
    have hn5 : n ≤ 5 := by omega
    have HK : Hid (∀ i, i ≤ n → kAt 1 S i ≤ 4611686018427387904) := fun i _ => by have := kAt_small h5 hF i; omega
    have hkn := kAt_small h5 hF n
    have HOK := Lib.hid hok
    have HPOS := Lib.hid hpos
    clear hr hok hpos hF h5
    go_enter Tryd.func4, Tryd.ntmps4
    go_wp2_with fail
    refine (CS.out _).mono ?_
    rintro e w1 ⟨v1, l1, rfl, o1, d1, b1⟩
    obtain ⟨a1, c1, rfl, _, _, hat1⟩ := srcs_ownD o1 d1 rfl
    rw [show (S, ok).fst.length = n from hnS]
    have AT1 : Hid (SrcsAt w1 0 a1 S) := hat1.mono (Nat.zero_le _)
    have B1 := Lib.hid b1
    clear o1 d1 hat1 b1
    go_wp2_with fail
    refine (CR.out _ (HM.out.below B1.out)).mono ?_
    rintro e w2 ⟨v2, l2, rfl, o2, d2, b2⟩
    have o2' : w2.ownsRow w1.heap.size 40 2 v2 n (prC l2) := len2 o2 hnS
    obtain ⟨a2, c2, rfl, _, _, hat2⟩ := srcs_ownD o2 d2 rfl
    rw [show (S, ok).fst.length = n from hnS] at o2' ⊢
    have AT2 : Hid (SrcsAt w2 0 a2 S) := hat2.mono (Nat.zero_le _)
    have O2 := Lib.hid o2'
    have D2 : Hid (SrcD w2 w1.heap.size l2 S) := d2
    have AT1b := Lib.hid (AT1.out.below b2)
    have HW1 := Lib.hid (b2.size)
    have C2 : Hid (Below w1.heap.size w1 w2) := b2
    clear o2 o2' d2 hat2 b2
    go_wp2_with fail
    refine (eqSourceS_any _ _ _ _ _ S _ AT2.out AT1b.out hnS (by omega) HOK.out).mono ?_
    rintro e w3 ⟨rfl, b3⟩
    have O3 := Lib.hid (ownN_below O2.out b3)
    have D3 := Lib.hid (SrcD.keep (KeepStr.of_below b3) _ _ _ D2.out)
    have C3 := Lib.hid (C2.out.trans (b3.mono C2.out.size))
    clear b3 O2 D2 C2 AT1b AT2
    go_wp2_with fail
    refine (markSourceS_any _ w1.heap.size n 1 l2 S w3 O3.out D3.out hnS (by omega) HK.out C3.out.size HPOS.out).mono ?_
    rintro e w4 ⟨rfl, l4, o4, d4, b4⟩
    obtain ⟨a4, c4, hv4, _, _, hat4⟩ := srcs_ownD o4 d4 (by rw [mkM_len]; exact hnS)
    obtain ⟨rfl, rfl⟩ : a2 = a4 ∧ c2 = c4 := by injection hv4 with e1 e2 e3; exact ⟨e1, e3⟩
    have C4 := Lib.hid (C3.out.trans b4)
    have AT4 : Hid (SrcsAt w4 0 a2 (mkM 1 S)) := hat4.mono (Nat.zero_le _)
    have CH : Hid (∀ W, SrcsAt W 0 a2 (mkM 1 S) → Calls Tryd.prog 16 #[.slice a2 n c2, .int .i64 1] W fun e w' => e = .returned (.int .i64 ((kAt 1 S n : Nat) : Int)) ∧ Below W.heap.size W w') := fun W h => heldSourceS_any a2 n c2 1 S W h hnS (by omega) HK.out
    have AT1c : Hid (SrcsAt w4 0 a1 S) := AT1.out.below C4.out
    clear b4 o4 d4 hat4 hv4 O3 D3 C3 HK
    generalize kAt 1 S n = kn at *
    go_wp2_with fail
    refine (CH.out _ AT4.out).mono ?_
    rintro e w5 ⟨rfl, b5⟩
    have AT5 := Lib.hid (AT4.out.below b5)
    have AT1d := Lib.hid (AT1c.out.below b5)
    have C5 := Lib.hid (C4.out.trans (b5.mono C4.out.size))
    clear b5 AT4 AT1c C4
    have B5 := Lib.hid (B1.out.trans (C5.out.mono B1.out.size))
    go_wp2_with fail
    refine (CR.out _ (HM.out.below B5.out)).mono ?_
    rintro e w6 ⟨v6, l6, rfl, o6, d6, b6⟩
    obtain ⟨a6, c6, rfl, _, _, hat6⟩ := srcs_ownD o6 d6 rfl
    rw [show (S, ok).fst.length = n from hnS]
    have AT6 : Hid (SrcsAt w6 0 a6 S) := hat6.mono (Nat.zero_le _)
    have AT1e := Lib.hid (AT1d.out.below b6)
    have AT5b := Lib.hid (AT5.out.below b6)
    have B6 := Lib.hid (B5.out.trans (b6.mono B5.out.size))
    clear o6 d6 hat6 b6 AT5 AT1d
    go_wp2_with fail
    refine (eqSourceS_any _ _ _ _ _ S _ AT6.out AT1e.out hnS (by omega) HOK.out).mono ?_
    rintro e w7 ⟨rfl, b7⟩
    have AT7 := Lib.hid (AT5b.out.below b7)
    have B7 := Lib.hid (B6.out.trans (b7.mono B6.out.size))
    clear b7 AT5b AT1e AT6
    go_wp2_with fail
    refine (CH.out _ AT7.out).mono ?_
    rintro e w8 ⟨rfl, b8⟩
    go_wp2
    go_ret
    exact ⟨rfl, B7.out.trans (b8.mono B7.out.size)⟩
end Go.Proofs.YtpplagecancccaaDoor
