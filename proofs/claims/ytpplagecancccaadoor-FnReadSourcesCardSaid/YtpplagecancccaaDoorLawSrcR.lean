/- The walk of the law FnReadSources. -/
import Derived.Test.YtpplagecancccaaDoorLawSrcT
namespace Go.Proofs.YtpplagecancccaaDoor
open Go.RowKit

def rdArr (s : ByteArray) : Array Value := #[.string ⟨#[115, 99, 114, 105, 112, 116]⟩, .string ⟨#[115, 99, 114, 105, 112, 116, 32, 110, 111, 110, 101, 32, 115, 101, 108, 102]⟩, .string ⟨#[97, 32, 98, 59, 32, 97, 32, 99]⟩, .string ⟨#[65, 32, 98]⟩, .string ⟨#[97, 32, 98, 59, 99, 32, 100]⟩, .string ⟨#[97, 32, 32, 98]⟩, .string ⟨#[97, 32, 98, 59, 32]⟩, .string ⟨#[97, 32, 42]⟩, .string (s ++ ⟨#[59]⟩), .string (s ++ ⟨#[32]⟩)]
theorem rdArr_all (s : ByteArray) (hs : s.size ≤ 1000) : ∀ x ∈ (rdArr s).toList, ∃ q : ByteArray, x = .string q ∧ q.size ≤ 1001 := by
  intro x hx
  simp only [rdArr, List.mem_cons, List.not_mem_nil, or_false] at hx
  rcases hx with rfl | rfl | rfl | rfl | rfl | rfl | rfl | rfl | rfl | rfl
  · exact ⟨_, rfl, by decide⟩
  · exact ⟨_, rfl, by decide⟩
  · exact ⟨_, rfl, by decide⟩
  · exact ⟨_, rfl, by decide⟩
  · exact ⟨_, rfl, by decide⟩
  · exact ⟨_, rfl, by decide⟩
  · exact ⟨_, rfl, by decide⟩
  · exact ⟨_, rfl, by decide⟩
  · exact ⟨_, rfl, by rw [ByteArray.size_append]; show s.size + 1 ≤ 1001; omega⟩
  · exact ⟨_, rfl, by rw [ByteArray.size_append]; show s.size + 1 ≤ 1001; omega⟩
set_option maxRecDepth 100000 in
set_option maxHeartbeats 1600000 in
theorem draw_ReadSources (w : World) (a : Option Addr) (n c : Nat) (f : Nat → UInt8) (hb : BytesAt w a n f) (hc : n ≤ c) (hc' : c ≤ 9223372036854775807) :
    Calls Tryd.prog 17 #[.slice a n c] w fun e w' => ∃ s : ByteArray, e = .returned (.string s) ∧ s.size ≤ 1001 ∧ Below w.heap.size w w' := by
  have HB := Lib.hid hb; clear hb
  go_enter Tryd.func17, Tryd.ntmps17
  go_wp2_with fail
  refine (open_any _ _ _ _ _ HB.out hc hc').mono ?_
  rintro e w1 ⟨rfl, hb1, hr1⟩
  have hR1 := hr1.lt
  have HR1 := Lib.hid hr1
  have HB1 := Lib.hid hb1
  clear hb1 HB hr1
  obtain ⟨R, hRR⟩ : ∃ R, w.heap.size = R := ⟨_, rfl⟩
  rw [hRR] at hR1 HR1
  go_wp2_with fail
  refine (sources_any _ R _ 0 HR1.out (by omega) (by omega) (by omega)).mono ?_
  rintro e w2 ⟨v, l, S, rfl, hS, own, hl, hsm, hg, hr2⟩
  obtain ⟨m, hm⟩ : ∃ m, S.length = m := ⟨_, rfl⟩
  rw [hm] at own
  obtain ⟨a1, c1, rfl, hc1, hc1', hat⟩ := srcs_own own hl hm
  have B2 := Lib.hid (HB1.out.grown hg (by omega) (by intro q hq; injection hq with hq; omega))
  have AT := Lib.hid (hat.mono (Nat.zero_le _))
  have HOK : Hid (∀ s ∈ S, SrcOk 1048576 s) := fun s hs => (hsm s hs).ok
  have hsz := txt_small hS hsm
  have HR2 := Lib.hid (hr2.less (k' := 1000) (by omega))
  have hR2 := hr2.lt
  have CT := Lib.hid (spec_SourcesText a1 m c1 S w2 AT.out hm (by omega) HOK.out)
  have HM := Lib.hid hm
  clear own hl hsm hg hr2 HR1 hat hm AT
  generalize srcTxt S = y at *
  go_wp2_with fail
  refine CT.out.mono ?_
  rintro e w3 ⟨rfl, b3⟩
  have B3 := Lib.hid (B2.out.trans (b3.mono B2.out.size))
  have HR3 := Lib.hid (HR2.out.below b3 hR2)
  have hR3 := HR3.out.lt
  clear b3 HR2 B2 CT
  go_wp2_with fail
  refine (odd_any _ R _ 3 HR3.out (by omega) (by omega) (by omega)).mono ?_
  rintro e w4 ⟨bb, rfl, hg4, hr4⟩
  have B4 := Lib.hid (B3.out.grown hg4 B3.out.size (by intro q hq; injection hq with hq; omega))
  have HR4 := Lib.hid hr4
  have hR4 := hr4.lt
  clear hg4 hr4 B3 HR3
  cases bb with
  | false =>
    go_wp2
    go_ret
    exact ⟨y, rfl, by omega, B4.out⟩
  | true =>
    go_wp2_with fail
    refine (pick_any _ R _ 10 (HR4.out.alloc_ _) (by omega) (by omega) (by omega)).mono ?_
    rintro e w5 ⟨x, rfl, hx, hg5, _⟩
    have hx9 : x < 10 := by omega
    have hgz : (w4.alloc (.cells (rdArr y) 9)).grownBy w5 (some R) := hg5
    obtain ⟨z, hcc, q, rfl, hq⟩ := load_lit (w := w5) (b := w4.heap.size) (i := x) (KeepFrom.of_grown (H := R + 1) hgz (by intro j e; injection e with e; omega) _ _ (by omega) (heap_alloc_new _ _)) (by show x < 10; exact hx9) (rdArr_all y hsz)
    have B5 := Lib.hid ((B4.out.alloc B4.out.size _).grown hgz (by rw [World.size_alloc]; have := B4.out.size; omega) (by intro q hq; injection hq with hq; omega))
    clear hg5 hgz HR4 B4 hx
    go_wp2
    go_ret
    exact ⟨q, rfl, hq, B5.out⟩
set_option maxRecDepth 100000 in
set_option maxHeartbeats 1600000 in
theorem walk_FnReadSources (a : Option Addr) (n c : Nat) (z : List Int) (w : World) (hrow : IsRow .u8 w a n c z) (hmx : MaxOk w) :
    Calls Tryd.prog 5 #[.slice a n c] w fun e w' => e = .returned (.bool true) ∧ Below w.heap.size w w' := by
  have hcap := hrow.caps
  have hby := Lib.hid hrow.bytes
  have HM := Lib.hid hmx
  clear hrow hmx
  by_cases hn : 1048576 < n
  · go_enter Tryd.func5, Tryd.ntmps5
    go_wp2
    go_ret
    exact ⟨rfl, Below.refl _ _⟩
  · go_enter Tryd.func5, Tryd.ntmps5
    go_wp2_with fail
    refine (draw_ReadSources _ _ _ _ _ hby.out hcap.1 hcap.2).mono ?_
    rintro e w1 ⟨s, rfl, hsz, b1⟩
    have B1 := Lib.hid b1
    clear b1 hby hcap hn
    have CR := Lib.hid (fun W h => impl_ReadSources s W (by omega) h)
    have CS := Lib.hid (fun W => spec_ReadSources s W (by omega))
    have CM : Hid (∀ W, MaxOk W → Calls Tryd.prog 11 #[.string (s ++ ⟨#[32]⟩)] W (ReadPost W ([], false))) := fun W h => by
      have := impl_ReadSources (s ++ ⟨#[32]⟩) W (by rw [ByteArray.size_append]; show s.size + 1 ≤ 1048576; omega) h
      rwa [bl_app, show bl ⟨#[32]⟩ = [32] from rfl, read_more] at this
    rcases read_cases (bl s) with hr | ⟨S, hr, hv, ht⟩
    · rw [hr] at CR CS
      clear hr CM
      go_wp2_with fail
      refine (CR.out _ (HM.out.below B1.out)).mono ?_
      rintro e w2 ⟨v2, l2, rfl, o2, d2, b2⟩
      obtain ⟨a2, c2, rfl, _, _, hat2⟩ := srcs_ownD o2 d2 rfl
      have AT2 := Lib.hid (hat2.mono (Nat.zero_le _))
      have B2 := Lib.hid (B1.out.trans (b2.mono B1.out.size))
      clear o2 d2 hat2 b2
      go_wp2_with fail
      refine (CS.out _).mono ?_
      rintro e w3 ⟨v3, l3, rfl, o3, d3, b3⟩
      obtain ⟨a3, c3, rfl, _, _, hat3⟩ := srcs_ownD o3 d3 rfl
      have AT3 := Lib.hid (hat3.mono (Nat.zero_le _))
      have AT2b := Lib.hid (AT2.out.below b3)
      have B3 := Lib.hid (B2.out.trans (b3.mono B2.out.size))
      clear o3 d3 hat3 b3
      go_wp2_with fail
      refine (sameSources_any _ _ _ _ _ [] _ AT2b.out AT3.out rfl (by decide) (by intro t ht; cases ht)).mono ?_
      rintro e w4 ⟨rfl, b4⟩
      have B4 := Lib.hid (B3.out.trans (b4.mono B3.out.size))
      clear b4
      go_wp2_with (go_at_call 10; refine (alive_any _).mono ?_; rintro e w5 ⟨rfl, b5⟩)
      go_ret
      exact ⟨rfl, B4.out.trans (b5.mono B4.out.size)⟩
    · rw [hr] at CR CS
      have hok := ok_valid (by omega) ht hv
      have HOK := Lib.hid hok
      have hst : srcTxt S = s := bl_inj ht
      obtain ⟨m, hm⟩ : ∃ m, S.length = m := ⟨_, rfl⟩
      have HMM := Lib.hid hm
      have hm5 : m ≤ 5 := by have := (valid_all hv).1; omega
      clear hr hv ht hok
      go_wp2_with fail
      refine (CR.out _ (HM.out.below B1.out)).mono ?_
      rintro e w2 ⟨v2, l2, rfl, o2, d2, b2⟩
      obtain ⟨a2, c2, rfl, hc2, hc2', hat2⟩ := srcs_ownD o2 d2 rfl
      rw [show (S, true).fst.length = m from HMM.out] at hc2 ⊢
      have AT2 : Hid (SrcsAt w2 0 a2 S) := hat2.mono (Nat.zero_le _)
      have B2 := Lib.hid (B1.out.trans (b2.mono B1.out.size))
      clear o2 d2 hat2 b2
      go_wp2_with fail
      refine (CS.out _).mono ?_
      rintro e w3 ⟨v3, l3, rfl, o3, d3, b3⟩
      obtain ⟨a3, c3, rfl, _, _, hat3⟩ := srcs_ownD o3 d3 rfl
      rw [show (S, true).fst.length = m from HMM.out]
      have AT3 : Hid (SrcsAt w3 0 a3 S) := hat3.mono (Nat.zero_le _)
      have AT2b := Lib.hid (AT2.out.below b3)
      have B3 := Lib.hid (B2.out.trans (b3.mono B2.out.size))
      clear o3 d3 hat3 b3 AT2 CR CS
      go_wp2_with fail
      refine (sameSources_any _ _ _ _ _ S _ AT2b.out AT3.out HMM.out (by omega) HOK.out).mono ?_
      rintro e w4 ⟨rfl, b4⟩
      have AT4 := Lib.hid (AT2b.out.below b4)
      have B4 := Lib.hid (B3.out.trans (b4.mono B3.out.size))
      clear b4 AT2b AT3
      have hsz2 : (s ++ ⟨#[32]⟩ : ByteArray).size ≤ 1002 := by rw [ByteArray.size_append]; show s.size + 1 ≤ 1002; omega
      go_wp2_with fail
      refine (CM.out _ (HM.out.below B4.out)).mono ?_
      rintro e w5 ⟨v5, l5, rfl, _, _, b5⟩
      have AT5 := Lib.hid (AT4.out.below b5)
      have B5 := Lib.hid (B4.out.trans (b5.mono B4.out.size))
      clear b5 CM AT4
      have CT := Lib.hid (impl_SourcesText a2 m c2 S w5 AT5.out HMM.out (by omega) hc2 hc2' HOK.out)
      rw [hst] at CT
      go_wp2_with fail
      refine CT.out.mono ?_
      rintro e w6 ⟨rfl, b6⟩
      go_wp2
      go_ret
      exact ⟨rfl, B5.out.trans (b6.mono B5.out.size)⟩
end Go.Proofs.YtpplagecancccaaDoor
