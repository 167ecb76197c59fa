/- Joined texts (LawRowsX). -/
import Derived.Test.YtdoomfckdjjlaaaRefC
import Derived.Test.YtdoomfckdjjlaaaRefB

/-! The walk of the law FnExactTableRows. -/
namespace Go.Proofs.Ytdoomfckdjjlaaa
open Go.RowKit

set_option maxRecDepth 100000 in
set_option maxHeartbeats 1600000 in
theorem walk_FnExactTableRows (s : ByteArray) (w : World) (_ : s.size ≤ maxLen) :
    Calls Try.prog 8 #[.string s] w fun e w' => e = .returned (.bool true) ∧ Below w.heap.size w w' := by
  by_cases hn : 1048576 < s.size
  · have hn2 : (1048576 : Int) < (s.size : Int) := by omega
    go_enter Try.func8, Try.ntmps8
    go_wp2
    go_ret
    exact ⟨rfl, Below.refl _ _⟩
  have hn2 : ¬ (1048576 : Int) < (s.size : Int) := by omega
  obtain ⟨T, hT⟩ := resIs_ex (tokI (bl s))
  have CI := Lib.hid (fun W => impl_TableRowsG s T W (by omega) hT)
  have CS := Lib.hid (fun W => spec_TableRowsG s T W (by omega) hT)
  cases T with
  | none =>
    clear hT
    have CE := Lib.hid (fun a a2 c c2 W => eqStringSS0 a a2 c c2 W)
    have CM := Lib.hid (fun a c W => markStringSS0 a c 1 W)
    have CH := Lib.hid (fun a c W => heldStringSS0 a c 1 W)
    go_enter Try.func8, Try.ntmps8
    go_wp2_with fail
    refine (CS.out _).mono ?_
    rintro e w1 ⟨⟨a1, c1, rfl⟩, b1⟩
    have B1 := Lib.hid b1
    clear b1
    go_wp2_with fail
    refine (CI.out _).mono ?_
    rintro e w2 ⟨⟨a2, c2, rfl⟩, b2⟩
    have B2 := Lib.hid (B1.out.trans (b2.mono B1.out.size))
    clear b2 B1
    go_wp2_with fail
    refine (CE.out _ _ _ _ _).mono ?_
    rintro e w3 ⟨rfl, b3⟩
    have B3 := Lib.hid (B2.out.trans (b3.mono B2.out.size))
    clear b3 B2
    go_wp2_with fail
    refine (CM.out _ _ _).mono ?_
    rintro e w4 ⟨rfl, rfl⟩
    go_wp2_with fail
    refine (CH.out _ _ _).mono ?_
    rintro e w4 ⟨rfl, rfl⟩
    go_wp2_with fail
    refine (CI.out _).mono ?_
    rintro e w5 ⟨⟨a5, c5, rfl⟩, b5⟩
    have B5 := Lib.hid (B3.out.trans (b5.mono B3.out.size))
    clear b5 B3
    go_wp2_with fail
    refine (CE.out _ _ _ _ _).mono ?_
    rintro e w6 ⟨rfl, b6⟩
    have B6 := Lib.hid (B5.out.trans (b6.mono B5.out.size))
    clear b6 B5
    go_wp2_with fail
    refine (CH.out _ _ _).mono ?_
    rintro e w7 ⟨rfl, rfl⟩
    go_wp2
    go_ret
    exact ⟨rfl, B6.out⟩
  | some T =>
    obtain ⟨_, _, htab, _⟩ := resIs_some hT
    have hok := tab_okN htab
    obtain ⟨n, hln⟩ : ∃ n, T.length = n := ⟨_, rfl⟩
    have hn4 : n ≤ 4 := by rw [← hln]; exact (tab_small htab).1
    have CE := Lib.hid (fun a1 a2 c1 c2 W (h1 : TabsAt W 0 a1 T) (h2 : TabsAt W 0 a2 T) => eqStringSS_any a1 a2 n c1 c2 T W h1 h2 hln (by omega) hok)
    have CM := Lib.hid (fun v B vs W (own : W.ownsRow B 31 1 v n vs) (hd : OwnLs W B vs T) (hB : B ≤ W.heap.size) => markStringSS2 v B n 1 vs T W own hd hln (by omega) (fun i _ => cAt_fit hok i) hB)
    have CH := Lib.hid (fun a c W (h : TabsAt W 0 a (marksT 1 T)) => heldStringSS_any a n c 1 T W h hln (by omega) (by omega) (fun i _ => cAt_fit hok i))
    have hq0 : ¬ (((cAt 1 T n : Nat) : Int) < 0) := by omega
    have hkn := cAt_fit hok n
    have HN := Lib.hid hln
    have HMN : Hid ((marksT 1 T).length = n) := by show _ = _; rw [marksT_len, hln]
    clear hT hok htab hln
    generalize cAt 1 T n = kn at *
    go_enter Try.func8, Try.ntmps8
    go_wp2_with fail
    refine (CS.out _).mono ?_
    rintro e w1 ⟨⟨v1, l1, rfl, o1, d1⟩, b1⟩
    rw [HN.out] at o1
    obtain ⟨a1, c1, rfl, _, _, hat1⟩ := tabs_own o1 d1 HN.out
    have A1 := Lib.hid (hat1.mono (Nat.zero_le _))
    have B1 := Lib.hid b1
    clear o1 d1 hat1 b1
    go_wp2_with fail
    refine (CI.out _).mono ?_
    rintro e w2 ⟨⟨v2, l2, rfl, o2, d2⟩, b2⟩
    rw [HN.out] at o2
    obtain ⟨a2, c2, rfl, _, _, hat2⟩ := tabs_own o2 d2 HN.out
    have A2 := Lib.hid (hat2.mono (Nat.zero_le _))
    have O2 := Lib.hid o2
    have D2 := Lib.hid d2
    have C2 := Lib.hid b2
    clear o2 d2 hat2 b2
    go_wp2_with fail
    refine (CE.out _ _ _ _ _ A2.out (A1.out.below C2.out)).mono ?_
    rintro e w3 ⟨rfl, b3⟩
    have O3 := Lib.hid (ownN_below O2.out b3)
    have D3 := Lib.hid (OwnLs.below2 b3 _ _ _ D2.out)
    have C3 := Lib.hid (C2.out.trans (b3.mono C2.out.size))
    clear b3 A2 O2 D2 C2
    go_wp2_with fail
    refine (CM.out _ _ _ _ O3.out D3.out C3.out.size).mono ?_
    rintro e w4 ⟨rfl, o4, d4, b4⟩
    obtain ⟨a4, c4, he4, _, _, hat4⟩ := tabs_own o4 d4 HMN.out
    injection he4 with he4 _ _
    subst he4
    have A4 := Lib.hid (hat4.mono (Nat.zero_le _))
    have C4 := Lib.hid (C3.out.trans b4)
    clear o4 d4 hat4 b4 O3 D3 C3
    go_wp2_with fail
    refine (CH.out _ _ _ A4.out).mono ?_
    rintro e w5 ⟨rfl, b5⟩
    have A5 := Lib.hid (A4.out.below b5)
    have C5 := Lib.hid (C4.out.trans (b5.mono C4.out.size))
    clear b5 A4 C4
    go_wp2_with fail
    refine (CI.out _).mono ?_
    rintro e w6 ⟨⟨v6, l6, rfl, o6, d6⟩, b6⟩
    rw [HN.out] at o6
    obtain ⟨a6, c6, rfl, _, _, hat6⟩ := tabs_own o6 d6 HN.out
    have X6 := Lib.hid (hat6.mono (Nat.zero_le _))
    have A6 := Lib.hid (A5.out.below b6)
    have C6 := Lib.hid (C5.out.trans (b6.mono C5.out.size))
    clear o6 d6 hat6 b6 A5 C5
    go_wp2_with fail
    refine (CE.out _ _ _ _ _ X6.out (A1.out.below C6.out)).mono ?_
    rintro e w7 ⟨rfl, b7⟩
    have A7 := Lib.hid (A6.out.below b7)
    have C7 := Lib.hid (C6.out.trans (b7.mono C6.out.size))
    clear b7 A6 C6
    go_wp2_with fail
    refine (CH.out _ _ _ A7.out).mono ?_
    rintro e w8 ⟨rfl, b8⟩
    have C8 := Lib.hid (C7.out.trans (b8.mono C7.out.size))
    clear b8 A7 C7
    go_wp2
    go_ret
    exact ⟨rfl, B1.out.trans (C8.out.mono B1.out.size)⟩
end Go.Proofs.Ytdoomfckdjjlaaa
