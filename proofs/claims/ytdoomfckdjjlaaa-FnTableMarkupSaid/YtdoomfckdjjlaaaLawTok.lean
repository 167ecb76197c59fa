/- The walk of the law FnTableTokens. -/
import Derived.Test.YtdoomfckdjjlaaaAlive
import Derived.Test.YtdoomfckdjjlaaaTabDraw
import Derived.Test.YtdoomfckdjjlaaaTVal
import Derived.Test.YtdoomfckdjjlaaaDepth
import Derived.Test.YtdoomfckdjjlaaaSameTok
import Derived.Test.YtdoomfckdjjlaaaLawTokX
namespace Go.Proofs.Ytdoomfckdjjlaaa
open Go.RowKit

set_option maxHeartbeats 800000 in
theorem draw_TableTokens (w : World) (a : Option Addr) (n c : Nat) (f : Nat → UInt8) (hb : BytesAt w a n f) (hc : n ≤ c) (hc' : c ≤ 9223372036854775807) :
    Calls Try.prog 28 #[.slice a n c] w fun e w' => ∃ v vs T, e = .returned v ∧ TabSm T ∧ w'.ownsRow w.heap.size 31 1 v T.length vs ∧ OwnLs w' w.heap.size vs T ∧ Below w.heap.size w w' := by
  have HB := Lib.hid hb; clear hb
  go_enter Try.func28, Try.ntmps28
  go_wp2_with fail
  refine (open_any _ _ _ _ _ HB.out hc hc').mono ?_
  rintro e w1 ⟨rfl, hb1, hr1⟩
  have HB1 := Lib.hid hb1
  clear hb1 HB
  go_wp2_with fail
  refine (draw_table w1 _ 999900 6 hr1 (by omega) (by omega)).mono ?_
  rintro e w2 ⟨v, vs, T, rfl, hT, ho, hl, hg, _⟩
  have O2 := Lib.hid (ownN_mono ho HB1.out.size)
  have L2 := Lib.hid (OwnLs.mono vs T _ _ HB1.out.size hl)
  have B2 := Lib.hid (HB1.out.trans (below_R hg HB1.out.size (Nat.le_refl _)))
  clear ho hl hg
  go_wp2
  go_ret
  exact ⟨v, vs, T, rfl, hT, O2.out, L2.out, B2.out⟩
set_option maxRecDepth 100000 in
set_option maxHeartbeats 1600000 in
theorem walk_FnTableTokens (a : Option Addr) (n c : Nat) (z : List Int) (w : World) (hrow : IsRow .u8 w a n c z) :
    Calls Try.prog 6 #[.slice a n c] w fun e w' => e = .returned (.bool true) ∧ Below w.heap.size w w' := by
  have hcap := hrow.caps
  have hby := Lib.hid hrow.bytes
  clear hrow
  by_cases hn : 1048576 < n
  · go_enter Try.func6, Try.ntmps6
    go_wp2
    go_ret
    exact ⟨rfl, Below.refl _ _⟩
  go_enter Try.func6, Try.ntmps6
  go_wp2_with fail
  refine (draw_TableTokens _ _ _ _ _ hby.out hcap.1 hcap.2).mono ?_
  rintro e w1 ⟨v1, vs, T, rfl, hT, o1, l1, b1⟩
  obtain ⟨a1, c1, rfl, hc1, hc1', at1⟩ := tabs_own o1 l1 rfl
  have A1 := Lib.hid (at1.mono (Nat.zero_le _))
  have B1 := Lib.hid b1
  clear b1 hby hcap hn o1 l1 at1
  have hok := hT.ok
  have hT5 : T.length ≤ 5 := hT.1
  have CI := Lib.hid (fun W (h : TabsAt W 0 a1 T) => impl_TableTokens a1 T.length c1 T W h rfl (by omega) ⟨by omega, fun r hr => ⟨by have := (hok.2 r hr).1; omega, fun t ht => by have := (hok.2 r hr).2 t ht; omega⟩⟩)
  have CS := Lib.hid (fun W (h : TabsAt W 0 a1 T) => spec_TableTokens a1 T.length c1 T W h rfl (by omega) hok)
  have hX60 := tokR_len T
  have HGD : Hid (tokR T = [] ∨ (GoodToks (tokR T) ∧ stackR [] (tokR T) = some [] ∧ 1 ≤ (tokR T).length)) := by
    show _ ∨ _
    rcases hb : tabB T with _ | _
    · exact .inl (tokR_no hb)
    · refine .inr ?_
      rw [tokR_yes hb]
      refine ⟨goods_tab hb, tab_stack T, ?_⟩
      unfold tabToks
      simp
  generalize tokR T = X at *
  generalize hXl : X.length = m at *
  have HXL := Lib.hid hXl
  have CQ := Lib.hid (fun a1 a2 c1 c2 W (h1 : TokAt W a1 X) (h2 : TokAt W a2 X) => sameTokens_any a1 a2 m c1 c2 X W h1 h2 hXl (by omega))
  clear hXl hok hT
  go_wp2_with fail
  refine (CI.out _ A1.out).mono ?_
  rintro e w2 ⟨v2, rfl, o2, b2⟩
  rw [HXL.out] at o2
  obtain ⟨a2, c2, rfl, _, _, hat2, _⟩ := toks_own o2 HXL.out
  have T2 := Lib.hid hat2
  have A2 := Lib.hid (A1.out.below b2)
  have B2 := Lib.hid (B1.out.trans (b2.mono B1.out.size))
  clear o2 b2 hat2 A1 B1
  go_wp2_with fail
  refine (CS.out _ A2.out).mono ?_
  rintro e w3 ⟨v3, rfl, o3, b3⟩
  rw [HXL.out] at o3
  obtain ⟨a3, c3, rfl, _, _, hat3, _⟩ := toks_own o3 HXL.out
  have T3 := Lib.hid hat3
  have T23 := Lib.hid (T2.out.below b3)
  have B3 := Lib.hid (B2.out.trans (b3.mono B2.out.size))
  clear o3 b3 hat3 A2 B2 T2
  go_wp2_with fail
  refine (CQ.out _ _ _ _ _ T23.out T3.out).mono ?_
  rintro e w4 ⟨rfl, b4⟩
  have T4 := Lib.hid (T23.out.below b4)
  have B4 := Lib.hid (B3.out.trans (b4.mono B3.out.size))
  clear b4 T23 T3 B3
  rcases HGD.out with he | ⟨hg, hst, h1⟩
  · have hm0 : m = 0 := by rw [← HXL.out, he]; rfl
    subst hm0
    clear he
    go_wp2_with (go_at_call 12; refine (alive_any _).mono ?_; rintro e w5 ⟨rfl, b5⟩)
    go_ret
    exact ⟨rfl, B4.out.trans (b5.mono B4.out.size)⟩
  · have CV := Lib.hid (fun W (h : TokAt W a2 X) => impl_TokensValid a2 m c2 X W h HXL.out hX60 hg)
    have CB := Lib.hid (fun W (h : TokAt W a2 X) => impl_Balanced a2 m c2 X W h HXL.out hX60 hg.1 hst)
    have hm0 : ((m : Int) == 0) = false := by simp; omega
    clear hg hst HGD
    go_wp2_with fail
    refine (CV.out _ T4.out).mono ?_
    rintro e w5 ⟨rfl, b5⟩
    have T5 := Lib.hid (T4.out.below b5)
    have B5 := Lib.hid (B4.out.trans (b5.mono B4.out.size))
    clear b5 T4 B4
    go_wp2_with fail
    refine (CB.out _ T5.out).mono ?_
    rintro e w6 ⟨rfl, b6⟩
    have B6 := Lib.hid (B5.out.trans (b6.mono B5.out.size))
    clear b6
    go_wp2
    go_ret
    exact ⟨rfl, B6.out⟩
end Go.Proofs.Ytdoomfckdjjlaaa
