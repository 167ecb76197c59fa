/- TableMarkup of the program and of the reference. -/
import Derived.Test.YtdoomfckdjjlaaaPrintT
import Derived.Test.YtdoomfckdjjlaaaTokP
import Derived.Test.YtdoomfckdjjlaaaTokI
import Derived.Test.YtdoomfckdjjlaaaTokS
import Derived.Test.YtdoomfckdjjlaaaLawTokX
import Derived.Laws.Cover3
namespace Go.Proofs.Ytdoomfckdjjlaaa
open Go.RowKit

/-- What TableMarkup answers. -/
def markR (T : List (List ByteArray)) : ByteArray × Bool := if tabB T = true then printA (tabToks T) else (⟨#[]⟩, false)
theorem mark_yes {T : List (List ByteArray)} (h : tabB T = true) : markR T = printA (tabToks T) := by rw [markR, if_pos h]
theorem mark_no {T : List (List ByteArray)} (h : tabB T = false) : markR T = (⟨#[]⟩, false) := by rw [markR, if_neg (by rw [h]; simp)]
theorem nil_tok (a : Option Addr) (l c : Nat) (W : World) : (binOp .eql 34 (.slice a l c) (.slice none 0 0)).run Try.prog W = .ok (.bool a.isNone) W := by
  simp only [binOp]
  simp [run_equal_slice_nil W 34 53 a l c Try.underlying34]
theorem tok_some {w : World} {a : Option Addr} {T : List Tok} (h : TokAt w a T) (hl : 0 < T.length) : ∃ x, a = some x := by
  obtain ⟨b, off, _, _, rfl, _⟩ := h 0 hl
  exact ⟨_, rfl⟩
set_option maxRecDepth 100000 in
set_option maxHeartbeats 1600000 in
theorem impl_TableMarkup (a : Option Addr) (n c : Nat) (T : List (List ByteArray)) (w : World) (h : TabsAt w 0 a T) (hn : T.length = n) (hn' : n ≤ 1048576) (hs : TabOkN 9223372036854775807 T) :
    Calls Try.prog 10 #[.slice a n c] w fun e w' => e = .returned (.tuple #[.string (markR T).1, .bool (markR T).2]) ∧ Below w.heap.size w w' := by
  have CI := Lib.hid (impl_TableTokensN a n c T w h hn hn' hs)
  clear h hn hs
  rcases hb : tabB T with _ | _
  · have HR := Lib.hid (mark_no hb)
    have HN := Lib.hid (nil_tok none 0 0)
    rw [tokR_no hb] at CI
    clear hb
    have HE := HN.out
    go_enter Try.func10, Try.ntmps10
    go_wp2_with fail
    refine CI.out.mono ?_
    rintro e w1 ⟨v, rfl, _, b1, hv⟩
    obtain rfl := hv rfl
    have B1 := Lib.hid b1
    clear b1 hv
    go_wp2
    exact bodyPost_ret (v := .tuple #[.string ⟨#[]⟩, .bool false]) (by simp [results, Try.results10, go_sem]) rfl ⟨by rw [HR.out], B1.out⟩
  · have HR := Lib.hid (mark_yes hb)
    have hX60 := tokR_len T
    have HG := Lib.hid (goods_tab hb)
    rw [tokR_yes hb] at CI hX60
    have h1 : 0 < (tabToks T).length := by unfold tabToks; simp
    clear hb
    generalize tabToks T = X at *
    obtain ⟨m, hm⟩ : ∃ m, X.length = m := ⟨_, rfl⟩
    have HM := Lib.hid hm
    rw [hm] at hX60
    clear hm
    go_enter Try.func10, Try.ntmps10
    go_wp2_with fail
    refine CI.out.mono ?_
    rintro e w1 ⟨v, rfl, o1, b1, _⟩
    rw [HM.out] at o1
    obtain ⟨a1, c1, rfl, _, _, hat, _⟩ := toks_own o1 HM.out
    obtain ⟨x, rfl⟩ := tok_some hat h1
    have B1 := Lib.hid b1
    have CP := Lib.hid (impl_PrintTokens (some x) m c1 X w1 hat HM.out hX60 HG.out)
    have HE := nil_tok (some x) m c1 w1
    clear b1 o1 hat h1
    go_wp2_with fail
    refine CP.out.mono ?_
    rintro e w2 ⟨rfl, b2⟩
    have B2 := Lib.hid (B1.out.trans (b2.mono B1.out.size))
    clear b2
    go_wp2
    exact bodyPost_ret (v := .tuple #[.string (printA X).1, .bool (printA X).2]) (by simp [results, Try.results10, go_sem]) rfl ⟨by rw [HR.out], B2.out⟩
set_option maxRecDepth 100000 in
set_option maxHeartbeats 1600000 in
theorem spec_TableMarkup (a : Option Addr) (n c : Nat) (T : List (List ByteArray)) (w : World) (h : TabsAt w 0 a T) (hn : T.length = n) (hn' : n ≤ 1048576) (hs : TabOkN 1048576 T) :
    Calls Try.prog 11 #[.slice a n c] w fun e w' => e = .returned (.tuple #[.string (markR T).1, .bool (markR T).2]) ∧ Below w.heap.size w w' := by
  have CI := Lib.hid (spec_TableTokens a n c T w h hn hn' hs)
  clear h hn hs
  rcases hb : tabB T with _ | _
  · have HR := Lib.hid (mark_no hb)
    rw [tokR_no hb] at CI
    clear hb
    go_enter Try.func11, Try.ntmps11
    go_wp2_with fail
    refine CI.out.mono ?_
    rintro e w1 ⟨v, rfl, o1, b1⟩
    obtain ⟨a1, c1, rfl, _⟩ := ownN_formn o1
    have B1 := Lib.hid b1
    clear b1 o1
    go_wp2
    exact bodyPost_ret (v := .tuple #[.string ⟨#[]⟩, .bool false]) (by simp [results, Try.results11, go_sem]) rfl ⟨by rw [HR.out], B1.out⟩
  · have HR := Lib.hid (mark_yes hb)
    have hX60 := tokR_len T
    have HG := Lib.hid (goods_tab hb)
    rw [tokR_yes hb] at CI hX60
    have h1 : 0 < (tabToks T).length := by unfold tabToks; simp
    clear hb
    generalize tabToks T = X at *
    obtain ⟨m, hm⟩ : ∃ m, X.length = m := ⟨_, rfl⟩
    have HM := Lib.hid hm
    rw [hm] at hX60 h1
    have hm0 : ((m : Int) == 0) = false := by simp; omega
    clear hm h1
    go_enter Try.func11, Try.ntmps11
    go_wp2_with fail
    refine CI.out.mono ?_
    rintro e w1 ⟨v, rfl, o1, b1⟩
    rw [HM.out] at o1
    obtain ⟨a1, c1, rfl, _, _, hat, _⟩ := toks_own o1 HM.out
    have B1 := Lib.hid b1
    have CP := Lib.hid (spec_PrintTokens a1 m c1 X w1 hat HM.out hX60 HG.out)
    clear b1 o1 hat
    go_wp2_with fail
    refine CP.out.mono ?_
    rintro e w2 ⟨rfl, b2⟩
    have B2 := Lib.hid (B1.out.trans (b2.mono B1.out.size))
    clear b2
    go_wp2
    exact bodyPost_ret (v := .tuple #[.string (printA X).1, .bool (printA X).2]) (by simp [results, Try.results11, go_sem]) rfl ⟨by rw [HR.out], B2.out⟩
end Go.Proofs.Ytdoomfckdjjlaaa
