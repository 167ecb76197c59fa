/- The walk of the law FnEscapedCells. -/
import Derived.Test.YtdoomfckdjjlaaaDoorQText
import Derived.Test.YtdoomfckdjjlaaaDoorAlive
import Derived.Test.YtdoomfckdjjlaaaDoorMark
import Derived.Test.YtdoomfckdjjlaaaDoorTokz
import Derived.Test.YtdoomfckdjjlaaaDoorTkP
namespace Go.Proofs.YtdoomfckdjjlaaaDoor
open Go.RowKit

def DrawStrE (w : World) (m : Nat) (e : Ending) (w' : World) : Prop :=
  ∃ s : ByteArray, e = .returned (.string s) ∧ s.size ≤ m ∧ Below w.heap.size w w'
theorem draw_QuoteTextE (w : World) (a : Option Addr) (n c : Nat) (f : Nat → UInt8) (hb : BytesAt w a n f) (hc : n ≤ c) (hc' : c ≤ 9223372036854775807) :
    Calls Tryd.prog 4 #[.slice a n c] w (DrawStrE w 12) := by
  have HB := Lib.hid hb; clear hb
  go_enter Tryd.func4, Tryd.ntmps4
  go_wp2_with fail
  refine (open_any _ _ _ _ _ HB.out hc hc').mono ?_
  rintro e w1 ⟨rfl, hb1, hr1⟩
  have HB1 := Lib.hid hb1
  clear hb1 HB
  go_wp2_with fail
  refine (word_any _ _ _ _ hr1 (by omega) (by omega) (by omega)).mono ?_
  rintro e w2 ⟨x, rfl, hx, hg2, hr2⟩
  have HB2 := Lib.hid (HB1.out.trans (below_of_grown hg2 HB1.out.size (by intro q hq; injection hq with hq; omega)))
  clear hr1 hg2 hr2
  go_wp2
  go_ret
  exact ⟨x, rfl, hx, HB2.out⟩
theorem one_tab (s : ByteArray) (h : ¬ s = ⟨#[]⟩) : (tabToks [[s]]).length = 7 := by
  unfold tabToks
  simp only [List.flatMap_cons, List.flatMap_nil, List.append_nil, rowToks, cellToks, if_neg h]
  rfl
/-- Markup whose reading is known, and how many tokens it has. -/
theorem tokenize_len {T : List (List ByteArray)} (hb : tabB T = true) (ht : textB (printR (tabToks T)) = true) (w : World) :
    Calls Tryd.prog 9 #[.string (mkS (printR (tabToks T)))] w fun e w' => ∃ a c, e = .returned (.tuple #[.slice a (tabToks T).length c, .bool true]) ∧ Below w.heap.size w w' := by
  obtain ⟨z, h1, h2, h3⟩ := run_tab hb
  have hX60 := tokR_len T
  rw [tokR_yes hb] at hX60
  refine (impl_Tokenize (mkS (printR (tabToks T))) w (by rw [bl_mkS]; exact ht) z (by rw [bl_mkS]; exact h1) h2 (by rw [h3]; exact hX60)).mono ?_
  rintro e w' ⟨v, rfl, ho, hbl⟩
  rw [h3] at ho
  obtain ⟨a, c, rfl, _⟩ := ownN_formn ho
  exact ⟨a, c, rfl, hbl⟩
theorem tab_one (w : World) (s : ByteArray) : TabsAt ((w.alloc (.cells #[.string s] 9 (0, 0))).alloc (.cells #[.slice (some ⟨w.heap.size, 0, none⟩) 1 1] 27 (0, 0))) 0 (some ⟨w.heap.size + 1, 0, none⟩) [[s]] := by
  have ho := own_new w #[.string s] 9 1 rfl (by omega)
  have hb : Below (w.alloc (.cells #[.string s] 9 (0, 0))).heap.size (w.alloc (.cells #[.string s] 9 (0, 0))) ((w.alloc (.cells #[.string s] 9 (0, 0))).alloc (.cells #[.slice (some ⟨w.heap.size, 0, none⟩) 1 1] 27 (0, 0))) := (Below.refl _ _).alloc (Nat.le_refl _) _
  have e : (w.alloc (.cells #[.string s] 9 (0, 0))).heap.size = w.heap.size + 1 := by simp
  intro i hi
  have hi0 : i = 0 := by simpa using hi
  subst hi0
  refine ⟨w.heap.size + 1, 0, .slice (some ⟨w.heap.size, 0, none⟩) 1 1, rfl, by simp, ?_, ?_⟩
  · have := World.cell?_alloc_mark (w.alloc (.cells #[.string s] 9 (0, 0))) #[.slice (some ⟨w.heap.size, 0, none⟩) 1 1] 27 (0, 0) 0
    rw [e] at this
    exact this
  · exact (SlS.of_own (F := [s]) (own_below ho hb) rfl).mono (Nat.zero_le _)
set_option maxRecDepth 100000 in
set_option maxHeartbeats 3200000 in
theorem walk_FnEscapedCells (a : Option Addr) (n c : Nat) (z : List Int) (w : World) (hrow : IsRow .u8 w a n c z) (hm : MaxOk w) :
    Calls Tryd.prog 3 #[.slice a n c] w fun e w' => e = .returned (.bool true) ∧ Below w.heap.size w w' := by
  have hcap := hrow.caps
  have hby := Lib.hid hrow.bytes
  have HM := Lib.hid hm
  clear hrow hm
  by_cases hn : 1048576 < n
  · go_enter Tryd.func3, Tryd.ntmps3
    go_wp2
    go_ret
    exact ⟨rfl, Below.refl _ _⟩
  go_enter Tryd.func3, Tryd.ntmps3
  go_wp2_with fail
  refine (draw_QuoteTextE _ _ _ _ _ hby.out hcap.1 hcap.2).mono ?_
  rintro e w1 ⟨s, rfl, hs, b1⟩
  have B1 := Lib.hid b1
  have HM1 := Lib.hid (HM.out.below b1)
  clear b1 hby hcap hn HM
  have CQ := Lib.hid (fun W (h : MaxOk W) => impl_QuoteText s W (by omega) h)
  have CS := Lib.hid (fun W => spec_QuoteText s W (by omega))
  have hq : Hid (mkS (qtR (bl s)) = mkS (qtR (bl s))) := rfl
  generalize mkS (qtR (bl s)) = y at CQ CS
  clear hq
  go_wp2_with fail
  refine (CQ.out _ HM1.out).mono ?_
  rintro e w2 ⟨rfl, b2⟩
  have B2 := Lib.hid (B1.out.trans (b2.mono B1.out.size))
  clear b2 B1 HM1
  go_wp2_with fail
  refine (CS.out _).mono ?_
  rintro e w3 ⟨rfl, rfl⟩
  have CM := Lib.hid (impl_TableMarkup _ 1 1 [[s]] _ (tab_one w2 s) rfl (by omega) ⟨by simp, fun r hr => by rw [List.mem_singleton] at hr; subst hr; exact ⟨by simp, fun t ht => by rw [List.mem_singleton] at ht; subst ht; omega⟩⟩)
  have B3 : Hid (Below w.heap.size w ((w2.alloc (.cells #[.string s] 9 (0, 0))).alloc (.cells #[.slice (some ⟨w2.heap.size, 0, none⟩) 1 1] 27 (0, 0)))) := (B2.out.alloc B2.out.size _).alloc (by have := B2.out.size; simp; omega) _
  have CR : Hid ((markR [[s]]).2 = true → tabB [[s]] = true ∧ textB (printR (tabToks [[s]])) = true ∧ (markR [[s]]).1 = mkS (printR (tabToks [[s]]))) := by
    intro h
    rcases hb : tabB [[s]] with _ | _
    · rw [mark_no hb] at h; cases h
    · rw [mark_yes hb] at h ⊢
      unfold printA at h ⊢
      split
      · rename_i ht; exact ⟨rfl, ht, rfl⟩
      · rename_i ht; rw [if_neg ht] at h; cases h
  clear B2 CQ CS
  generalize markR [[s]] = M at *
  obtain ⟨MS, MB⟩ := M
  simp only at CM CR
  go_wp2_with fail
  refine CM.out.mono ?_
  rintro e w4 ⟨rfl, b4⟩
  have B4 := Lib.hid (B3.out.trans (b4.mono B3.out.size))
  clear b4 B3 CM
  cases MB
  · clear CR
    go_wp2_with (go_at_call 8; refine (alive_any _).mono ?_; rintro e w5 ⟨rfl, b5⟩)
    go_ret
    exact ⟨rfl, B4.out.trans (b5.mono B4.out.size)⟩
  · obtain ⟨hb, ht, hMS⟩ := CR.out rfl
    subst hMS
    by_cases hs0 : s = ⟨#[]⟩
    · have he := empty_yes hs0
      clear CR hb ht hs0
      go_wp2_with (go_at_call 8; refine (alive_any _).mono ?_; rintro e w5 ⟨rfl, b5⟩)
      go_ret
      exact ⟨rfl, B4.out.trans (b5.mono B4.out.size)⟩
    · have he := empty_no hs0
      have CT := Lib.hid (fun W => tokenize_len hb ht W)
      rw [one_tab s hs0] at CT
      clear CR hb ht hs0
      generalize mkS (printR (tabToks [[s]])) = MS at *
      go_wp2_with fail
      refine (CT.out _).mono ?_
      rintro e w5 ⟨a5, c5, rfl, b5⟩
      have B5 := Lib.hid (B4.out.trans (b5.mono B4.out.size))
      clear b5 B4 CT
      go_wp2
      go_ret
      exact ⟨rfl, B5.out⟩
end Go.Proofs.YtdoomfckdjjlaaaDoor
