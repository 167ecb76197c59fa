/- The walk of the law FnTableMarkup. -/
import Derived.Test.YtdoomfckdjjlaaaLawTok
import Derived.Test.YtdoomfckdjjlaaaTRI
import Derived.Test.YtdoomfckdjjlaaaTokz
import Derived.Test.YtdoomfckdjjlaaaTkP
namespace Go.Proofs.Ytdoomfckdjjlaaa
open Go.RowKit

set_option maxHeartbeats 800000 in
theorem draw_TableMarkup (w : World) (a : Option Addr) (n c : Nat) (f : Nat → UInt8) (hb : BytesAt w a n f) (hc : n ≤ c) (hc' : c ≤ 9223372036854775807) :
    Calls Try.prog 9 #[.slice a n c] w fun e w' => ∃ v vs T, e = .returned v ∧ TabSm T ∧ w'.ownsRow w.heap.size 31 1 v T.length vs ∧ OwnLs w' w.heap.size vs T ∧ Below w.heap.size w w' := by
  have HB := Lib.hid hb; clear hb
  go_enter Try.func9, Try.ntmps9
  go_wp2_with fail
  refine (open_any _ _ _ _ _ HB.out hc hc').mono ?_
  rintro e w1 ⟨rfl, hb1, hr1⟩
  have HB1 := Lib.hid hb1
  clear hb1 HB
  go_wp2_with fail
  refine (draw_table w1 _ 999900 6 hr1 (by omega) (by omega)).mono ?_
  rintro e w2 ⟨v, vs, T, rfl, hT, ho, hl, hg, _⟩
  have O2 := Lib.hid (ownN_mono ho HB1.out.size)
  have L2 := Lib.hid (OwnLs.mono vs T _ _ HB1.out.size hl)
  have B2 := Lib.hid (HB1.out.trans (below_R hg HB1.out.size (Nat.le_refl _)))
  clear ho hl hg
  go_wp2
  go_ret
  exact ⟨v, vs, T, rfl, hT, O2.out, L2.out, B2.out⟩
/-- A table's markup is read as its tokens. -/
theorem tokenize_tab {T : List (List ByteArray)} (hb : tabB T = true) (ht : textB (printR (tabToks T)) = true) (w : World) :
    Calls Try.prog 17 #[.string (mkS (printR (tabToks T)))] w (TkPost w (fun L => L = (tabToks T).map plainP)) := by
  obtain ⟨z, h1, h2, h3⟩ := run_tab hb
  have hX60 := tokR_len T
  rw [tokR_yes hb] at hX60
  refine (impl_Tokenize (mkS (printR (tabToks T))) w (by rw [bl_mkS]; exact ht) z (by rw [bl_mkS]; exact h1) h2 (by rw [h3]; exact hX60)).mono ?_
  rintro e w' ⟨v, rfl, ho, hbl⟩
  rw [h3] at ho
  refine ⟨v, (tabToks T).map plainP, rfl, rfl, by rw [List.length_map]; exact hX60, fun t ht2 => ?_, by rw [List.length_map, tokPC_plain]; exact ho, hbl⟩
  obtain ⟨x, hx, rfl⟩ := List.mem_map.1 ht2
  have := (tokF_of (good_tab hb x hx)).2.2
  show x.V.size ≤ _
  omega
/-- TableRows of a table's markup are its rows. -/
theorem rows_tab {T : List (List ByteArray)} (hb : tabB T = true) (ht : textB (printR (tabToks T)) = true) (w : World) :
    Calls Try.prog 13 #[.string (mkS (printR (tabToks T)))] w fun e w' => ∃ v vs, e = .returned (.tuple #[v, .bool true]) ∧ w'.ownsRow w.heap.size 31 1 v T.length vs ∧ OwnLs w' w.heap.size vs T ∧ Below w.heap.size w w' := by
  refine (impl_TableRows _ w _ (tokenize_tab hb ht w)).mono ?_
  rintro e w' ⟨L, rfl, hbl, h⟩
  rw [core_plain, rowsOf_tab] at h
  rcases h with ⟨_, v, vs, rfl, ho, hd⟩ | ⟨hno, _⟩
  · exact ⟨v, vs, rfl, ho, hd, hbl⟩
  · exact absurd (resOk_tab hb) hno
set_option maxRecDepth 100000 in
set_option maxHeartbeats 3200000 in
theorem walk_FnTableMarkup (a : Option Addr) (n c : Nat) (z : List Int) (w : World) (hrow : IsRow .u8 w a n c z) :
    Calls Try.prog 3 #[.slice a n c] w fun e w' => e = .returned (.bool true) ∧ Below w.heap.size w w' := by
  have hcap := hrow.caps
  have hby := Lib.hid hrow.bytes
  clear hrow
  by_cases hn : 1048576 < n
  · go_enter Try.func3, Try.ntmps3
    go_wp2
    go_ret
    exact ⟨rfl, Below.refl _ _⟩
  go_enter Try.func3, Try.ntmps3
  go_wp2_with fail
  refine (draw_TableMarkup _ _ _ _ _ hby.out hcap.1 hcap.2).mono ?_
  rintro e w1 ⟨v1, vs, T, rfl, hT, o1, l1, b1⟩
  obtain ⟨tl, htl⟩ : ∃ tl, T.length = tl := ⟨_, rfl⟩
  rw [htl] at o1
  obtain ⟨a1, c1, rfl, hc1, hc1', at1⟩ := tabs_own o1 l1 htl
  have A1 := Lib.hid (at1.mono (Nat.zero_le _))
  have B1 := Lib.hid b1
  clear b1 hby hcap hn o1 l1 at1
  have hok := hT.ok
  have hT5 : tl ≤ 5 := by rw [← htl]; exact hT.1
  have hTT := Lib.hid hT.2
  have CI := Lib.hid (fun W (h : TabsAt W 0 a1 T) => impl_TableMarkup a1 tl c1 T W h htl (by omega) ⟨by have := hok.1; omega, fun r hr => ⟨by have := (hok.2 r hr).1; omega, fun t ht => by have := (hok.2 r hr).2 t ht; omega⟩⟩)
  have CS := Lib.hid (fun W (h : TabsAt W 0 a1 T) => spec_TableMarkup a1 tl c1 T W h htl (by omega) hok)
  have CR : Hid ((markR T).2 = true → tabB T = true ∧ textB (printR (tabToks T)) = true ∧ (markR T).1 = mkS (printR (tabToks T))) := by
    intro h
    rcases hb : tabB T with _ | _
    · rw [mark_no hb] at h; cases h
    · rw [mark_yes hb] at h ⊢
      unfold printA at h ⊢
      split
      · rename_i ht; exact ⟨rfl, ht, rfl⟩
      · rename_i ht; rw [if_neg ht] at h; cases h
  have CN : Hid ((markR T).2 = false → (markR T).1 = ⟨#[]⟩) := by
    intro h
    rcases hb : tabB T with _ | _
    · rw [mark_no hb]
    · rw [mark_yes hb] at h ⊢
      unfold printA at h ⊢
      split
      · rename_i ht; rw [if_pos ht] at h; cases h
      · rfl
  have HTL := Lib.hid htl
  generalize markR T = M at *
  obtain ⟨MS, MB⟩ := M
  simp only at CI CS CR CN
  clear hok hT htl
  go_wp2_with fail
  refine (CI.out _ A1.out).mono ?_
  rintro e w2 ⟨rfl, b2⟩
  have A2 := Lib.hid (A1.out.below b2)
  have B2 := Lib.hid (B1.out.trans (b2.mono B1.out.size))
  clear b2 A1 B1
  go_wp2_with fail
  refine (CS.out _ A2.out).mono ?_
  rintro e w3 ⟨rfl, b3⟩
  have A3 := Lib.hid (A2.out.below b3)
  have B3 := Lib.hid (B2.out.trans (b3.mono B2.out.size))
  clear b3 A2 B2
  cases MB
  · have hMS := CN.out rfl
    subst hMS
    clear CR CN
    go_wp2_with (go_at_call 12; refine (alive_any _).mono ?_; rintro e w5 ⟨rfl, b5⟩)
    go_ret
    exact ⟨rfl, B3.out.trans (b5.mono B3.out.size)⟩
  · obtain ⟨hb, ht, hMS⟩ := CR.out rfl
    subst hMS
    have CW := Lib.hid (fun W => rows_tab hb ht W)
    clear CR CN hb ht
    generalize mkS (printR (tabToks T)) = MS at *
    go_wp2_with fail
    refine (CW.out _).mono ?_
    rintro e w4 ⟨v4, vs4, rfl, o4, d4, b4⟩
    rw [HTL.out] at o4
    obtain ⟨a4, c4, rfl, hc4, hc4', at4⟩ := tabs_own o4 d4 HTL.out
    have A4 := Lib.hid (A3.out.below b4)
    have X4 := Lib.hid (at4.mono (Nat.zero_le _))
    have B4 := Lib.hid (B3.out.trans (b4.mono B3.out.size))
    clear o4 d4 b4 at4 A3 B3 CW CI CS
    go_wp2
    go_loopw [10] (fun t wr => ∃ k : Nat, k ≤ tl ∧ t = .int .i64 (k : Int) ∧ Hid (Below w4.heap.size w4 wr)) (fun t _ => tl - (intOf t).toNat)
    case atStart => exact ⟨0, Nat.zero_le _, rfl, Below.refl _ _⟩
    case round =>
      obtain ⟨k, hk, rfl, BW⟩ := hrel
      by_cases hlt : k < tl
      · have hks : k < T.length := by rw [HTL.out]; exact hlt
        obtain ⟨b1, o1, v1, rfl, hl1, x0, x1⟩ := (X4.out.below BW.out) k hks
        obtain ⟨b2, o2, v2, rfl, hl2, y0, y1⟩ := (A4.out.below BW.out) k hks
        obtain ⟨f1, d1, rfl, r1, q1, q1', _⟩ := x1
        obtain ⟨f2, d2, rfl, r2, q2, q2', _⟩ := y1
        have hrs := hTT.out _ (List.getElem_mem hks)
        have k0 : (0 : Int) ≤ (k : Int) := by omega
        have k1 : (k : Int) < (tl : Int) := by omega
        have k2 : decide ((tl : Int) ≤ (k : Int)) = false := decide_eq_false (by omega)
        have k3 : ¬ (tl : Int) ≤ (k : Int) := by omega
        have k4 : ¬ tl ≤ k := by omega
        have CE : Hid (∀ W, Below wr.heap.size wr W → Calls Try.prog 14 #[.slice f1 T[k].length d1, .slice f2 T[k].length d2] W fun e w' => e = .returned (.bool true) ∧ Below W.heap.size W w') := fun W h => by
          have := sameTexts_any f1 f2 T[k].length T[k].length d1 d2 T[k] T[k] W (r1.below (Nat.le_refl _) h) (r2.below (Nat.le_refl _) h) rfl rfl (by have := hrs.1; omega)
          rwa [decide_eq_true rfl] at this
        have hfl := hrs.1
        clear r1 r2 hrs
        generalize T[k].length = fl at *
        go_wp2
        go_region_held3 (fun w' => w'.cell? ⟨b1, o1 + k, none⟩ = some (.slice f1 fl d1) ∧ w'.cell? ⟨b2, o2 + k, none⟩ = some (.slice f2 fl d2)) (go_keep) (first | (go_at_call 14; refine (CE.out _ (by first | exact (Below.refl _ _).drew | exact Below.refl _ _)).mono ?_; rintro e w1 ⟨rfl, hb1⟩; obtain ⟨hcc, _⟩ := bcell hb1; have z0 := (hcc _ (o1 + k) hl1).trans x0; have z1 := (hcc _ (o2 + k) hl2).trans y0; clear hcc))
        have HB1 := Lib.hid (BW.out.drew.trans (hb1.mono BW.out.size))
        clear hb1
        go_wp2
        go_roundw
        case rel => exact ⟨k + 1, by omega, by go_num, HB1.out⟩
        case measure => simp [intOf]; omega
      · have e : tl = k := by omega
        subst e
        have BE := Lib.hid (B4.out.trans (BW.out.mono B4.out.size))
        go_wp2
        go_ret
        exact ⟨rfl, BE.out⟩
end Go.Proofs.Ytdoomfckdjjlaaa
