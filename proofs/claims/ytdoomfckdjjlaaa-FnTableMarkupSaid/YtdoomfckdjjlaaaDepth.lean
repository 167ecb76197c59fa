/- impl.depthOf and impl.Balanced on tokens that are balanced. -/
import Derived.Test.YtdoomfckdjjlaaaTokP
import Derived.BigQuiet
import Derived.WalkSmall
namespace Go.Proofs.Ytdoomfckdjjlaaa
open Go.RowKit

set_option maxHeartbeats 800000 in
theorem endless_no {N : ByteArray} (h : N = tableS ∨ N = trS ∨ N = tdS) (w : World) : Calls Try.prog 78 #[.string N] w fun e w' => e = .returned (.bool false) ∧ w = w' := by
  have h1 : (N.toList == [98, 114]) = false := by rcases h with rfl | rfl | rfl <;> (rw [ByteArray.toList_eq]; rfl)
  have h2 : (N.toList == [105, 109, 103]) = false := by rcases h with rfl | rfl | rfl <;> (rw [ByteArray.toList_eq]; rfl)
  have h3 : (N.toList == [104, 114]) = false := by rcases h with rfl | rfl | rfl <;> (rw [ByteArray.toList_eq]; rfl)
  clear h
  go_enter Try.func78, Try.ntmps78
  go_wp2
  go_ret
  exact ⟨rfl, rfl⟩
set_option maxRecDepth 100000 in
set_option maxHeartbeats 1600000 in
theorem impl_depthOf (a : Option Addr) (n c : Nat) (T : List Tok) (w : World) (h : TokAt w a T) (hn : T.length = n) (hn' : n ≤ 60) (hg : ∀ t ∈ T, GoodTok t) (hz : stackR [] T = some []) :
    Calls Try.prog 56 #[.slice a n c] w fun e w' => ∃ x : Int, e = .returned (.tuple #[.int .i64 x, .bool true]) ∧ Below w.heap.size w w' := by
  have H := Lib.hid h; have HN := Lib.hid hn; have HG := Lib.hid hg; have HZ := Lib.hid hz
  clear h hn hg hz
  have O0 := Lib.hid (own_new w #[] 9 0 rfl (by omega))
  have B0 : Hid (Below w.heap.size w (w.alloc (.cells #[] 9 (0, 0)))) := (Below.refl _ _).alloc (Nat.le_refl _) _
  go_enter Try.func56, Try.ntmps56
  go_wp2
  go_loopw [4, 5, 11] (fun o q t wr => ∃ (k : Nat) (st : List ByteArray) (x : Int), k ≤ n ∧ t = .int .i64 (k : Int) ∧ q = .int .i64 x ∧ Hid (stackR [] (T.take k) = some st) ∧ st.length ≤ k ∧ Hid (wr.ownsRow w.heap.size 9 1 o st.length (st.map strV)) ∧ Below w.heap.size w wr) (fun _ _ t _ => n - (intOf t).toNat)
  case atStart => exact ⟨0, [], 0, Nat.zero_le _, rfl, rfl, rfl, Nat.le_refl _, O0.out, B0.out⟩
  case round =>
    obtain ⟨k, st, x, hk, rfl, rfl, HS, hsl, OW, hb⟩ := hrel
    have BW := Lib.hid hb
    have hws := hb.size
    clear hb O0 B0
    by_cases hkn : k < n
    · have hkT : k < T.length := by rw [HN.out]; exact hkn
      obtain ⟨b, off, pa, pc, rfl, hbl, x0, x1, x2, x3⟩ := (H.out.below BW.out) k hkT
      obtain ⟨st', hst, hs'⟩ := stack_next HZ.out hkT HS.out
      have HS' := Lib.hid hs'
      have hgt := HG.out _ (List.getElem_mem hkT)
      generalize T[k] = t at *
      obtain ⟨tK, tN, tV⟩ := t
      clear hs' HS
      have hcase : (tK = 1 ∧ st' = st) ∨ (tK = 2 ∧ st' = st ++ [tN] ∧ (tN = tableS ∨ tN = trS ∨ tN = tdS)) ∨ (tK = 3 ∧ st = st' ++ [tN]) := by
        rcases hgt with ⟨h1, _⟩ | ⟨h1 | h1, h2, _⟩
        · exact .inl ⟨h1, step_text hst h1⟩
        · exact .inr (.inl ⟨h1, step_open hst h1, h2⟩)
        · exact .inr (.inr ⟨h1, step_end hst h1⟩)
      clear hst hgt
      have k0 : (0 : Int) ≤ (k : Int) := by omega
      have k1 : (k : Int) < (n : Int) := by omega
      simp only at x0 x1 x2
      rcases hcase with ⟨rfl, rfl⟩ | ⟨rfl, rfl, hN⟩ | ⟨rfl, rfl⟩
      · obtain ⟨oa, oc, rfl, _⟩ := ownN_formn OW.out
        have OW2 := Lib.hid (ownN_below OW.out ((Below.refl wr.heap.size wr).alloc (Nat.le_refl _) (.cells #[.int .i64 1, .string tN, .string tV, .slice pa 0 pc] 53 (0, 0))))
        have BW2 := Lib.hid (BW.out.alloc hws (.cells #[.int .i64 1, .string tN, .string tV, .slice pa 0 pc] 53 (0, 0)))
        go_wp2
        go_roundw
        case rel => exact ⟨k + 1, _, _, by omega, by go_num, rfl, HS', by omega, OW2, BW2.out⟩
        case measure => simp [intOf]; omega
      · have CE := Lib.hid (fun W => endless_no hN W)
        clear hN
        have OW2 := Lib.hid (ownN_below OW.out ((Below.refl wr.heap.size wr).alloc (Nat.le_refl _) (.cells #[.int .i64 2, .string tN, .string tV, .slice pa 0 pc] 53 (0, 0))))
        have BW2 := Lib.hid (BW.out.alloc hws (.cells #[.int .i64 2, .string tN, .string tV, .slice pa 0 pc] 53 (0, 0)))
        have hbs := BW2.out.size
        have HOL := Lib.hid (ownN_ge OW.out)
        go_wp2_with (first
          | (go_at_call 78; refine (CE.out _).mono ?_; rintro e w1 ⟨rfl, rfl⟩)
          | (at_builtin; refine wpList_pushS2 (.tmp 24) (.tmp 27) w.heap.size tN _ st.length st OW2.out hbs (by omega) rfl (by rfl) (by rfl) (wr.heap.size + 1) (by simp) (by rfl) ?_; intro v5 w5 o5 g5 b5; have O5 := Lib.hid o5; have B5 := Lib.hid (BW2.out.trans b5); have z0 : w5.cell? ⟨wr.heap.size, 0, none⟩ = some (.int .i64 2) := (World.cell?_of_block (a := ⟨wr.heap.size, 0, none⟩) (g5.block wr.heap.size (by simp) (fun e => by have := (HOL.out _ e.symm).2; omega))).trans (World.cell?_alloc_mark _ _ _ _ _); clear o5 b5 g5; obtain ⟨va, vc, rfl, _⟩ := ownN_formn O5.out))
        all_goals (
          go_roundw
          case rel => exact ⟨k + 1, _, _, by omega, by go_num, rfl, HS', by simp; omega, by rw [List.length_append]; exact O5, B5.out⟩
          case measure => simp [intOf]; omega)
      · rw [List.length_append] at OW hsl
        simp only [List.length_cons, List.length_nil, Nat.zero_add] at OW hsl
        obtain ⟨m, hm⟩ : ∃ m, st'.length = m := ⟨_, rfl⟩
        have HM := Lib.hid hm
        rw [hm] at OW hsl
        obtain ⟨g, oc, rfl, hgw, hgl, hoc, hoc', hcell⟩ := own_at OW.out (by omega)
        have y0 : wr.cell? ⟨g, m, none⟩ = some (.string tN) := hcell m _ (by rw [List.map_append, List.getElem?_append_right (by simp [hm]), List.length_map, hm, Nat.sub_self]; rfl)
        have OW1 := OW.out
        rw [List.map_append] at OW1
        have OP := Lib.hid (ownsRow_pop (by rw [List.length_map, HM.out, Nat.mul_one]) OW1)
        have OW2 := Lib.hid (ownN_below OP.out ((Below.refl wr.heap.size wr).alloc (Nat.le_refl _) (.cells #[.int .i64 3, .string tN, .string tV, .slice pa 0 pc] 53 (0, 0))))
        have BW2 := Lib.hid (BW.out.alloc hws (.cells #[.int .i64 3, .string tN, .string tV, .slice pa 0 pc] 53 (0, 0)))
        have m0 : (((m + 1 : Nat) : Int) == 0) = false := by simp <;> omega
        have m1 : (0 : Int) ≤ (m : Int) := by omega
        have m2 : (m : Int) < ((m + 1 : Nat) : Int) := by omega
        have m3 : IntKind.i64.wrap (m : Int) = (m : Int) := IntWalk.i64_in _ (by omega)
        have m4 : (m : Int) < (m : Int) + 1 := by omega
        clear hcell OW1 OP OW hm
        go_wp2
        go_quiet (fail)
        go_wp2
        go_roundw
        case rel => exact ⟨k + 1, st', x, by omega, by go_num, rfl, HS', by have := HM.out; omega, by rw [HM.out]; exact OW2, below_drewN BW2.out _⟩
        case measure => simp [intOf]; omega
    · obtain rfl : k = n := by omega
      have hTk : T.take k = T := List.take_of_length_le (by rw [HN.out]; exact Nat.le_refl _)
      have hst : st = [] := by
        have := HS.out
        rw [hTk, HZ.out] at this
        injection this with this
        exact this.symm
      subst hst
      obtain ⟨oa, oc, rfl, _⟩ := ownN_formn OW.out
      go_wp2
      exact bodyPost_ret (v := .tuple #[.int .i64 x, .bool true]) (by simp [results, Try.results56, go_sem]) rfl ⟨x, rfl, BW.out⟩
set_option maxHeartbeats 800000 in
theorem impl_Balanced (a : Option Addr) (n c : Nat) (T : List Tok) (w : World) (h : TokAt w a T) (hn : T.length = n) (hn' : n ≤ 60) (hg : ∀ t ∈ T, GoodTok t) (hz : stackR [] T = some []) :
    Calls Try.prog 30 #[.slice a n c] w fun e w' => e = .returned (.bool true) ∧ Below w.heap.size w w' := by
  have CD := Lib.hid (impl_depthOf a n c T w h hn hn' hg hz)
  clear h hn hg hz
  go_enter Try.func30, Try.ntmps30
  go_wp2_with fail
  refine CD.out.mono ?_
  rintro e w1 ⟨x, rfl, hb⟩
  go_wp2
  go_ret
  exact ⟨rfl, hb⟩
end Go.Proofs.Ytdoomfckdjjlaaa
