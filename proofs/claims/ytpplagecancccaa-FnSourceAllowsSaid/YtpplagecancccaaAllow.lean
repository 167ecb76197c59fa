/- Whether the words of a source allow a host, plainly; the reference's loop (printed by gen_allow.py). -/
import Derived.Test.YtpplagecancccaaSrcS
namespace Go.Proofs.Ytpplagecancccaa
open Go.RowKit

/-- Whether a word allows a host. -/
def allowW (t home host : List UInt8) : Bool :=
  if t = noneL then false else if t = selfL then decide (host = home) else if t.take 2 = starL then decide ((t.drop 2).length + 1 < host.length) && Lib.hasSuffix host (46 :: t.drop 2) else decide (t = host)
def fromB (F : List ByteArray) (home host : ByteArray) : Bool := F.any fun t => allowW (bl t) (bl home) (bl host)
theorem fromB_snoc {F : List ByteArray} {j : Nat} (h : j < F.length) (home host : ByteArray) : fromB (F.take (j + 1)) home host = (fromB (F.take j) home host || allowW (bl F[j]) (bl home) (bl host)) := by
  rw [fromB, fromB, List.take_succ_eq_append_getElem h, List.any_append]; simp
theorem fromB_at {F : List ByteArray} {j : Nat} (h : j < F.length) {home host : ByteArray} (ha : allowW (bl F[j]) (bl home) (bl host) = true) : fromB F home host = true := by
  rw [fromB, List.any_eq_true]
  exact ⟨F[j], List.getElem_mem _, ha⟩
/-- What the reference's loop asks of a word. -/
def specW (t home host : List UInt8) : Bool :=
  (decide (t = selfL) && decide (host = home)) || (decide (t = host) && !decide (t = selfL) && !decide (t = noneL)) || (decide (2 < t.length ∧ t.take 2 = starL ∧ t.length < host.length + 1) && decide (host.drop (host.length - t.length + 1) = t.drop 1))
theorem suffix_eq {h p : List UInt8} (hl : p.length ≤ h.length) : Lib.hasSuffix h p = decide (h.drop (h.length - p.length) = p) := by
  rw [Lib.hasSuffix]
  by_cases e : h.drop (h.length - p.length) = p
  · rw [decide_eq_true e, List.isSuffixOf_iff_suffix]
    refine ⟨h.take (h.length - p.length), ?_⟩
    have h1 := List.take_append_drop (h.length - p.length) h
    rw [e] at h1
    exact h1
  · rw [decide_eq_false e]
    rcases hb : p.isSuffixOf h with _ | _
    · rfl
    · rw [List.isSuffixOf_iff_suffix] at hb
      obtain ⟨r, rfl⟩ := hb
      refine absurd ?_ e
      rw [List.length_append, show r.length + p.length - p.length = r.length by omega, List.drop_left]
theorem specW_eq {t home host : List UInt8} (hh : hostB host = true) (hw : wordB t = true ∨ t = noneL) : specW t home host = allowW t home host := by
  unfold specW allowW
  by_cases h1 : t = noneL
  · rw [if_pos h1, decide_eq_true h1]
    have h2 : ¬ t = selfL := by rw [h1]; decide
    have h3 : ¬ t.take 2 = starL := by rw [h1]; decide
    rw [decide_eq_false h2, decide_eq_false (p := 2 < t.length ∧ t.take 2 = starL ∧ t.length < host.length + 1) (fun e => h3 e.2.1)]
    simp
  rw [if_neg h1, decide_eq_false h1]
  by_cases h2 : t = selfL
  · rw [if_pos h2, decide_eq_true h2]
    have h3 : ¬ t.take 2 = starL := by rw [h2]; decide
    rw [decide_eq_false (p := 2 < t.length ∧ t.take 2 = starL ∧ t.length < host.length + 1) (fun e => h3 e.2.1)]
    simp
  rw [if_neg h2, decide_eq_false h2]
  by_cases h3 : t.take 2 = starL
  · rw [if_pos h3]
    have hne : ¬ t = host := fun e => by
      rw [← e, hostB_star h3] at hh; cases hh
    have hl : 2 < t.length := by
      rcases hw with hw | hw
      · unfold wordB at hw
        by_cases h4 : 2 < t.length
        · exact h4
        · rw [if_neg (fun e => h4 e.1), hostB_star h3] at hw; cases hw
      · exact absurd hw h1
    rw [decide_eq_false hne]
    have hd : t.drop 1 = 46 :: t.drop 2 := by
      rcases t with _ | ⟨x, _ | ⟨y, r⟩⟩
      · simp at hl
      · simp at hl
      · simp [starL] at h3; simp [h3.2]
    have hdl : (t.drop 2).length = t.length - 2 := by rw [List.length_drop]
    by_cases h5 : t.length < host.length + 1
    · rw [decide_eq_true (p := 2 < t.length ∧ t.take 2 = starL ∧ t.length < host.length + 1) ⟨hl, h3, h5⟩]
      have h6 : decide ((t.drop 2).length + 1 < host.length) = true := decide_eq_true (by rw [hdl]; omega)
      rw [h6, ← hd, suffix_eq (by rw [List.length_drop]; omega), List.length_drop, show host.length - (t.length - 1) = host.length - t.length + 1 by omega]
      simp
    · rw [decide_eq_false (p := 2 < t.length ∧ t.take 2 = starL ∧ t.length < host.length + 1) (fun e => h5 e.2.2), decide_eq_false (p := (t.drop 2).length + 1 < host.length) (by rw [hdl]; omega)]
      simp
  · rw [if_neg h3, decide_eq_false (p := 2 < t.length ∧ t.take 2 = starL ∧ t.length < host.length + 1) (fun e => h3 e.2.1)]
    simp
theorem from_at (s : ByteArray) (n : Nat) (i : Int) (hi : i = (n : Int)) (hn : n ≤ s.size) : ∃ t : ByteArray, bl t = (bl s).drop n ∧ ∀ W, (Instr.slice 9 (.string s) (some (.int .i64 i)) none none).run Try.prog W = .ok (.string t) W := by
  subst hi
  refine ⟨s.extract n s.size, ?_, fun W => ?_⟩
  · rw [bl_ext, bl_all]
  · have := run_slice_string_l (P := Try.prog) W 9 s Try.underlying9 .i64 (n : Int) (by omega) (by omega)
    simpa using this
theorem upto_at (s : ByteArray) (hn : 2 ≤ s.size) : ∃ t : ByteArray, bl t = (bl s).take 2 ∧ ∀ W, (Instr.slice 9 (.string s) none (some (.int .i64 2)) none).run Try.prog W = .ok (.string t) W := by
  refine ⟨s.extract 0 2, ?_, fun W => ?_⟩
  · rw [bl_ext]; simp
  · have := run_slice_string_h (P := Try.prog) W 9 s Try.underlying9 .i64 2 (by omega) (by omega)
    simpa using this

set_option maxRecDepth 100000 in
set_option maxHeartbeats 6400000 in
theorem spec_l38From (a : Option Addr) (n c : Nat) (F : List ByteArray) (home host : ByteArray) (w : World) (h : RowAt w a (F.map strV)) (hn : F.length = n) (hn' : n ≤ 1048576) (hs : ∀ t ∈ F, t.size ≤ 1048576) (hh : hostB (bl host) = true) (hw : ∀ t ∈ F, wordB (bl t) = true ∨ bl t = noneL) (hhs : host.size ≤ 1048576) :
    Calls Try.prog 36 #[.slice a n c, .string home, .string host] w fun e w' => e = .returned (.bool (fromB F home host)) ∧ Below w.heap.size w w' := by
  have H := Lib.hid h; have HN := Lib.hid hn; have HS := Lib.hid hs; have HW := Lib.hid hw; have HH := Lib.hid hh
  clear h hn hs hw hh
  have x3 := tl_yn host home
  have hhm : decide (host = home) = decide (bl host = bl home) := by
    by_cases e : host = home
    · rw [decide_eq_true e, decide_eq_true (by rw [e])]
    · rw [decide_eq_false e, decide_eq_false (fun e2 => e (bl_inj e2))]
  rw [hhm] at x3
  clear hhm
  generalize hx3 : decide (bl host = bl home) = b3 at *
  have HX3 := Lib.hid hx3
  clear hx3
  go_enter Try.func36, Try.ntmps36
  go_wp2
  go_loopw [7] (fun t wr => ∃ j : Nat, j ≤ n ∧ t = .int .i64 (j : Int) ∧ Hid (fromB (F.take j) home host = false) ∧ Below w.heap.size w wr) (fun t _ => n - (intOf t).toNat)
  case atStart => exact ⟨0, Nat.zero_le _, rfl, rfl, Below.refl _ _⟩
  case round =>
    obtain ⟨j, hj, rfl, HF, hb⟩ := hrel
    by_cases hjn : j < n
    · have hjF : j < F.length := by rw [HN.out]; exact hjn
      obtain ⟨fb, foff, rfl, hfl, z1⟩ := row_str (H.out.below (Nat.le_refl _) hb) j hjF
      rw [getD_at hjF] at z1
      have HT : Hid (allowW (bl F[j]) (bl home) (bl host) = true → fromB F home host = true) := fun e => fromB_at hjF e
      have hfs := fromB_snoc hjF home host
      rw [HF.out, Bool.false_or, ← specW_eq HH.out (HW.out _ (List.getElem_mem _))] at hfs
      rw [← specW_eq HH.out (HW.out _ (List.getElem_mem _))] at HT
      have hts : F[j].size ≤ 1048576 := HS.out _ (List.getElem_mem _)
      generalize F[j] = t at *
      have x1 : (t.toList == [110, 111, 110, 101]) = decide (bl t = noneL) := tl_lit t _
      have x2 : (t.toList == [115, 101, 108, 102]) = decide (bl t = selfL) := tl_lit t _
      have x7 := tl_yn t host
      have htm : decide (t = host) = decide (bl t = bl host) := by
        by_cases e : t = host
        · rw [decide_eq_true e, decide_eq_true (by rw [e])]
        · rw [decide_eq_false e, decide_eq_false (fun e2 => e (bl_inj e2))]
      rw [htm] at x7
      unfold specW at hfs HT
      rw [HX3.out] at hfs HT
      generalize decide (bl t = noneL) = b1 at *
      generalize decide (bl t = selfL) = b2 at *
      generalize decide (bl t = bl host) = b7 at *
      clear htm
      have HB := Lib.hid hb
      clear hb HF
      have HFS := Lib.hid hfs
      clear hfs
      cases b2
      case true =>
        cases b3
        case true =>
          have HR := Lib.hid (HT.out (by simp))
          go_wp2
          go_ret
          exact ⟨ret_bool HR.out.symm, HB.out⟩
        cases b7
        case true =>
          by_cases l2 : 2 < t.size
          case neg =>
            have d2 : decide ((2 : Int) < (t.size : Int)) = false := by simp; omega
            have HN2 : Hid (fromB (F.take (j + 1)) home host = false) := by show _ = _; rw [HFS.out, decide_eq_false (p := 2 < (bl t).length ∧ (bl t).take 2 = starL ∧ (bl t).length < (bl host).length + 1) (by rw [bl_len]; exact fun e => l2 e.1)]; simp
            go_wp2
            go_quiet (fail)
            go_wp2
            go_roundw
            case rel => exact ⟨j + 1, by omega, by go_num, HN2.out, below_drewN HB.out _⟩
            case measure => simp [intOf]; omega
          have d2 : decide ((2 : Int) < (t.size : Int)) = true := by simp; omega
          obtain ⟨tp, htp, stp⟩ := upto_at t (by omega)
          by_cases lp : (bl t).take 2 = starL
          case neg =>
            have p2 : (tp.toList == [42, 46]) = false := by rw [tl_lit, htp]; exact decide_eq_false lp
            have HN2 : Hid (fromB (F.take (j + 1)) home host = false) := by show _ = _; rw [HFS.out, decide_eq_false (p := 2 < (bl t).length ∧ (bl t).take 2 = starL ∧ (bl t).length < (bl host).length + 1) (fun e => lp e.2.1)]; simp
            clear lp
            go_wp2
            go_quiet (fail)
            go_wp2
            go_roundw
            case rel => exact ⟨j + 1, by omega, by go_num, HN2.out, below_drewN HB.out _⟩
            case measure => simp [intOf]; omega
          have p2 : (tp.toList == [42, 46]) = true := by rw [tl_lit, htp]; exact decide_eq_true lp
          have hw1 : IntKind.i64.wrap ((t.size : Int) - 1) = (t.size : Int) - 1 := IntWalk.i64_in _ (by omega)
          by_cases l3 : t.size < host.size + 1
          case neg =>
            have d3 : decide ((t.size : Int) - 1 < (host.size : Int)) = false := by simp; omega
            have HN2 : Hid (fromB (F.take (j + 1)) home host = false) := by show _ = _; rw [HFS.out, decide_eq_false (p := 2 < (bl t).length ∧ (bl t).take 2 = starL ∧ (bl t).length < (bl host).length + 1) (by rw [bl_len, bl_len]; exact fun e => l3 e.2.2)]; simp
            clear lp
            go_wp2
            go_quiet (fail)
            go_wp2
            go_roundw
            case rel => exact ⟨j + 1, by omega, by go_num, HN2.out, below_drewN HB.out _⟩
            case measure => simp [intOf]; omega
          have d3 : decide ((t.size : Int) - 1 < (host.size : Int)) = true := by simp; omega
          have HC3 : Hid (decide (2 < (bl t).length ∧ (bl t).take 2 = starL ∧ (bl t).length < (bl host).length + 1) = true) := decide_eq_true ⟨by rw [bl_len]; exact l2, lp, by rw [bl_len, bl_len]; exact l3⟩
          obtain ⟨d, hd⟩ : ∃ d : Nat, d = host.size - t.size := ⟨_, rfl⟩
          have hnn : (host.size : Int) - (t.size : Int) = (d : Int) := by omega
          have hw2 : IntKind.i64.wrap (d : Int) = (d : Int) := IntWalk.i64_in _ (by omega)
          have hw3 : IntKind.i64.wrap ((d : Int) + 1) = (d : Int) + 1 := IntWalk.i64_in _ (by omega)
          obtain ⟨hp, hhp, shp⟩ := from_at host (d + 1) ((d : Int) + 1) (by omega) (by omega)
          obtain ⟨t1, ht1, st1⟩ := from_at t 1 1 rfl (by omega)
          have hty := tl_yn hp t1
          have hpe : decide (hp = t1) = decide ((bl host).drop ((bl host).length - (bl t).length + 1) = (bl t).drop 1) := by
            rw [bl_len, bl_len, ← hd, ← hhp, ← ht1]
            by_cases e : hp = t1
            · rw [decide_eq_true e, decide_eq_true (by rw [e])]
            · rw [decide_eq_false e, decide_eq_false (fun e2 => e (bl_inj e2))]
          rw [hpe] at hty
          rw [HC3.out] at HFS HT
          generalize decide ((bl host).drop ((bl host).length - (bl t).length + 1) = (bl t).drop 1) = b9 at *
          clear hpe hhp ht1 htp lp hd
          cases b9
          case true =>
            have HR := Lib.hid (HT.out (by simp))
            go_wp2
            go_quiet (fail)
            go_wp2
            go_ret
            exact ⟨ret_bool HR.out.symm, below_drewN HB.out _⟩
          have HN2 : Hid (fromB (F.take (j + 1)) home host = false) := by show _ = _; rw [HFS.out]; simp
          go_wp2
          go_quiet (fail)
          go_wp2
          go_roundw
          case rel => exact ⟨j + 1, by omega, by go_num, HN2.out, below_drewN HB.out _⟩
          case measure => simp [intOf]; omega
        by_cases l2 : 2 < t.size
        case neg =>
          have d2 : decide ((2 : Int) < (t.size : Int)) = false := by simp; omega
          have HN2 : Hid (fromB (F.take (j + 1)) home host = false) := by show _ = _; rw [HFS.out, decide_eq_false (p := 2 < (bl t).length ∧ (bl t).take 2 = starL ∧ (bl t).length < (bl host).length + 1) (by rw [bl_len]; exact fun e => l2 e.1)]; simp
          go_wp2
          go_quiet (fail)
          go_wp2
          go_roundw
          case rel => exact ⟨j + 1, by omega, by go_num, HN2.out, below_drewN HB.out _⟩
          case measure => simp [intOf]; omega
        have d2 : decide ((2 : Int) < (t.size : Int)) = true := by simp; omega
        obtain ⟨tp, htp, stp⟩ := upto_at t (by omega)
        by_cases lp : (bl t).take 2 = starL
        case neg =>
          have p2 : (tp.toList == [42, 46]) = false := by rw [tl_lit, htp]; exact decide_eq_false lp
          have HN2 : Hid (fromB (F.take (j + 1)) home host = false) := by show _ = _; rw [HFS.out, decide_eq_false (p := 2 < (bl t).length ∧ (bl t).take 2 = starL ∧ (bl t).length < (bl host).length + 1) (fun e => lp e.2.1)]; simp
          clear lp
          go_wp2
          go_quiet (fail)
          go_wp2
          go_roundw
          case rel => exact ⟨j + 1, by omega, by go_num, HN2.out, below_drewN HB.out _⟩
          case measure => simp [intOf]; omega
        have p2 : (tp.toList == [42, 46]) = true := by rw [tl_lit, htp]; exact decide_eq_true lp
        have hw1 : IntKind.i64.wrap ((t.size : Int) - 1) = (t.size : Int) - 1 := IntWalk.i64_in _ (by omega)
        by_cases l3 : t.size < host.size + 1
        case neg =>
          have d3 : decide ((t.size : Int) - 1 < (host.size : Int)) = false := by simp; omega
          have HN2 : Hid (fromB (F.take (j + 1)) home host = false) := by show _ = _; rw [HFS.out, decide_eq_false (p := 2 < (bl t).length ∧ (bl t).take 2 = starL ∧ (bl t).length < (bl host).length + 1) (by rw [bl_len, bl_len]; exact fun e => l3 e.2.2)]; simp
          clear lp
          go_wp2
          go_quiet (fail)
          go_wp2
          go_roundw
          case rel => exact ⟨j + 1, by omega, by go_num, HN2.out, below_drewN HB.out _⟩
          case measure => simp [intOf]; omega
        have d3 : decide ((t.size : Int) - 1 < (host.size : Int)) = true := by simp; omega
        have HC3 : Hid (decide (2 < (bl t).length ∧ (bl t).take 2 = starL ∧ (bl t).length < (bl host).length + 1) = true) := decide_eq_true ⟨by rw [bl_len]; exact l2, lp, by rw [bl_len, bl_len]; exact l3⟩
        obtain ⟨d, hd⟩ : ∃ d : Nat, d = host.size - t.size := ⟨_, rfl⟩
        have hnn : (host.size : Int) - (t.size : Int) = (d : Int) := by omega
        have hw2 : IntKind.i64.wrap (d : Int) = (d : Int) := IntWalk.i64_in _ (by omega)
        have hw3 : IntKind.i64.wrap ((d : Int) + 1) = (d : Int) + 1 := IntWalk.i64_in _ (by omega)
        obtain ⟨hp, hhp, shp⟩ := from_at host (d + 1) ((d : Int) + 1) (by omega) (by omega)
        obtain ⟨t1, ht1, st1⟩ := from_at t 1 1 rfl (by omega)
        have hty := tl_yn hp t1
        have hpe : decide (hp = t1) = decide ((bl host).drop ((bl host).length - (bl t).length + 1) = (bl t).drop 1) := by
          rw [bl_len, bl_len, ← hd, ← hhp, ← ht1]
          by_cases e : hp = t1
          · rw [decide_eq_true e, decide_eq_true (by rw [e])]
          · rw [decide_eq_false e, decide_eq_false (fun e2 => e (bl_inj e2))]
        rw [hpe] at hty
        rw [HC3.out] at HFS HT
        generalize decide ((bl host).drop ((bl host).length - (bl t).length + 1) = (bl t).drop 1) = b9 at *
        clear hpe hhp ht1 htp lp hd
        cases b9
        case true =>
          have HR := Lib.hid (HT.out (by simp))
          go_wp2
          go_quiet (fail)
          go_wp2
          go_ret
          exact ⟨ret_bool HR.out.symm, below_drewN HB.out _⟩
        have HN2 : Hid (fromB (F.take (j + 1)) home host = false) := by show _ = _; rw [HFS.out]; simp
        go_wp2
        go_quiet (fail)
        go_wp2
        go_roundw
        case rel => exact ⟨j + 1, by omega, by go_num, HN2.out, below_drewN HB.out _⟩
        case measure => simp [intOf]; omega
      cases b7
      case false =>
        by_cases l2 : 2 < t.size
        case neg =>
          have d2 : decide ((2 : Int) < (t.size : Int)) = false := by simp; omega
          have HN2 : Hid (fromB (F.take (j + 1)) home host = false) := by show _ = _; rw [HFS.out, decide_eq_false (p := 2 < (bl t).length ∧ (bl t).take 2 = starL ∧ (bl t).length < (bl host).length + 1) (by rw [bl_len]; exact fun e => l2 e.1)]; simp
          go_wp2
          go_quiet (fail)
          go_wp2
          go_roundw
          case rel => exact ⟨j + 1, by omega, by go_num, HN2.out, below_drewN HB.out _⟩
          case measure => simp [intOf]; omega
        have d2 : decide ((2 : Int) < (t.size : Int)) = true := by simp; omega
        obtain ⟨tp, htp, stp⟩ := upto_at t (by omega)
        by_cases lp : (bl t).take 2 = starL
        case neg =>
          have p2 : (tp.toList == [42, 46]) = false := by rw [tl_lit, htp]; exact decide_eq_false lp
          have HN2 : Hid (fromB (F.take (j + 1)) home host = false) := by show _ = _; rw [HFS.out, decide_eq_false (p := 2 < (bl t).length ∧ (bl t).take 2 = starL ∧ (bl t).length < (bl host).length + 1) (fun e => lp e.2.1)]; simp
          clear lp
          go_wp2
          go_quiet (fail)
          go_wp2
          go_roundw
          case rel => exact ⟨j + 1, by omega, by go_num, HN2.out, below_drewN HB.out _⟩
          case measure => simp [intOf]; omega
        have p2 : (tp.toList == [42, 46]) = true := by rw [tl_lit, htp]; exact decide_eq_true lp
        have hw1 : IntKind.i64.wrap ((t.size : Int) - 1) = (t.size : Int) - 1 := IntWalk.i64_in _ (by omega)
        by_cases l3 : t.size < host.size + 1
        case neg =>
          have d3 : decide ((t.size : Int) - 1 < (host.size : Int)) = false := by simp; omega
          have HN2 : Hid (fromB (F.take (j + 1)) home host = false) := by show _ = _; rw [HFS.out, decide_eq_false (p := 2 < (bl t).length ∧ (bl t).take 2 = starL ∧ (bl t).length < (bl host).length + 1) (by rw [bl_len, bl_len]; exact fun e => l3 e.2.2)]; simp
          clear lp
          go_wp2
          go_quiet (fail)
          go_wp2
          go_roundw
          case rel => exact ⟨j + 1, by omega, by go_num, HN2.out, below_drewN HB.out _⟩
          case measure => simp [intOf]; omega
        have d3 : decide ((t.size : Int) - 1 < (host.size : Int)) = true := by simp; omega
        have HC3 : Hid (decide (2 < (bl t).length ∧ (bl t).take 2 = starL ∧ (bl t).length < (bl host).length + 1) = true) := decide_eq_true ⟨by rw [bl_len]; exact l2, lp, by rw [bl_len, bl_len]; exact l3⟩
        obtain ⟨d, hd⟩ : ∃ d : Nat, d = host.size - t.size := ⟨_, rfl⟩
        have hnn : (host.size : Int) - (t.size : Int) = (d : Int) := by omega
        have hw2 : IntKind.i64.wrap (d : Int) = (d : Int) := IntWalk.i64_in _ (by omega)
        have hw3 : IntKind.i64.wrap ((d : Int) + 1) = (d : Int) + 1 := IntWalk.i64_in _ (by omega)
        obtain ⟨hp, hhp, shp⟩ := from_at host (d + 1) ((d : Int) + 1) (by omega) (by omega)
        obtain ⟨t1, ht1, st1⟩ := from_at t 1 1 rfl (by omega)
        have hty := tl_yn hp t1
        have hpe : decide (hp = t1) = decide ((bl host).drop ((bl host).length - (bl t).length + 1) = (bl t).drop 1) := by
          rw [bl_len, bl_len, ← hd, ← hhp, ← ht1]
          by_cases e : hp = t1
          · rw [decide_eq_true e, decide_eq_true (by rw [e])]
          · rw [decide_eq_false e, decide_eq_false (fun e2 => e (bl_inj e2))]
        rw [hpe] at hty
        rw [HC3.out] at HFS HT
        generalize decide ((bl host).drop ((bl host).length - (bl t).length + 1) = (bl t).drop 1) = b9 at *
        clear hpe hhp ht1 htp lp hd
        cases b9
        case true =>
          have HR := Lib.hid (HT.out (by simp))
          go_wp2
          go_quiet (fail)
          go_wp2
          go_ret
          exact ⟨ret_bool HR.out.symm, below_drewN HB.out _⟩
        have HN2 : Hid (fromB (F.take (j + 1)) home host = false) := by show _ = _; rw [HFS.out]; simp
        go_wp2
        go_quiet (fail)
        go_wp2
        go_roundw
        case rel => exact ⟨j + 1, by omega, by go_num, HN2.out, below_drewN HB.out _⟩
        case measure => simp [intOf]; omega
      cases b1
      case false =>
        have HR := Lib.hid (HT.out (by simp))
        go_wp2
        go_ret
        exact ⟨ret_bool HR.out.symm, HB.out⟩
      by_cases l2 : 2 < t.size
      case neg =>
        have d2 : decide ((2 : Int) < (t.size : Int)) = false := by simp; omega
        have HN2 : Hid (fromB (F.take (j + 1)) home host = false) := by show _ = _; rw [HFS.out, decide_eq_false (p := 2 < (bl t).length ∧ (bl t).take 2 = starL ∧ (bl t).length < (bl host).length + 1) (by rw [bl_len]; exact fun e => l2 e.1)]; simp
        go_wp2
        go_quiet (fail)
        go_wp2
        go_roundw
        case rel => exact ⟨j + 1, by omega, by go_num, HN2.out, below_drewN HB.out _⟩
        case measure => simp [intOf]; omega
      have d2 : decide ((2 : Int) < (t.size : Int)) = true := by simp; omega
      obtain ⟨tp, htp, stp⟩ := upto_at t (by omega)
      by_cases lp : (bl t).take 2 = starL
      case neg =>
        have p2 : (tp.toList == [42, 46]) = false := by rw [tl_lit, htp]; exact decide_eq_false lp
        have HN2 : Hid (fromB (F.take (j + 1)) home host = false) := by show _ = _; rw [HFS.out, decide_eq_false (p := 2 < (bl t).length ∧ (bl t).take 2 = starL ∧ (bl t).length < (bl host).length + 1) (fun e => lp e.2.1)]; simp
        clear lp
        go_wp2
        go_quiet (fail)
        go_wp2
        go_roundw
        case rel => exact ⟨j + 1, by omega, by go_num, HN2.out, below_drewN HB.out _⟩
        case measure => simp [intOf]; omega
      have p2 : (tp.toList == [42, 46]) = true := by rw [tl_lit, htp]; exact decide_eq_true lp
      have hw1 : IntKind.i64.wrap ((t.size : Int) - 1) = (t.size : Int) - 1 := IntWalk.i64_in _ (by omega)
      by_cases l3 : t.size < host.size + 1
      case neg =>
        have d3 : decide ((t.size : Int) - 1 < (host.size : Int)) = false := by simp; omega
        have HN2 : Hid (fromB (F.take (j + 1)) home host = false) := by show _ = _; rw [HFS.out, decide_eq_false (p := 2 < (bl t).length ∧ (bl t).take 2 = starL ∧ (bl t).length < (bl host).length + 1) (by rw [bl_len, bl_len]; exact fun e => l3 e.2.2)]; simp
        clear lp
        go_wp2
        go_quiet (fail)
        go_wp2
        go_roundw
        case rel => exact ⟨j + 1, by omega, by go_num, HN2.out, below_drewN HB.out _⟩
        case measure => simp [intOf]; omega
      have d3 : decide ((t.size : Int) - 1 < (host.size : Int)) = true := by simp; omega
      have HC3 : Hid (decide (2 < (bl t).length ∧ (bl t).take 2 = starL ∧ (bl t).length < (bl host).length + 1) = true) := decide_eq_true ⟨by rw [bl_len]; exact l2, lp, by rw [bl_len, bl_len]; exact l3⟩
      obtain ⟨d, hd⟩ : ∃ d : Nat, d = host.size - t.size := ⟨_, rfl⟩
      have hnn : (host.size : Int) - (t.size : Int) = (d : Int) := by omega
      have hw2 : IntKind.i64.wrap (d : Int) = (d : Int) := IntWalk.i64_in _ (by omega)
      have hw3 : IntKind.i64.wrap ((d : Int) + 1) = (d : Int) + 1 := IntWalk.i64_in _ (by omega)
      obtain ⟨hp, hhp, shp⟩ := from_at host (d + 1) ((d : Int) + 1) (by omega) (by omega)
      obtain ⟨t1, ht1, st1⟩ := from_at t 1 1 rfl (by omega)
      have hty := tl_yn hp t1
      have hpe : decide (hp = t1) = decide ((bl host).drop ((bl host).length - (bl t).length + 1) = (bl t).drop 1) := by
        rw [bl_len, bl_len, ← hd, ← hhp, ← ht1]
        by_cases e : hp = t1
        · rw [decide_eq_true e, decide_eq_true (by rw [e])]
        · rw [decide_eq_false e, decide_eq_false (fun e2 => e (bl_inj e2))]
      rw [hpe] at hty
      rw [HC3.out] at HFS HT
      generalize decide ((bl host).drop ((bl host).length - (bl t).length + 1) = (bl t).drop 1) = b9 at *
      clear hpe hhp ht1 htp lp hd
      cases b9
      case true =>
        have HR := Lib.hid (HT.out (by simp))
        go_wp2
        go_quiet (fail)
        go_wp2
        go_ret
        exact ⟨ret_bool HR.out.symm, below_drewN HB.out _⟩
      have HN2 : Hid (fromB (F.take (j + 1)) home host = false) := by show _ = _; rw [HFS.out]; simp
      go_wp2
      go_quiet (fail)
      go_wp2
      go_roundw
      case rel => exact ⟨j + 1, by omega, by go_num, HN2.out, below_drewN HB.out _⟩
      case measure => simp [intOf]; omega
    · obtain rfl : j = n := by omega
      have HR : Hid (fromB F home host = false) := by have := HF.out; rwa [List.take_of_length_le (by rw [HN.out]; exact Nat.le_refl _)] at this
      go_wp2
      go_ret
      exact ⟨ret_bool HR.out.symm, hb⟩
end Go.Proofs.Ytpplagecancccaa
