/- UngroupNumber, of the program and of the reference; the law that asks for the same answers. -/
import Derived.Test.YtfidcfjmmhghjaaDoorUngP
import Derived.Test.YtfidcfjmmhghjaaDoorMax
import Derived.Test.YtfidcfjmmhghjaaDoorByteC
import Derived.Stop.LaidErr
import Derived.Lib.SmallJoins
namespace Go.Proofs.YtfidcfjmmhghjaaDoor
open Go.RowKit

def ErrOk (w : World) : Prop := ∃ te pe, w.cell? ⟨0, 0, none⟩ = some (.iface te pe)
theorem ErrOk.below {w w' : World} (h : ErrOk w) (hb : Below w.heap.size w w') : ErrOk w' := by
  obtain ⟨te, pe, h⟩ := h
  exact ⟨te, pe, (hb.cell (p := ⟨0, 0, none⟩) (World.block_lt_of_cell? w _ h)).trans h⟩
/-- What the walks ask of the library's variables. -/
def AllOk (w : World) : Prop := TabOk w ∧ MaxOk w ∧ ErrOk w
theorem AllOk.below {w w' : World} (h : AllOk w) (hb : Below w.heap.size w w') : AllOk w' := ⟨h.1.below hb, h.2.1.below hb, h.2.2.below hb⟩
theorem gES : Tryd.prog.globalNamed "strconv.ErrSyntax" = some 0 := by kernel_rfl
theorem starES : "*" ++ "errors.errorString" = "*errors.errorString" := by decide
theorem rowES (u : TypeId) (h : Tryd.prog.typeName? 3 u = some "*errors.errorString") : u = 90 :=
  typeName_ptr_named (nm := "errors.errorString") (by rw [starES]; kernel_rfl) (by kernel_rfl) (by decide) u (by rw [starES]; exact h)
theorem err_of_laid {W : World} {text : List UInt8} {r : List (String × DataW Unit)} (h : laidMet Tryd.prog (("strconv.ErrSyntax", .iface "*errors.errorString" (.ptr (.agg [.lit (.string text)]))) :: r) W) : ErrOk W := by
  obtain ⟨a0, s0, hv0, -, -, -⟩ := laid_sentinel h gES (by kernel_rfl) Tryd.underlying38 rowES Tryd.underlying90 Tryd.underlying92 rfl rfl Tryd.underlying9 (by kernel_rfl) (by kernel_rfl)
  have h0 := World.var?_cell gES hv0 0
  exact ⟨_, _, by simpa using h0⟩
def delS (sg : UInt8) (l : List UInt8) : List UInt8 := l.flatMap fun x => if x = sg then [] else [x]
theorem delS_len (sg : UInt8) (l : List UInt8) : (delS sg l).length ≤ l.length := by
  induction l with
  | nil => exact Nat.le_refl _
  | cons x l ih =>
    rw [delS, List.flatMap_cons, List.length_append, ← delS]
    split <;> simp <;> omega
theorem del_any (s : ByteArray) (sg : UInt8) (w : World) (hm : MaxOk w) (hs : s.size ≤ 1048576) :
    Calls Tryd.prog 20 #[.string s, .string (mkS [sg]), .string ⟨#[]⟩] w fun e w' => e = .returned (.string (mkS (delS sg (bl s)))) ∧ Below w.heap.size w w' :=
  (replaceAll_any s ⟨#[]⟩ sg w hm hs (by decide) (by intro e; cases e))
theorem atoi_ok (d : ByteArray) (n : Int) (w : World) (hs : d.size ≤ 18) (h : Lib.atoi (bl d) = some n) :
    Calls Tryd.prog 19 #[.string d] w fun e w' => e = .returned (.tuple #[.int .i64 n, .nilIface]) ∧ Below w.heap.size w w' := by
  refine (Tryd.strconv_Atoi d n hs h w).mono ?_
  rintro e w' ⟨rfl, t, rfl⟩
  exact ⟨rfl, Go.Joins.below_bytesWorld _ _ _ _ (Nat.le_refl _)⟩
theorem atoi_no (d : ByteArray) (w : World) (hs : d.size ≤ 18) (h : Lib.atoi (bl d) = none) (he : ErrOk w) :
    Calls Tryd.prog 19 #[.string d] w fun e w' => ∃ tN N, e = .returned (.tuple #[.int .i64 0, .iface tN (.pointer (some ⟨N, 0, none⟩))]) ∧ Below w.heap.size w w' := by
  obtain ⟨te, pe, he⟩ := he
  refine (Tryd.strconv_Atoi_err d hs h _ w he (.inr ⟨te, pe, rfl⟩)).mono ?_
  rintro e w' ⟨N, rfl, _, _, hb⟩
  exact ⟨_, N, rfl, hb⟩
def NumOk (w : World) (r : Int × Bool) (e : Ending) (w' : World) : Prop := e = .returned (.tuple #[.int .i64 r.1, .bool r.2]) ∧ Below w.heap.size w w'
theorem digB_C (c : UInt8) : digB c = digC c := by
  unfold digB digC
  by_cases h : 48 ≤ c.toNat ∧ c.toNat ≤ 57
  · rw [decide_eq_true h, decide_eq_true (by omega), decide_eq_true (by omega)]; rfl
  · rw [decide_eq_false h, Bool.and_eq_false_iff, decide_eq_false_iff_not, decide_eq_false_iff_not]; omega
theorem beqS {c : UInt8} (h : c = 45) : ((c.toNat : Int) == 45) = true := by subst h; rfl
theorem bneS {c : UInt8} (h : ¬ c = 45) : ((c.toNat : Int) == 45) = false := by
  rw [beq_eq_false_iff_ne]; intro e; exact h (UInt8.toNat_inj.1 (by show c.toNat = 45; omega))

theorem emptyU {s : ByteArray} (h : ¬ s = ⟨#[]⟩) : s.toList.isEmpty = false := by
  rw [ByteArray.toList_eq]
  rcases hb : s.data.toList.isEmpty with _ | _
  · rfl
  · rw [List.isEmpty_iff] at hb
    exact absurd (bl_inj (a := s) (b := ⟨#[]⟩) hb) h

set_option maxRecDepth 100000 in
set_option maxHeartbeats 1600000 in
theorem impl_UngroupNumber (s : ByteArray) (sg : UInt8) (w : World) (hs : s.size ≤ 1048576) (hm : AllOk w) :
    Calls Tryd.prog 10 #[.string s, .int .u8 (sg.toNat : Int)] w (NumOk w (ungR (bl s) sg)) := by
  have CD : ∀ W, Calls Tryd.prog 18 #[.int .u8 (sg.toNat : Int)] W fun e w' => e = .returned (.bool (digC sg)) ∧ W = w' := fun W => by rw [← digB_C]; exact impl_isDigit sg W
  have HBAD := Lib.hid (@ung_bad (bl s) sg)
  have HAT := Lib.hid (fun n => @ung_at (bl s) sg n)
  have HSB : Hid (sgBad sg = (digC sg || decide (sg = 45))) := rfl
  have HM := Lib.hid hm
  clear hm
  generalize ungR (bl s) sg = r at *
  rcases hd : digC sg with _ | _
  case true =>
    have HR : Hid (r = (0, false)) := HBAD.out (.inl (by rw [HSB.out, hd]; rfl))
    rw [hd] at CD
    have CD2 := Lib.hid CD
    clear CD hd
    go_enter Tryd.func10, Tryd.ntmps10
    go_wp2_with fail
    refine (CD2.out _).mono ?_
    rintro e w1 ⟨rfl, rfl⟩
    go_wp2
    go_ret2
    exact ⟨by rw [HR.out]; rfl, Below.refl _ _⟩
  have HD := Lib.hid hd
  rw [hd] at CD
  have CD2 := Lib.hid CD
  clear CD hd
  by_cases h45 : sg = 45
  · have HR : Hid (r = (0, false)) := HBAD.out (.inl (by rw [HSB.out, h45]; rfl))
    have b45 := beqS h45
    clear h45
    go_enter Tryd.func10, Tryd.ntmps10
    go_wp2_with fail
    refine (CD2.out _).mono ?_
    rintro e w1 ⟨rfl, rfl⟩
    go_wp2
    go_ret2
    exact ⟨by rw [HR.out]; rfl, Below.refl _ _⟩
  have b45 := bneS h45
  have HS0 : Hid (sgBad sg = false) := by show _ = _; rw [HSB.out, HD.out, decide_eq_false h45]; rfl
  clear h45
  by_cases h8 : 8 < s.size
  · have HR : Hid (r = (0, false)) := HBAD.out (.inr (.inr (.inl (by rw [bl_len]; exact h8))))
    go_enter Tryd.func10, Tryd.ntmps10
    go_wp2_with fail
    refine (CD2.out _).mono ?_
    rintro e w1 ⟨rfl, rfl⟩
    go_wp2
    go_ret2
    exact ⟨by rw [HR.out]; rfl, Below.refl _ _⟩
  have hone := one_str w sg
  have CR := Lib.hid (fun W h => del_any s sg W h hs)
  have hdl := delS_len sg (bl s)
  rw [bl_len] at hdl
  have hds : (mkS (delS sg (bl s))).size ≤ 18 := by rw [mkS_size]; omega
  have HBL : Hid (bl (mkS (delS sg (bl s))) = delS sg (bl s)) := bl_mkS _
  have HAL : Hid (Below w.heap.size w (w.alloc (.cells #[.int .u8 (sg.toNat : Int)] 5 (0, 0)))) := (Below.refl _ _).alloc (Nat.le_refl _) _
  generalize mkS [sg] = one at *
  rcases ha : Lib.atoi (delS sg (bl s)) with _ | n
  · have HR : Hid (r = (0, false)) := HBAD.out (.inr (.inr (.inr ha)))
    have CA := Lib.hid (fun W h => atoi_no (mkS (delS sg (bl s))) W hds (by rw [HBL.out]; exact ha) h)
    generalize mkS (delS sg (bl s)) = d at *
    clear ha hdl
    go_enter Tryd.func10, Tryd.ntmps10
    go_wp2_with fail
    refine (CD2.out _).mono ?_
    rintro e w1 ⟨rfl, rfl⟩
    go_wp2_with fail
    refine (CR.out _ (HM.out.below HAL.out).2.1).mono ?_
    rintro e w1 ⟨rfl, b1⟩
    have B1 := Lib.hid (HAL.out.trans (b1.mono HAL.out.size))
    have HM1 := Lib.hid (HM.out.below B1.out)
    clear b1
    go_wp2_with fail
    refine (CA.out _ HM1.out.2.2).mono ?_
    rintro e w2 ⟨tN, N, rfl, b2⟩
    have B2 := Lib.hid (B1.out.trans (b2.mono B1.out.size))
    clear b2
    go_wp2
    go_ret2
    exact ⟨by rw [HR.out]; rfl, B2.out⟩
  · have CA := Lib.hid (fun W => atoi_ok (mkS (delS sg (bl s))) n W hds (by rw [HBL.out]; exact ha))
    have hnb := Lib.atoi_bound ha (by omega)
    have CG := Lib.hid (fun W h => impl_GroupNumber n sg W (by omega) (by omega) h)
    have HRA : Hid (¬ bl s = [] → r = if grpR n sg = bl s then (n, true) else (0, false)) := fun h => HAT.out n HS0.out h ha
    have HRE : Hid (bl s = [] → r = (0, false)) := fun h => HBAD.out (.inr (.inl h))
    have hty := tl_yn (mkS (grpR n sg)) s
    have HGE : Hid (mkS (grpR n sg) = s ↔ grpR n sg = bl s) := ⟨fun e => by rw [← e, bl_mkS], fun e => by rw [e, mkS_bl]⟩
    generalize mkS (delS sg (bl s)) = d at *
    generalize mkS (grpR n sg) = g at *
    clear ha hdl
    go_enter Tryd.func10, Tryd.ntmps10
    go_wp2_with fail
    refine (CD2.out _).mono ?_
    rintro e w1 ⟨rfl, rfl⟩
    go_wp2_with fail
    refine (CR.out _ (HM.out.below HAL.out).2.1).mono ?_
    rintro e w1 ⟨rfl, b1⟩
    have B1 := Lib.hid (HAL.out.trans (b1.mono HAL.out.size))
    have HM1 := Lib.hid (HM.out.below B1.out)
    clear b1
    go_wp2_with fail
    refine (CA.out _).mono ?_
    rintro e w2 ⟨rfl, b2⟩
    have B2 := Lib.hid (B1.out.trans (b2.mono B1.out.size))
    have HM2 := Lib.hid (HM1.out.below b2)
    clear b2
    by_cases hse : s = ⟨#[]⟩
    · have HR : Hid (r = (0, false)) := HRE.out (by rw [hse]; rfl)
      subst hse
      clear hty
      go_wp2
      go_ret2
      exact ⟨by rw [HR.out]; rfl, B2.out⟩
    · have hemp := emptyU hse
      have HNE : Hid (¬ bl s = []) := fun e => hse (bl_inj (by rw [e]; rfl))
      clear hse
      by_cases hg : g = s
      · have HR : Hid (r = (n, true)) := by show _ = _; rw [HRA.out HNE.out, if_pos (HGE.out.1 hg)]
        subst hg
        clear hty
        go_wp2_with fail
        refine (CG.out _ HM2.out.1).mono ?_
        rintro e w3 ⟨rfl, b3⟩
        go_wp2
        go_ret2
        exact ⟨by rw [HR.out]; rfl, B2.out.trans (b3.mono B2.out.size)⟩
      · have HR : Hid (r = (0, false)) := by show _ = _; rw [HRA.out HNE.out, if_neg (fun e => hg (HGE.out.2 e))]
        rw [decide_eq_false hg] at hty
        clear hg
        go_wp2_with fail
        refine (CG.out _ HM2.out.1).mono ?_
        rintro e w3 ⟨rfl, b3⟩
        go_wp2
        go_ret2
        exact ⟨by rw [HR.out]; rfl, B2.out.trans (b3.mono B2.out.size)⟩
end Go.Proofs.YtfidcfjmmhghjaaDoor
