/- Parts of addresses read back: UnescapePart of the program and of the reference. -/
import Derived.Test.YtmiemnhbkcmanaaDoorPct
import Derived.Test.YtmiemnhbkcmanaaDoorPush
namespace Go.Proofs.YtmiemnhbkcmanaaDoor
open Go.RowKit

/-- The number of a hexadecimal digit, or -1. -/
def hxD (b : UInt8) : Int := if 48 ≤ b.toNat ∧ b.toNat ≤ 57 then (b.toNat : Int) - 48 else if 65 ≤ b.toNat ∧ b.toNat ≤ 70 then (b.toNat : Int) - 55 else -1
theorem hxD_bd (b : UInt8) : -1 ≤ hxD b ∧ hxD b ≤ 15 := by unfold hxD; split; omega; split <;> omega
theorem hxD_eq (b : UInt8) : Lib.indexByte [48, 49, 50, 51, 52, 53, 54, 55, 56, 57, 65, 66, 67, 68, 69, 70] b = hxD b :=
  byte_allW (p := fun b => Lib.indexByte [48, 49, 50, 51, 52, 53, 54, 55, 56, 57, 65, 66, 67, 68, 69, 70] b = hxD b) (by decide +kernel) b
theorem hxD_hxC : ∀ d : Nat, d < 16 → hxD (hxC d) = d := by
  have : ∀ d : Fin 16, hxD (hxC d.1) = d.1 := by decide
  exact fun d hd => this ⟨d, hd⟩
theorem hxC_inj {d e : Nat} (hd : d < 16) (he : e < 16) (h : hxC d = hxC e) : d = e := by
  have h1 := hxD_hxC d hd
  rw [h, hxD_hxC e he] at h1
  omega
theorem ret_i64P {a b : Int} (h : a = b) : Ending.returned (.int .i64 a) = .returned (.int .i64 b) := by rw [h]
theorem index_hx (b : UInt8) (w : World) : Calls Tryd.prog 75 #[.string ⟨#[48, 49, 50, 51, 52, 53, 54, 55, 56, 57, 65, 66, 67, 68, 69, 70]⟩, .int .u8 (b.toNat : Int)] w fun e w' => e = .returned (.int .i64 (hxD b)) ∧ w = w' :=
  (Tryd.strings_IndexByte _ _ w).mono fun _ _ ⟨h1, h2⟩ => ⟨by
    have e : ((b.toNat : Int).toNat).toUInt8 = b := by rw [Int.toNat_natCast]; exact UInt8.ofNat_toNat
    rw [h1, e]
    exact ret_i64P (hxD_eq b), h2.symm⟩
theorem escP_cons (x : UInt8) (l : List UInt8) : escP (x :: l) = pctB x ++ escP l := rfl
theorem escP_uncons {x : UInt8} {t : List UInt8} {b : UInt8} {r : List UInt8} (h : escP (x :: t) = b :: r) :
    (partC x = true ∧ x = b ∧ escP t = r) ∨ (partC x = false ∧ b = 37 ∧ hxC (x.toNat / 16) :: hxC (x.toNat % 16) :: escP t = r) := by
  rw [escP_cons] at h
  rcases hp : partC x with _ | _
  · rw [pctB_no hp] at h
    simp only [List.cons_append, List.nil_append, List.cons.injEq] at h
    exact .inr ⟨rfl, h.1.symm, h.2⟩
  · rw [pctB_yes hp] at h
    simp only [List.cons_append, List.nil_append, List.cons.injEq] at h
    exact .inl ⟨rfl, h.1, h.2⟩
theorem byte_of_digits {x y : UInt8} (h1 : hxC (x.toNat / 16) = hxC (y.toNat / 16)) (h2 : hxC (x.toNat % 16) = hxC (y.toNat % 16)) : x = y := by
  have hx := x.toNat_lt
  have hy := y.toNat_lt
  have e1 := hxC_inj (by omega) (by omega) h1
  have e2 := hxC_inj (by omega) (by omega) h2
  exact UInt8.toNat_inj.1 (by omega)
theorem escP_cons_ne (x : UInt8) (t : List UInt8) : escP (x :: t) ≠ [] := by
  intro h
  have h1 := congrArg List.length h
  rw [escP_cons, List.length_append, List.length_nil] at h1
  have h2 := (pctB_len x).2
  omega
theorem escP_inj : ∀ {t t' : List UInt8}, escP t = escP t' → t = t' := by
  intro t
  induction t with
  | nil =>
    intro t' h
    rcases t' with _ | ⟨y, t'⟩
    · rfl
    · exact absurd h.symm (escP_cons_ne y t')
  | cons x t ih =>
    intro t' h
    rcases t' with _ | ⟨y, t'⟩
    · exact absurd h (escP_cons_ne x t)
    · rw [escP_cons y] at h
      rcases hp : partC y with _ | _
      · rw [pctB_no hp] at h
        rcases escP_uncons h with ⟨h1, rfl, _⟩ | ⟨_, _, h2⟩
        · rw [partC_hash] at h1; cases h1
        · injection h2 with h2 h3
          injection h3 with h3 h4
          rw [byte_of_digits h2 h3, ih h4]
      · rw [pctB_yes hp] at h
        rcases escP_uncons h with ⟨_, rfl, h2⟩ | ⟨_, rfl, _⟩
        · rw [ih h2]
        · rw [partC_hash] at hp; cases hp

/-- What is so far taken from l is the beginning of whatever has l as its code. -/
def UnI (l out : List UInt8) (i : Nat) : Prop := ∀ t, escP t = l → ∃ t2, t = out ++ t2 ∧ escP t2 = l.drop i
theorem unI_start (l : List UInt8) : UnI l [] 0 := fun t h => ⟨t, rfl, h⟩
theorem unI_cons {s : ByteArray} {i : Nat} {out : List UInt8} (hi : i < s.size) (h : UnI (bl s) out i) (t : List UInt8) (ht : escP t = bl s) :
    ∃ x t3, t = out ++ x :: t3 ∧ ((partC x = true ∧ x = s[i] ∧ escP t3 = (bl s).drop (i + 1)) ∨ (partC x = false ∧ s[i] = 37 ∧ hxC (x.toNat / 16) :: hxC (x.toNat % 16) :: escP t3 = (bl s).drop (i + 1))) := by
  obtain ⟨t2, rfl, h2⟩ := h t ht
  rw [bl_drop s i hi] at h2
  rcases t2 with _ | ⟨x, t3⟩
  · simp [escP] at h2
  · exact ⟨x, t3, rfl, escP_uncons h2⟩
theorem unI_plain {s : ByteArray} {i : Nat} {out : List UInt8} (hi : i < s.size) (h : UnI (bl s) out i) (hx : ¬ s[i] = 37) : UnI (bl s) (out ++ [s[i]]) (i + 1) := by
  intro t ht
  obtain ⟨x, t3, rfl, ⟨_, rfl, h3⟩ | ⟨_, h3, _⟩⟩ := unI_cons hi h t ht
  · exact ⟨t3, by simp, h3⟩
  · exact absurd h3 hx
theorem unI_bad {s : ByteArray} {i : Nat} {out : List UInt8} (hi : i < s.size) (h : UnI (bl s) out i) (hx : ¬ s[i] = 37) (hp : partC s[i] = false) : ∀ t, escP t ≠ bl s := by
  intro t ht
  obtain ⟨x, t3, rfl, ⟨h2, rfl, h3⟩ | ⟨_, h3, _⟩⟩ := unI_cons hi h t ht
  · rw [hp] at h2; cases h2
  · exact absurd h3 hx
theorem unI_short {s : ByteArray} {i : Nat} {out : List UInt8} (hi : i < s.size) (h : UnI (bl s) out i) (hx : s[i] = 37) (h2 : s.size ≤ i + 2) : ∀ t, escP t ≠ bl s := by
  intro t ht
  obtain ⟨x, t3, rfl, ⟨h2, rfl, h3⟩ | ⟨_, _, h3⟩⟩ := unI_cons hi h t ht
  · rw [hx, partC_hash] at h2; cases h2
  · have := congrArg List.length h3
    rw [List.length_drop, bl_len] at this
    simp at this
    omega
theorem unI_hex {s : ByteArray} {i : Nat} {out : List UInt8} (hi : i + 2 < s.size) (h : UnI (bl s) out i) (hx : s[i] = 37) (t : List UInt8) (ht : escP t = bl s) :
    ∃ x t3, t = out ++ x :: t3 ∧ partC x = false ∧ s[i + 1] = hxC (x.toNat / 16) ∧ s[i + 2] = hxC (x.toNat % 16) ∧ escP t3 = (bl s).drop (i + 3) := by
  obtain ⟨x, t3, rfl, ⟨h2, rfl, h3⟩ | ⟨h2, _, h3⟩⟩ := unI_cons (by omega) h t ht
  · rw [hx, partC_hash] at h2; cases h2
  · rw [bl_drop s (i + 1) (by omega), bl_drop s (i + 2) hi] at h3
    injection h3 with h4 h5
    injection h5 with h5 h6
    exact ⟨x, t3, rfl, h2, h4.symm, h5.symm, h6⟩
theorem unI_nodig {s : ByteArray} {i : Nat} {out : List UInt8} (hi : i + 2 < s.size) (h : UnI (bl s) out i) (hx : s[i] = 37) (hd : hxD s[i + 1] < 0 ∨ hxD s[i + 2] < 0) : ∀ t, escP t ≠ bl s := by
  intro t ht
  obtain ⟨x, t3, _, _, h1, h2, _⟩ := unI_hex hi h hx t ht
  have hxl := x.toNat_lt
  rw [h1, h2, hxD_hxC _ (by omega), hxD_hxC _ (by omega)] at hd
  omega
theorem unI_dig {s : ByteArray} {i : Nat} {out : List UInt8} (hi : i + 2 < s.size) (h : UnI (bl s) out i) (hx : s[i] = 37) : UnI (bl s) (out ++ [UInt8.ofNat (hxD s[i + 1] * 16 + hxD s[i + 2]).toNat]) (i + 3) := by
  intro t ht
  obtain ⟨x, t3, rfl, _, h1, h2, h3⟩ := unI_hex hi h hx t ht
  have hxl := x.toNat_lt
  refine ⟨t3, ?_, h3⟩
  rw [h1, h2, hxD_hxC _ (by omega), hxD_hxC _ (by omega)]
  have : (((x.toNat / 16 : Nat) : Int) * 16 + ((x.toNat % 16 : Nat) : Int)).toNat = x.toNat := by omega
  rw [this, UInt8.ofNat_toNat]
  simp
theorem unI_none {s : ByteArray} {i : Nat} {out : List UInt8} (hi : i + 2 < s.size) (h : UnI (bl s) out i) (hx : s[i] = 37) (hn : ∀ c : Nat, c < 256 → ¬ [s[i], s[i + 1], s[i + 2]] = [37, hxC (c / 16), hxC (c % 16)]) : ∀ t, escP t ≠ bl s := by
  intro t ht
  obtain ⟨x, t3, _, _, h1, h2, _⟩ := unI_hex hi h hx t ht
  exact hn x.toNat x.toNat_lt (by rw [hx, h1, h2])
theorem unI_code {s : ByteArray} {i : Nat} {out : List UInt8} (hi : i + 2 < s.size) (h : UnI (bl s) out i) (hx : s[i] = 37) {c : UInt8} (hc : [s[i], s[i + 1], s[i + 2]] = [37, hxC (c.toNat / 16), hxC (c.toNat % 16)]) : UnI (bl s) (out ++ [c]) (i + 3) := by
  intro t ht
  obtain ⟨x, t3, rfl, _, h1, h2, h3⟩ := unI_hex hi h hx t ht
  injection hc with _ hc
  injection hc with c1 hc
  injection hc with c2 _
  have : x = c := byte_of_digits (by rw [← h1, c1]) (by rw [← h2, c2])
  subst this
  exact ⟨t3, by simp, h3⟩
theorem unI_own {s : ByteArray} {i : Nat} {out : List UInt8} (hi : i + 2 < s.size) (h : UnI (bl s) out i) (hx : s[i] = 37) {c : UInt8} (hc : [s[i], s[i + 1], s[i + 2]] = [37, hxC (c.toNat / 16), hxC (c.toNat % 16)]) (hp : partC c = true) : ∀ t, escP t ≠ bl s := by
  intro t ht
  obtain ⟨x, t3, rfl, h0, h1, h2, h3⟩ := unI_hex hi h hx t ht
  injection hc with _ hc
  injection hc with c1 hc
  injection hc with c2 _
  have : x = c := byte_of_digits (by rw [← h1, c1]) (by rw [← h2, c2])
  subst this
  rw [h0] at hp; cases hp
theorem unI_end {s : ByteArray} {i : Nat} {out : List UInt8} (hi : s.size ≤ i) (h : UnI (bl s) out i) (t : List UInt8) (ht : escP t = bl s) : t = out := by
  obtain ⟨t2, rfl, h2⟩ := h t ht
  rw [List.drop_eq_nil_of_le (by rw [bl_len]; exact hi)] at h2
  have : t2 = [] := escP_inj (by rw [h2]; rfl)
  rw [this, List.append_nil]
open Classical in
/-- What a part means: the text whose code it is, if there is one. -/
noncomputable def unP (l : List UInt8) : List UInt8 × Bool := if h : ∃ t, escP t = l then (h.choose, true) else ([], false)
theorem unP_yes {l t : List UInt8} (h : escP t = l) : unP l = (t, true) := by
  have hx : ∃ t, escP t = l := ⟨t, h⟩
  unfold unP
  rw [dif_pos hx]
  exact congrArg (·, true) (escP_inj (hx.choose_spec.trans h.symm))
theorem unP_no {l : List UInt8} (h : ∀ t, escP t ≠ l) : unP l = ([], false) := by
  unfold unP
  rw [dif_neg (fun ⟨t, ht⟩ => h t ht)]
theorem unP_le (l : List UInt8) : (unP l).1.length ≤ l.length := by
  by_cases h : ∃ t, escP t = l
  · obtain ⟨t, rfl⟩ := h
    rw [unP_yes rfl]
    show t.length ≤ _
    induction t with
    | nil => exact Nat.zero_le _
    | cons x t ih => have := (pctB_len x).2; rw [escP_cons, List.length_append, List.length_cons]; omega
  · rw [unP_no (fun t ht => h ⟨t, ht⟩)]
    exact Nat.zero_le _
theorem ret_sb {a b : ByteArray} {x y : Bool} (h : a = b) (h' : x = y) : Ending.returned (.tuple #[.string a, .bool x]) = .returned (.tuple #[.string b, .bool y]) := by rw [h, h']
theorem toList_no {a b : ByteArray} (h : ¬ a = b) : (a.toList == b.toList) = false := by
  rw [beq_eq_false_iff_ne, ByteArray.toList_eq, ByteArray.toList_eq]
  exact fun e => h (bl_inj e)

set_option maxRecDepth 100000 in
set_option maxHeartbeats 3200000 in
theorem impl_UnescapePart (X : ByteArray) (w : World) (hs : X.size ≤ 1048576) : Calls Tryd.prog 61 #[.string X] w fun e w' => e = .returned (.tuple #[.string (mkS (unP (bl X)).1), .bool (unP (bl X)).2]) ∧ Below w.heap.size w w' := by
  go_enter Tryd.func61, Tryd.ntmps61
  go_wp2
  have O0 := Lib.hid (own_new w #[] 5 0 rfl (by omega))
  go_loopw [4, 5] (fun v t wr => ∃ (j : Nat) (acc2 : List UInt8), j ≤ X.size ∧ t = .int .i64 (j : Int) ∧ acc2.length ≤ j ∧ Hid (UnI (bl X) acc2 j) ∧ wr.ownsRow w.heap.size 5 1 v acc2.length (acc2.map byteV) ∧ Below w.heap.size w wr) (fun _ t _ => X.size - (intOf t).toNat)
  case atStart => exact ⟨0, [], Nat.zero_le _, rfl, by simp, unI_start _, O0.out, (Below.refl _ _).alloc (Nat.le_refl _) _⟩
  case round =>
    obtain ⟨j, acc2, hj, rfl, hac2, HA, own, hb⟩ := hrel
    have O2 := Lib.hid own; have B2 := Lib.hid hb
    have hwr := hb.size
    obtain ⟨av2, cv2, rfl, _, kv2, kv2', _⟩ := own_formn own
    clear own hb
    by_cases hjs : j < X.size
    · by_cases hx : X[j] = 37
      · have b1 : ((X[j].toNat : Int) != 37) = false := by rw [hx]; rfl
        by_cases h2 : X.size ≤ j + 2
        · have HR : Hid (unP (bl X) = ([], false)) := unP_no (unI_short hjs HA.out hx h2)
          have b3 : decide ((X.size : Int) ≤ (j : Int) + 2) = true := by simp; omega
          clear hx
          go_wp2
          go_ret2
          exact ⟨by rw [HR.out]; rfl, B2.out⟩
        · have h3 : j + 2 < X.size := by omega
          have HX := Lib.hid hx
          have d1 := hxD_bd X[j + 1]
          have d2 := hxD_bd X[j + 2]
          have b3 : decide ((X.size : Int) ≤ (j : Int) + 2) = false := by simp; omega
          have i1 : (0 : Int) ≤ (j : Int) + 1 := by omega
          have i2 : (j : Int) + 1 < (X.size : Int) := by omega
          have i3 : (0 : Int) ≤ (j : Int) + 2 := by omega
          have i4 : (j : Int) + 2 < (X.size : Int) := by omega
          have i5 : IntKind.i64.wrap ((j : Int) + 1) = (j : Int) + 1 := IntWalk.i64_in _ (by omega)
          have i6 : IntKind.i64.wrap ((j : Int) + 2) = (j : Int) + 2 := IntWalk.i64_in _ (by omega)
          have i7 : ((j : Int) + 1).toNat = j + 1 := by omega
          have i8 : ((j : Int) + 2).toNat = j + 2 := by omega
          clear hx
          go_wp2_with fail
          go_region_held3 (fun _ => True) (trivial) (first | (go_at_call 75; refine (index_hx _ _).mono ?_; rintro e w1 ⟨rfl, rfl⟩))
          all_goals
            have OD : Hid (wr.drew.ownsRow w.heap.size 5 1 (.slice av2 acc2.length cv2) acc2.length (acc2.map byteV)) := O2.out
            have BD : Hid (Below w.heap.size w wr.drew) := B2.out.drew
            generalize wr.drew = wd at OD BD ⊢
            by_cases hd1 : hxD X[j + 1] < 0
            · have HR : Hid (unP (bl X) = ([], false)) := unP_no (unI_nodig h3 HA.out HX.out (.inl hd1))
              go_wp2
              go_ret2
              exact ⟨by rw [HR.out]; rfl, BD.out⟩
            · have b4 : decide (hxD X[j + 1] < 0) = false := by simpa using hd1
              by_cases hd2 : hxD X[j + 2] < 0
              · have HR : Hid (unP (bl X) = ([], false)) := unP_no (unI_nodig h3 HA.out HX.out (.inr hd2))
                go_wp2
                go_ret2
                exact ⟨by rw [HR.out]; rfl, BD.out⟩
              · have b5 : decide (hxD X[j + 2] < 0) = false := by simpa using hd2
                obtain ⟨bb, hbb⟩ : ∃ bb, bb = UInt8.ofNat (hxD X[j + 1] * 16 + hxD X[j + 2]).toNat := ⟨_, rfl⟩
                have HA2 : Hid (UnI (bl X) (acc2 ++ [bb]) (j + 3)) := by rw [hbb]; exact unI_dig h3 HA.out HX.out
                have q1 : IntKind.u8.wrap (hxD X[j + 1] * 16 + hxD X[j + 2]) = (bb.toNat : Int) := by
                  rw [IntKind.wrap_u8, hbb, UInt8.toNat_ofNat']; omega
                have q2 : 0 ≤ hxD X[j + 1] * 16 + hxD X[j + 2] := by omega
                have q3 : hxD X[j + 1] * 16 + hxD X[j + 2] ≤ 255 := by omega
                have r1 : IntKind.i64.wrap (hxD X[j + 1] * 16) = hxD X[j + 1] * 16 := IntWalk.i64_in _ (by omega)
                have r2 : IntKind.i64.wrap (hxD X[j + 1] * 16 + hxD X[j + 2]) = hxD X[j + 1] * 16 + hxD X[j + 2] := IntWalk.i64_in _ (by omega)
                clear hbb hd1 hd2
                go_wp2_with (at_builtin; refine wpList_push (.tmp 46) (.tmp 52) w.heap.size bb _ acc2 OD.out BD.out.size (by omega) rfl (by rfl) (by rfl) (by rfl) ?_; intro v5 w5 o5 b5; have O5 := Lib.hid o5; have B5 := Lib.hid (BD.out.trans b5); clear o5 b5)
                go_roundw
                case rel => exact ⟨j + 3, acc2 ++ [bb], by omega, by go_num, by simp; omega, HA2, O5.out, B5.out⟩
                case measure => simp [intOf]; omega
      · have b1 : ((X[j].toNat : Int) != 37) = true := by
          rw [bne_iff_ne]; intro e; exact hx (UInt8.toNat_inj.1 (by have : (37 : UInt8).toNat = 37 := rfl; omega))
        have HA2 : Hid (UnI (bl X) (acc2 ++ [X[j]]) (j + 1)) := unI_plain hjs HA.out hx
        clear hx
        go_wp2_with (at_builtin; refine wpList_push (.tmp 19) (.tmp 23) w.heap.size X[j] _ acc2 O2.out B2.out.size (by omega) rfl (by rfl) (by rfl) (by rfl) ?_; intro v5 w5 o5 b5; have O5 := Lib.hid o5; have B5 := Lib.hid (B2.out.trans b5); clear o5 b5)
        go_roundw
        case rel => exact ⟨j + 1, acc2 ++ [X[j]], by omega, by go_num, by simp; omega, HA2, O5.out, B5.out⟩
        case measure => simp [intOf]; omega
    · have hcv := fun W hW => conv_row W av2 acc2.length cv2 acc2 hW rfl
      have HRow := Lib.hid (own_formn_row O2.out)
      have k0 := hcv wr HRow.out
      obtain ⟨y, hy⟩ : ∃ y, y = mkS acc2 := ⟨_, rfl⟩
      have hys : y.size ≤ 1048576 := by rw [hy, mkS_size]; omega
      have HY : Hid (bl y = acc2) := by rw [hy, bl_mkS]; rfl
      have HEnd := Lib.hid (unI_end (by omega) HA.out)
      rw [← hy] at k0
      have HC1 : Hid (∀ W, RowAt W av2 (acc2.map byteV) → (convert 68 9 (.slice av2 acc2.length cv2)).run Tryd.prog W = .ok (.string y) W) := fun W hW => by rw [hy]; exact hcv W hW
      clear hcv hy
      go_wp2_with fail
      refine (impl_EscapePart y _ hys).mono ?_
      rintro e w1 ⟨rfl, b1⟩
      have B3 := Lib.hid (B2.out.trans (b1.mono B2.out.size))
      have k1 := HC1.out w1 (own_formn_row (own_below O2.out b1))
      clear b1 k0
      by_cases he : mkS (escP (bl y)) = X
      · have HR : Hid (unP (bl X) = (acc2, true)) := unP_yes (by rw [← he, bl_mkS, HY.out])
        have HY2 : Hid (y = mkS acc2) := by show _ = _; rw [← HY.out, mkS_bl]
        rw [he]
        clear he
        go_wp2
        go_ret2
        exact ⟨by rw [HR.out]; exact ret_sb HY2.out rfl, B3.out⟩
      · have HR : Hid (unP (bl X) = ([], false)) := unP_no (fun t ht => he (by rw [HY.out, ← HEnd.out t ht, ht, mkS_bl]))
        have hne := toList_no he
        generalize mkS (escP (bl y)) = z at hne
        clear he
        go_wp2
        go_ret2
        exact ⟨by rw [HR.out]; rfl, B3.out⟩
end Go.Proofs.YtmiemnhbkcmanaaDoor
