/- Queries read back, by the reference (printed by gen_rps.py). -/
import Derived.Test.YtmiemnhbkcmanaaDoorAskS
import Derived.Test.YtmiemnhbkcmanaaDoorUnpS
import Derived.Test.YtmiemnhbkcmanaaDoorRp
namespace Go.Proofs.YtmiemnhbkcmanaaDoor
open Go.RowKit

theorem span_eq {c : UInt8} : ∀ {a b r r' : List UInt8}, a ++ r = b ++ r' → c ∉ a → c ∉ b → (r = [] ∨ ∃ t, r = c :: t) → (r' = [] ∨ ∃ t, r' = c :: t) → a = b ∧ r = r' := by
  intro a
  induction a with
  | nil =>
    intro b r r' h _ hb hr _
    rcases b with _ | ⟨y, b⟩
    · exact ⟨rfl, h⟩
    · rw [List.nil_append, List.cons_append] at h
      rcases hr with rfl | ⟨t, rfl⟩
      · cases h
      · injection h with h1 _
        exact absurd (List.mem_cons.2 (.inl h1)) hb
  | cons x a ih =>
    intro b r r' h ha hb hr hr'
    rcases b with _ | ⟨y, b⟩
    · rw [List.nil_append, List.cons_append] at h
      rcases hr' with rfl | ⟨t, rfl⟩
      · cases h
      · injection h with h1 _
        exact absurd (List.mem_cons.2 (.inl h1.symm)) ha
    · rw [List.cons_append, List.cons_append] at h
      injection h with h1 h2
      rw [List.mem_cons, not_or] at ha hb
      obtain ⟨e1, e2⟩ := ih h2 ha.2 hb.2 hr hr'
      exact ⟨by rw [h1, e1], e2⟩
theorem ext_app (l : List UInt8) (a m b : Nat) (h1 : a ≤ m) (h2 : m ≤ b) : (l.take b).drop a = (l.take m).drop a ++ (l.take b).drop m := by
  have e : l.take m = (l.take b).take m := by rw [List.take_take, Nat.min_eq_left h2]
  rw [e]
  generalize l.take b = u
  conv => lhs; rw [← List.take_append_drop m u]
  rw [List.drop_append]
  congr 1
  rcases Nat.le_total m u.length with h | h
  · rw [List.length_take, Nat.min_eq_left h, Nat.sub_eq_zero_of_le h1]; rfl
  · rw [List.drop_eq_nil_of_le h]; simp
theorem ext_one (s : ByteArray) (m : Nat) (h : m < s.size) : ((bl s).take (m + 1)).drop m = [s[m]] := by
  rw [← bl_ext, bl_one s m h]
theorem ext_end (s : ByteArray) (a : Nat) : ((bl s).take s.size).drop a = (bl s).drop a := by rw [bl_all]
theorem ext_step {s : ByteArray} {a m : Nat} {c : UInt8} (h : m < s.size) (ha : a ≤ m) (h0 : c ∉ ((bl s).take m).drop a) (h1 : ¬ s[m] = c) : c ∉ ((bl s).take (m + 1)).drop a := by
  rw [ext_app _ a m (m + 1) ha (by omega), ext_one s m h, List.mem_append]
  rintro (h2 | h2)
  · exact h0 h2
  · rw [List.mem_singleton] at h2; exact h1 h2.symm
theorem ext_nil (s : ByteArray) (a : Nat) (c : UInt8) : c ∉ ((bl s).take a).drop a := by
  rw [List.drop_eq_nil_of_le (by rw [List.length_take]; omega)]
  exact List.not_mem_nil
theorem drop_split (s : ByteArray) (a m : Nat) (h1 : a ≤ m) (h2 : m ≤ s.size) : (bl s).drop a = ((bl s).take m).drop a ++ (bl s).drop m := by
  rw [← ext_end s a, ext_app _ a m s.size h1 h2, ext_end]
theorem askJ_cons (x : ByteArray × ByteArray) (Q : List (ByteArray × ByteArray)) : askJ (x :: Q) = pieceP x ++ if Q = [] then [] else 38 :: askJ Q := by
  unfold askJ
  rcases Q with _ | ⟨y, Q⟩
  · rw [List.map_cons, List.map_nil, Lib.join_one]; simp
  · rw [List.map_cons, List.map_cons, join_two]; simp
/-- What is read of l so far, up to at, is the beginning of whatever valid list has l as its text. -/
def AskI (l : List UInt8) (P : List (ByteArray × ByteArray)) (at_ : Nat) : Prop :=
  ∀ Q, askV Q = true → askJ Q = l → ∃ Q2, Q = P ++ Q2 ∧ ((Q2 = [] ∧ l.length ≤ at_) ∨ (Q2 ≠ [] ∧ at_ ≤ l.length ∧ askJ Q2 = l.drop at_))
theorem askI_start (l : List UInt8) : AskI l [] 0 := by
  intro Q _ h2
  refine ⟨Q, rfl, ?_⟩
  by_cases h : Q = []
  · subst h
    exact .inl ⟨rfl, by rw [← h2]; exact Nat.le_refl _⟩
  · exact .inr ⟨h, Nat.zero_le _, h2⟩
theorem askI_end {s : ByteArray} {P : List (ByteArray × ByteArray)} {at_ : Nat} (h : AskI (bl s) P at_) (hat : s.size ≤ at_) (Q : List (ByteArray × ByteArray)) (h1 : askV Q = true) (h2 : askJ Q = bl s) : P = Q := by
  obtain ⟨Q2, rfl, ⟨rfl, _⟩ | ⟨hne, _, h3⟩⟩ := h Q h1 h2
  · rw [List.append_nil]
  · rw [List.drop_eq_nil_of_le (by rw [bl_len]; exact hat)] at h3
    rcases Q2 with _ | ⟨x, Q3⟩
    · exact absurd rfl hne
    · have := congrArg List.length h3
      rw [askJ_cons, pieceP] at this
      simp at this
/-- Where a part ends. -/
def PartEnd (s : ByteArray) (at_ en : Nat) : Prop := 38 ∉ ((bl s).take en).drop at_ ∧ ((bl s).drop en = [] ∨ ∃ t, (bl s).drop en = 38 :: t)
theorem partEnd_all {s : ByteArray} {at_ : Nat} (h : 38 ∉ ((bl s).take s.size).drop at_) : PartEnd s at_ s.size := ⟨h, .inl (List.drop_eq_nil_of_le (by rw [bl_len]; exact Nat.le_refl _))⟩
theorem partEnd_hit {s : ByteArray} {at_ en : Nat} (h : 38 ∉ ((bl s).take en).drop at_) (he : en < s.size) (hc : s[en] = 38) : PartEnd s at_ en := ⟨h, .inr ⟨_, by rw [bl_drop s en he, hc]⟩⟩
theorem askI_part {s : ByteArray} {P : List (ByteArray × ByteArray)} {at_ en : Nat} (h : AskI (bl s) P at_) (hat : at_ < s.size) (h1 : at_ ≤ en) (h2 : en ≤ s.size) (hE : PartEnd s at_ en) (Q : List (ByteArray × ByteArray)) (hQ : askV Q = true) (hJ : askJ Q = bl s) :
    ∃ x Q3, Q = P ++ x :: Q3 ∧ pairB x = true ∧ pieceP x = ((bl s).take en).drop at_ ∧ ((Q3 = [] ∧ s.size ≤ en + 1) ∨ (Q3 ≠ [] ∧ en + 1 ≤ s.size ∧ askJ Q3 = (bl s).drop (en + 1))) := by
  obtain ⟨Q2, rfl, ⟨rfl, h3⟩ | ⟨hne, _, h3⟩⟩ := h Q hQ hJ
  · rw [bl_len] at h3; omega
  · rcases Q2 with _ | ⟨x, Q3⟩
    · exact absurd rfl hne
    · have hp := askV_pair hQ x (by simp)
      rw [askJ_cons, drop_split s at_ en h1 h2] at h3
      obtain ⟨e1, e2⟩ := span_eq h3 (piece_free hp) hE.1 (by by_cases hn : Q3 = []; exact .inl (by rw [if_pos hn]); exact .inr ⟨_, by rw [if_neg hn]⟩) hE.2
      refine ⟨x, Q3, rfl, hp, e1, ?_⟩
      by_cases hn : Q3 = []
      · rw [if_pos hn] at e2
        refine .inl ⟨hn, ?_⟩
        have := congrArg List.length e2
        rw [List.length_drop, bl_len] at this
        simp at this
        omega
      · rw [if_neg hn] at e2
        have hl := congrArg List.length e2
        rw [List.length_drop, bl_len, List.length_cons] at hl
        have he : en < s.size := by omega
        rw [bl_drop s en he] at e2
        injection e2 with _ e2
        exact .inr ⟨hn, he, e2⟩
theorem askI_nosign {s : ByteArray} {P : List (ByteArray × ByteArray)} {at_ en : Nat} (h : AskI (bl s) P at_) (hat : at_ < s.size) (h1 : at_ ≤ en) (h2 : en ≤ s.size) (hE : PartEnd s at_ en) (hS : 61 ∉ ((bl s).take en).drop at_) : ∀ Q, askV Q = true → askJ Q ≠ bl s := by
  intro Q hQ hJ
  obtain ⟨x, Q3, _, _, e, _⟩ := askI_part h hat h1 h2 hE Q hQ hJ
  rw [← e, pieceP] at hS
  exact hS (by simp)
theorem askI_next {s : ByteArray} {P : List (ByteArray × ByteArray)} {at_ en sg : Nat} (h : AskI (bl s) P at_) (hat : at_ < s.size) (h1 : at_ ≤ sg) (hse : sg < en) (h2 : en ≤ s.size) (hE : PartEnd s at_ en) (hS : 61 ∉ ((bl s).take sg).drop at_) (hc : s[sg] = 61) (Q : List (ByteArray × ByteArray)) (hQ : askV Q = true) (hJ : askJ Q = bl s) :
    ∃ x Q3, Q = P ++ x :: Q3 ∧ x.1 = s.extract at_ sg ∧ escP (bl x.2) = bl (s.extract (sg + 1) en) ∧ ((Q3 = [] ∧ s.size ≤ en + 1) ∨ (Q3 ≠ [] ∧ en + 1 ≤ s.size ∧ askJ Q3 = (bl s).drop (en + 1))) := by
  obtain ⟨x, Q3, e0, hp, e, e3⟩ := askI_part h hat (by omega) h2 hE Q hQ hJ
  rw [ext_app _ at_ sg en h1 (by omega), ext_app _ sg (sg + 1) en (by omega) (by omega), ext_one s sg (by omega), hc, pieceP] at e
  obtain ⟨a1, a2⟩ := span_eq e (name_free (pair_name hp)).2 hS (.inr ⟨_, rfl⟩) (.inr ⟨_, rfl⟩)
  injection a2 with _ a2
  exact ⟨x, Q3, e0, bl_inj (by rw [bl_ext]; exact a1), by rw [bl_ext]; exact a2, e3⟩

set_option maxRecDepth 100000 in
set_option maxHeartbeats 3200000 in
theorem spec_ReadAsked (s : ByteArray) (w : World) (hs : s.size ≤ 1048576) :
    Calls Tryd.prog 28 #[.string s] w fun e w' => (∃ v, e = .returned (.tuple #[v, .bool (askB (bl s))])) ∧ Below w.heap.size w w' := by
  go_enter Tryd.func28, Tryd.ntmps28
  go_wp2
  have O0 := Lib.hid (ownN_new w #[] 60 2 0 rfl (by omega))
  go_loopw [4, 5] (fun v t wr => ∃ (at_ : Nat) (P : List (ByteArray × ByteArray)), at_ ≤ s.size + 1 ∧ t = .int .i64 (at_ : Int) ∧ P.length ≤ at_ ∧ wr.ownsRow w.heap.size 60 2 v P.length (pairC P) ∧ Hid (AskI (bl s) P at_) ∧ Hid (∀ x ∈ P, x.1.size ≤ 1048576 ∧ x.2.size ≤ 1048576) ∧ Below w.heap.size w wr) (fun _ t _ => s.size + 1 - (intOf t).toNat)
  case atStart => exact ⟨0, [], Nat.zero_le _, rfl, Nat.zero_le _, O0.out, askI_start _, fun x h => (by cases h), (Below.refl _ _).alloc (Nat.le_refl _) _⟩
  case round =>
    obtain ⟨at_, P, hat1, rfl, hPl, own, HI, HZ, hb⟩ := hrel
    have O2 := Lib.hid own; have B2 := Lib.hid hb
    have hwr := hb.size
    obtain ⟨a2, c2, rfl, _, kv2, kv2', _⟩ := ownN_formn own
    clear own hb O0
    by_cases hat : at_ < s.size
    case neg =>
      have HEnd : Hid (∀ Q, askV Q = true → askJ Q = bl s → P = Q) := askI_end HI.out (by omega)
      have CV := Lib.hid (spec_AskedValid _ w.heap.size P.length P wr O2.out rfl (by omega) HZ.out)
      have CT := Lib.hid (spec_AskedText _ w.heap.size P.length P wr O2.out rfl (by omega) HZ.out)
      rcases hv : askV P with _ | _
      · rw [hv] at CV
        have HR : Hid (askB (bl s) = false) := askB_no (fun Q h1 h2 => by rw [HEnd.out Q h1 h2, h1] at hv; cases hv)
        clear hv
        go_wp2_with fail
        refine CV.out.mono ?_
        rintro e w2 ⟨rfl, rfl⟩
        go_wp2
        go_ret2
        exact ⟨⟨_, by rw [HR.out]; rfl⟩, B2.out.alloc hwr _⟩
      rw [hv] at CV
      have HT := Lib.hid (askT_yes hv)
      have HV := Lib.hid hv
      clear hv
      rw [HT.out] at CT
      by_cases he : mkS (askJ P) = s
      · have HR : Hid (askB (bl s) = true) := askB_yes HV.out (by rw [← he, bl_mkS])
        rw [he] at CT
        clear he
        go_wp2_with fail
        refine CV.out.mono ?_
        rintro e w2 ⟨rfl, rfl⟩
        go_wp2_with fail
        refine CT.out.mono ?_
        rintro e w3 ⟨rfl, b3⟩
        have B3 := Lib.hid (B2.out.trans (b3.mono B2.out.size))
        clear b3
        go_wp2
        go_ret2
        exact ⟨⟨_, by rw [HR.out]; rfl⟩, B3.out⟩
      · have HR : Hid (askB (bl s) = false) := askB_no (fun Q h1 h2 => he (by rw [HEnd.out Q h1 h2, h2, mkS_bl]))
        have hne := toList_no he
        generalize mkS (askJ P) = z at CT hne
        clear he
        go_wp2_with fail
        refine CV.out.mono ?_
        rintro e w2 ⟨rfl, rfl⟩
        go_wp2_with fail
        refine CT.out.mono ?_
        rintro e w3 ⟨rfl, b3⟩
        have B3 := Lib.hid (B2.out.trans (b3.mono B2.out.size))
        clear b3
        go_wp2
        go_ret2
        exact ⟨⟨_, by rw [HR.out]; rfl⟩, B3.out.alloc B3.out.size _⟩
    go_wp2
    go_loop [6] (fun t => ∃ en : Nat, at_ ≤ en ∧ en ≤ s.size ∧ t = .int .i64 (en : Int) ∧ Hid (38 ∉ ((bl s).take en).drop at_)) (fun t => s.size - (intOf t).toNat)
    case atStart => exact ⟨at_, Nat.le_refl _, by omega, rfl, ext_nil s at_ 38⟩
    case round =>
      obtain ⟨en, hen1, hen2, rfl, HE⟩ := hrel
      by_cases hen : en < s.size
      case pos =>
        by_cases h38 : s[en] = 38
        case neg =>
          have q1 : ((s[en].toNat : Int) != 38) = true := bneM (n := 38) 38 rfl h38
          have HE2 : Hid (38 ∉ ((bl s).take (en + 1)).drop at_) := ext_step hen hen1 HE.out h38
          clear h38
          go_wp2
          go_round
          case rel => exact ⟨en + 1, by omega, by omega, by go_num, HE2⟩
          case measure => simp [intOf]; omega
        have q1 : ((s[en].toNat : Int) != 38) = false := beqM (n := 38) 38 rfl h38
        have HPE : Hid (PartEnd s at_ en) := partEnd_hit HE.out hen h38
        clear h38
        go_wp2
        go_loop [7] (fun t => ∃ sg : Nat, at_ ≤ sg ∧ sg ≤ en ∧ t = .int .i64 (sg : Int) ∧ Hid (61 ∉ ((bl s).take sg).drop at_)) (fun t => en - (intOf t).toNat)
        case atStart => exact ⟨at_, Nat.le_refl _, hen1, rfl, ext_nil s at_ 61⟩
        case round =>
          obtain ⟨sg, hsg1, hsg2, rfl, HG⟩ := hrel
          by_cases hse : sg < en
          case neg =>
            obtain rfl : sg = en := by omega
            have HR : Hid (askB (bl s) = false) := askB_no (askI_nosign HI.out hat hen1 hen2 HPE.out HG.out)
            go_wp2
            go_ret2
            exact ⟨⟨_, by rw [HR.out]; rfl⟩, B2.out.alloc hwr _⟩
          have hsz : sg < s.size := by omega
          by_cases h61 : s[sg] = 61
          case neg =>
            have q2 : ((s[sg].toNat : Int) != 61) = true := bneM (n := 61) 61 rfl h61
            have HG2 : Hid (61 ∉ ((bl s).take (sg + 1)).drop at_) := ext_step hsz hsg1 HG.out h61
            clear h61
            go_wp2
            go_round
            case rel => exact ⟨sg + 1, by omega, by omega, by go_num, HG2⟩
            case measure => simp [intOf]; omega
          have q2 : ((s[sg].toNat : Int) != 61) = false := beqM (n := 61) 61 rfl h61
          have HX := Lib.hid (askI_next HI.out hat hsg1 hse hen2 HPE.out HG.out h61)
          clear h61
          have q3 : ((sg : Int) == (en : Int)) = false := by rw [beq_eq_false_iff_ne]; omega
          have i1 : ((sg : Int) + 1).toNat = sg + 1 := by omega
          have i2 : (0 : Int) ≤ (sg : Int) + 1 := by omega
          have i3 : (sg : Int) + 1 ≤ (en : Int) := by omega
          have i4 : (en : Int) ≤ (s.size : Int) := by omega
          have i5 : (at_ : Int) ≤ (sg : Int) := by omega
          have i6 : (sg : Int) ≤ (s.size : Int) := by omega
          have y1 : (s.extract at_ sg).size ≤ 1048576 := by rw [ByteArray.size_extract]; omega
          have y2 : (s.extract (sg + 1) en).size ≤ 1048576 := by rw [ByteArray.size_extract]; omega
          have Y1 := Lib.hid y1
          have CU := Lib.hid (fun W => spec_UnescapePart (s.extract (sg + 1) en) W (by omega))
          have hul := unP_le (bl (s.extract (sg + 1) en))
          rw [bl_len] at hul
          have HU : Hid (∀ t', escP t' = bl (s.extract (sg + 1) en) → unP (bl (s.extract (sg + 1) en)) = (t', true)) := fun t' h => unP_yes h
          generalize unP (bl (s.extract (sg + 1) en)) = u at *
          obtain ⟨t, ok⟩ := u
          have htl : t.length ≤ 1048576 := by simp only at hul; omega
          clear hul y1 y2
          rcases ok with _ | _
          case false =>
            have HR : Hid (askB (bl s) = false) := askB_no (fun Q h1 h2 => by
              obtain ⟨x, Q3, _, _, e, _⟩ := HX.out Q h1 h2
              have := HU.out _ e
              simp at this)
            go_wp2_with fail
            refine (CU.out _).mono ?_
            rintro e w3 ⟨rfl, b3⟩
            have B3 := Lib.hid (B2.out.trans (b3.mono hwr))
            clear b3
            go_wp2
            go_ret2
            exact ⟨⟨_, by rw [HR.out]; rfl⟩, B3.out.alloc B3.out.size _⟩
          have HI2 : Hid (AskI (bl s) (P ++ [(s.extract at_ sg, mkS t)]) (en + 1)) := fun Q h1 h2 => by
            obtain ⟨x, Q3, e0, e1, e2, e3⟩ := HX.out Q h1 h2
            have h3 := HU.out _ e2
            simp only [Prod.mk.injEq] at h3
            refine ⟨Q3, ?_, by rw [bl_len]; exact e3⟩
            rw [e0, h3.1, mkS_bl, ← e1]
            simp
          have HZ2 : Hid (∀ x ∈ P ++ [(s.extract at_ sg, mkS t)], x.1.size ≤ 1048576 ∧ x.2.size ≤ 1048576) := fun x hx => by
            rcases List.mem_append.1 hx with h | h
            · exact HZ.out x h
            · rw [List.mem_singleton.1 h]
              have := Y1.out
              simp only [mkS_size]
              omega
          have HP2 : Hid ((P ++ [(s.extract at_ sg, mkS t)]).length = P.length + 1) := by show _ = _; rw [List.length_append]; rfl
          go_wp2_with fail
          refine (CU.out _).mono ?_
          rintro e w3 ⟨rfl, b3⟩
          have B3 := Lib.hid (B2.out.trans (b3.mono hwr))
          have O3 := Lib.hid (ownN_below O2.out b3)
          have hw3 := B3.out.size
          clear b3
          go_wp2_with (at_builtin; refine wpList_pushPair (.tmp 56) (.tmp 63) w.heap.size (s.extract at_ sg, mkS t) _ P.length P O3.out hw3 (by omega) rfl (by rfl) (by rfl) w3.heap.size rfl (by rfl) ?_; intro v5 w5 o5 g5; have O5 := Lib.hid o5; have B5 := Lib.hid (B3.out.grown g5 hw3 (fun q hq => (ownN_ge O3.out q hq).1)); clear o5 g5)
          go_roundw
          case rel => exact ⟨en + 1, P ++ [(s.extract at_ sg, mkS t)], by omega, by go_num, by rw [HP2.out]; omega, by rw [HP2.out]; exact O5.out, HI2, HZ2, B5.out⟩
          case measure => simp [intOf]; omega
      case neg =>
        have hee : en = s.size := by omega
        have HPE : Hid (PartEnd s at_ en) := by rw [hee]; exact partEnd_all (by rw [← hee]; exact HE.out)
        clear hee
        go_wp2
        go_loop [7] (fun t => ∃ sg : Nat, at_ ≤ sg ∧ sg ≤ en ∧ t = .int .i64 (sg : Int) ∧ Hid (61 ∉ ((bl s).take sg).drop at_)) (fun t => en - (intOf t).toNat)
        case atStart => exact ⟨at_, Nat.le_refl _, hen1, rfl, ext_nil s at_ 61⟩
        case round =>
          obtain ⟨sg, hsg1, hsg2, rfl, HG⟩ := hrel
          by_cases hse : sg < en
          case neg =>
            obtain rfl : sg = en := by omega
            have HR : Hid (askB (bl s) = false) := askB_no (askI_nosign HI.out hat hen1 hen2 HPE.out HG.out)
            go_wp2
            go_ret2
            exact ⟨⟨_, by rw [HR.out]; rfl⟩, B2.out.alloc hwr _⟩
          have hsz : sg < s.size := by omega
          by_cases h61 : s[sg] = 61
          case neg =>
            have q2 : ((s[sg].toNat : Int) != 61) = true := bneM (n := 61) 61 rfl h61
            have HG2 : Hid (61 ∉ ((bl s).take (sg + 1)).drop at_) := ext_step hsz hsg1 HG.out h61
            clear h61
            go_wp2
            go_round
            case rel => exact ⟨sg + 1, by omega, by omega, by go_num, HG2⟩
            case measure => simp [intOf]; omega
          have q2 : ((s[sg].toNat : Int) != 61) = false := beqM (n := 61) 61 rfl h61
          have HX := Lib.hid (askI_next HI.out hat hsg1 hse hen2 HPE.out HG.out h61)
          clear h61
          have q3 : ((sg : Int) == (en : Int)) = false := by rw [beq_eq_false_iff_ne]; omega
          have i1 : ((sg : Int) + 1).toNat = sg + 1 := by omega
          have i2 : (0 : Int) ≤ (sg : Int) + 1 := by omega
          have i3 : (sg : Int) + 1 ≤ (en : Int) := by omega
          have i4 : (en : Int) ≤ (s.size : Int) := by omega
          have i5 : (at_ : Int) ≤ (sg : Int) := by omega
          have i6 : (sg : Int) ≤ (s.size : Int) := by omega
          have y1 : (s.extract at_ sg).size ≤ 1048576 := by rw [ByteArray.size_extract]; omega
          have y2 : (s.extract (sg + 1) en).size ≤ 1048576 := by rw [ByteArray.size_extract]; omega
          have Y1 := Lib.hid y1
          have CU := Lib.hid (fun W => spec_UnescapePart (s.extract (sg + 1) en) W (by omega))
          have hul := unP_le (bl (s.extract (sg + 1) en))
          rw [bl_len] at hul
          have HU : Hid (∀ t', escP t' = bl (s.extract (sg + 1) en) → unP (bl (s.extract (sg + 1) en)) = (t', true)) := fun t' h => unP_yes h
          generalize unP (bl (s.extract (sg + 1) en)) = u at *
          obtain ⟨t, ok⟩ := u
          have htl : t.length ≤ 1048576 := by simp only at hul; omega
          clear hul y1 y2
          rcases ok with _ | _
          case false =>
            have HR : Hid (askB (bl s) = false) := askB_no (fun Q h1 h2 => by
              obtain ⟨x, Q3, _, _, e, _⟩ := HX.out Q h1 h2
              have := HU.out _ e
              simp at this)
            go_wp2_with fail
            refine (CU.out _).mono ?_
            rintro e w3 ⟨rfl, b3⟩
            have B3 := Lib.hid (B2.out.trans (b3.mono hwr))
            clear b3
            go_wp2
            go_ret2
            exact ⟨⟨_, by rw [HR.out]; rfl⟩, B3.out.alloc B3.out.size _⟩
          have HI2 : Hid (AskI (bl s) (P ++ [(s.extract at_ sg, mkS t)]) (en + 1)) := fun Q h1 h2 => by
            obtain ⟨x, Q3, e0, e1, e2, e3⟩ := HX.out Q h1 h2
            have h3 := HU.out _ e2
            simp only [Prod.mk.injEq] at h3
            refine ⟨Q3, ?_, by rw [bl_len]; exact e3⟩
            rw [e0, h3.1, mkS_bl, ← e1]
            simp
          have HZ2 : Hid (∀ x ∈ P ++ [(s.extract at_ sg, mkS t)], x.1.size ≤ 1048576 ∧ x.2.size ≤ 1048576) := fun x hx => by
            rcases List.mem_append.1 hx with h | h
            · exact HZ.out x h
            · rw [List.mem_singleton.1 h]
              have := Y1.out
              simp only [mkS_size]
              omega
          have HP2 : Hid ((P ++ [(s.extract at_ sg, mkS t)]).length = P.length + 1) := by show _ = _; rw [List.length_append]; rfl
          go_wp2_with fail
          refine (CU.out _).mono ?_
          rintro e w3 ⟨rfl, b3⟩
          have B3 := Lib.hid (B2.out.trans (b3.mono hwr))
          have O3 := Lib.hid (ownN_below O2.out b3)
          have hw3 := B3.out.size
          clear b3
          go_wp2_with (at_builtin; refine wpList_pushPair (.tmp 56) (.tmp 63) w.heap.size (s.extract at_ sg, mkS t) _ P.length P O3.out hw3 (by omega) rfl (by rfl) (by rfl) w3.heap.size rfl (by rfl) ?_; intro v5 w5 o5 g5; have O5 := Lib.hid o5; have B5 := Lib.hid (B3.out.grown g5 hw3 (fun q hq => (ownN_ge O3.out q hq).1)); clear o5 g5)
          go_roundw
          case rel => exact ⟨en + 1, P ++ [(s.extract at_ sg, mkS t)], by omega, by go_num, by rw [HP2.out]; omega, by rw [HP2.out]; exact O5.out, HI2, HZ2, B5.out⟩
          case measure => simp [intOf]; omega
end Go.Proofs.YtmiemnhbkcmanaaDoor
