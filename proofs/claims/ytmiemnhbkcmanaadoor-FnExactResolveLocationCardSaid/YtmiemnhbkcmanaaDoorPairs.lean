/- Rows of pairs of texts; valid lists of pairs, of the program and of the reference. -/
import Derived.Test.YtmiemnhbkcmanaaDoorHost
import Derived.Test.YtmiemnhbkcmanaaDoorOwnN
import Derived.Test.YtmiemnhbkcmanaaDoorHas
namespace Go.Proofs.YtmiemnhbkcmanaaDoor
open Go.RowKit

def pairC (P : List (ByteArray × ByteArray)) : List Value := P.flatMap fun x => [.string x.1, .string x.2]
theorem pairC_len (P : List (ByteArray × ByteArray)) : (pairC P).length = P.length * 2 := by
  induction P with
  | nil => rfl
  | cons a l ih => rw [pairC, List.flatMap_cons, List.length_append, ← pairC, ih]; simp; omega
theorem pairC_app (A B : List (ByteArray × ByteArray)) : pairC (A ++ B) = pairC A ++ pairC B := by simp [pairC]
theorem pairC_one (P : List (ByteArray × ByteArray)) : ∀ u ∈ pairC P, u.oneCell' = true := by
  intro u hu
  obtain ⟨t, _, ht⟩ := List.mem_flatMap.1 hu
  simp only [List.mem_cons, List.not_mem_nil, or_false] at ht
  rcases ht with rfl | rfl <;> rfl
theorem pairC_get : ∀ (P : List (ByteArray × ByteArray)) (i : Nat) (h : i < P.length), (pairC P)[i * 2]? = some (.string P[i].1) ∧ (pairC P)[i * 2 + 1]? = some (.string P[i].2) := by
  intro P
  induction P with
  | nil => intro i h; simp at h
  | cons a l ih =>
    intro i h
    have e : pairC (a :: l) = .string a.1 :: .string a.2 :: pairC l := rfl
    rw [e]
    rcases i with _ | i
    · exact ⟨rfl, rfl⟩
    · have := ih i (by simpa using h)
      rw [show (i + 1) * 2 = i * 2 + 1 + 1 by omega]
      exact this
theorem info_pair : (Tryd.prog.info? 60).map (fun i => (i.zero, i.size, i.bytes)) = some (some (.agg #[.string ⟨#[]⟩, .string ⟨#[]⟩]), 2, 32) := by kernel_rfl
/-- One attribute more. -/
theorem wpList_pushPair {wr : World} {ops : Array Oper} {rest : List Oper} {o : Oper} {a : Act} {Q : Exit → Act → World → Prop} (s x : Operand) (B : Nat) (t : ByteArray × ByteArray) (v : Value) (n : Nat) (acc : List (ByteArray × ByteArray))
    (own : wr.ownsRow B 60 2 v n (pairC acc)) (hB : B ≤ wr.heap.size) (hsz : n ≤ 1099511627776) (hgd : o.guard = none)
    (ho : o.op = .call { callee := .builtin .append, args := #[s, x], argTypes := #[49, 49] }) (hs : a.eval s = v) (H : Nat) (hH : wr.heap.size = H) (hx : a.eval x = .slice (some ⟨H, 0, none⟩) 1 1)
    (h : ∀ v' w', w'.ownsRow B 60 2 v' (n + 1) (pairC (acc ++ [t])) → wr.grownBy w' v.ownBlock → wpList Tryd.prog ops Q rest (a.put o.dst v') w') :
    wpList Tryd.prog ops Q (o :: rest) a (wr.alloc (.cells #[.string t.1, .string t.2] 60 (0, 0))) := by
  subst hH
  obtain ⟨i0, hi, hz0, hz1, hz2⟩ := info_parts info_pair
  have hal : Below wr.heap.size wr (wr.alloc (.cells #[.string t.1, .string t.2] 60 (0, 0))) := (Below.refl _ _).alloc (Nat.le_refl _) _
  refine wpList_append_own_at _ hgd s x _ ho B 60 i0 _ 2 32 Tryd.underlying49 hi hz0 hz1 hz2 rfl (by omega) v n (pairC acc) hs (ownN_below own hal) ⟨wr.heap.size, 0, none⟩ 1 1 (pairC [t]) hx rfl (fun j u hu => ?_) (pairC_one [t]) (by simp only [maxLen]; omega) (by omega) (by simp; omega) ?_
  · have e : (⟨wr.heap.size, 0, none⟩ : Addr).add j = ⟨wr.heap.size, j, none⟩ := by unfold Addr.add; split <;> simp_all
    rw [e, World.cell?_alloc_mark]
    rw [← hu]
    rcases j with _ | _ | j <;> rfl
  · intro v' w' o' g' _ _
    exact h v' w' (by rw [pairC_app]; exact o') ((World.grownBy_alloc _ _ _).trans g')
/-- An owned row of attributes that is not empty: where it lies, and a cell of it. -/
theorem pair_at {w : World} {B n : Nat} {v : Value} {P : List (ByteArray × ByteArray)} (h : w.ownsRow B 60 2 v n (pairC P)) (hn : P.length = n) (h0 : 0 < n) :
    ∃ g c, v = .slice (some ⟨g, 0, none⟩) n c ∧ B ≤ g ∧ g < w.heap.size ∧ n ≤ c ∧ c ≤ 9223372036854775807 ∧ (∀ j, w.frozen? ⟨g, j, none⟩ = false) ∧
      ∀ i (hi : i < P.length), w.cell? ⟨g, i * 2, none⟩ = some (.string P[i].1) ∧ w.cell? ⟨g, i * 2 + 1, none⟩ = some (.string P[i].2) := by
  have h' := h
  obtain ⟨hl, h⟩ := h
  rcases h with ⟨rfl, e⟩ | ⟨g, cap, cur, rfl, hB, hg, hn1, hm, hs, ht⟩
  · omega
  · have hlt : g < w.heap.size := (Array.getElem?_eq_some_iff.1 hg).1
    refine ⟨g, cap, rfl, hB, hlt, hn1, by simpa [maxLen] using hm, fun j => h'.frozenAt j, fun i hi => ?_⟩
    have hpl := pairC_len P
    obtain ⟨k1, k2⟩ := pairC_get P i hi
    exact ⟨(h'.cellAt _ (by omega)).trans k1, (h'.cellAt _ (by omega)).trans k2⟩

def vB (s : ByteArray) : Bool := decide ((s.size : Int) ≤ 40) && textB (bl s)
theorem impl_valueOk (s : ByteArray) (w : World) (hs : s.size ≤ 4611686018427387904) :
    Calls Tryd.prog 63 #[.string s] w fun e w' => e = .returned (.bool (vB s)) ∧ w = w' := by
  by_cases h40 : (s.size : Int) ≤ 40
  · have HF : Hid (vB s = textB (bl s)) := by rw [vB, decide_eq_true h40]; rfl
    go_enter Tryd.func63, Tryd.ntmps63
    go_wp2_with fail
    refine (impl_TextValid s _ (by omega)).mono ?_
    rintro e w1 ⟨rfl, rfl⟩
    go_wp2
    go_ret
    exact ⟨ret_bool HF.out.symm, rfl⟩
  · have HF : Hid (vB s = false) := by rw [vB, decide_eq_false h40]; rfl
    have h40' : 40 < (s.size : Int) := by omega
    go_enter Tryd.func63, Tryd.ntmps63
    go_wp2
    go_ret
    exact ⟨ret_bool HF.out.symm, rfl⟩
/-- A valid pair; a valid list of pairs. -/
def pairB (x : ByteArray × ByteArray) : Bool := nameB (bl x.1) && vB x.2
def askV (P : List (ByteArray × ByteArray)) : Bool := decide (P.length ≤ 6) && P.all pairB
theorem askV_long {P : List (ByteArray × ByteArray)} (h : 6 < P.length) : askV P = false := by unfold askV; rw [decide_eq_false (by omega)]; rfl
theorem all_takeP {α : Type} (p : α → Bool) (P : List α) (k : Nat) (h : k < P.length) (h0 : (P.take k).all p = true) (h1 : p P[k] = true) : (P.take (k + 1)).all p = true := by
  rw [List.take_add_one, List.getElem?_eq_getElem h, List.all_append, h0]
  simp [h1]
theorem all_badP {α : Type} (p : α → Bool) (P : List α) (k : Nat) (h : k < P.length) (h1 : p P[k] = false) : P.all p = false := by
  rcases hb : P.all p with _ | _
  · rfl
  · rw [List.all_eq_true] at hb
    rw [hb _ (List.getElem_mem h)] at h1
    cases h1
theorem askV_bad {P : List (ByteArray × ByteArray)} (k : Nat) (h : k < P.length) (h1 : pairB P[k] = false) : askV P = false := by unfold askV; rw [all_badP _ P k h h1, Bool.and_false]
theorem askV_all {P : List (ByteArray × ByteArray)} (h : P.all pairB = true) : askV P = decide (P.length ≤ 6) := by unfold askV; rw [h, Bool.and_true]

set_option maxRecDepth 100000 in
set_option maxHeartbeats 1600000 in
theorem impl_AskedValid (v : Value) (B n : Nat) (P : List (ByteArray × ByteArray)) (w : World) (own : w.ownsRow B 60 2 v n (pairC P)) (hn : P.length = n) (hn' : n ≤ 2097152) (hsz : ∀ x ∈ P, x.1.size ≤ 1048576 ∧ x.2.size ≤ 1048576) :
    Calls Tryd.prog 48 #[v] w fun e w' => e = .returned (.bool (askV P)) ∧ Below w.heap.size w w' := by
  have O := Lib.hid own; have HN := Lib.hid hn; have HS := Lib.hid hsz
  obtain ⟨a0, c0, rfl, _, kc, kc', _⟩ := ownN_formn own
  clear own hn hsz
  by_cases h6 : 6 < n
  · have HR : Hid (askV P = false) := askV_long (by rw [HN.out]; exact h6)
    go_enter Tryd.func48, Tryd.ntmps48
    go_wp2
    go_ret
    exact ⟨ret_bool HR.out.symm, Below.refl _ _⟩
  go_enter Tryd.func48, Tryd.ntmps48
  go_wp2
  go_loopw [10] (fun t wr => ∃ k : Nat, k ≤ n ∧ t = .int .i64 (k : Int) ∧ Hid ((P.take k).all pairB = true) ∧ Below w.heap.size w wr) (fun t _ => n - (intOf t).toNat)
  case atStart => exact ⟨0, Nat.zero_le _, rfl, rfl, Below.refl _ _⟩
  case round =>
    obtain ⟨k, hk, rfl, HK, hb⟩ := hrel
    have BW := Lib.hid hb
    have hws := hb.size
    clear hb
    by_cases hkn : k < n
    · have hkP : k < P.length := by rw [HN.out]; exact hkn
      obtain ⟨g, c, hv, _, hlt, _, _, _, hcell⟩ := pair_at (ownN_below O.out BW.out) HN.out (by omega)
      injection hv with hv1 hv2 hv3
      subst hv1; subst hv3
      obtain ⟨hc1, hc2⟩ := hcell k hkP
      have hbad := Lib.hid (askV_bad k hkP)
      have hgood := Lib.hid (all_takeP pairB P k hkP HK.out)
      have hz := HS.out _ (List.getElem_mem hkP)
      have hPE := Lib.hid (show ∀ a b, P[k].1 = a → P[k].2 = b → pairB P[k] = (nameB (bl a) && vB b) from fun a b h1 h2 => by rw [← h1, ← h2]; rfl)
      generalize P[k].1 = x1 at hc1 hz hPE
      generalize P[k].2 = x2 at hc2 hz hPE
      have HP := Lib.hid (hPE.out x1 x2 rfl rfl)
      have hz1 := hz.1
      have hz2 := hz.2
      have CN := Lib.hid (fun W => impl_NameValid x1 W (by omega))
      have CV := Lib.hid (fun W => impl_valueOk x2 W (by omega))
      clear hz hPE hcell
      rcases hnb : nameB (bl x1) with _ | _
      · rw [hnb] at CN
        have HR : Hid (askV P = false) := hbad.out (by rw [HP.out, hnb]; rfl)
        clear hnb
        go_wp2_with fail
        refine (CN.out _).mono ?_
        rintro e w1 ⟨rfl, rfl⟩
        go_wp2
        go_ret
        exact ⟨ret_bool HR.out.symm, BW.out.alloc hws _⟩
      · rw [hnb] at CN
        rcases hvb : vB x2 with _ | _
        · rw [hvb] at CV
          have HR : Hid (askV P = false) := hbad.out (by rw [HP.out, hnb, hvb]; rfl)
          clear hnb hvb
          go_wp2_with fail
          refine (CN.out _).mono ?_
          rintro e w1 ⟨rfl, rfl⟩
          go_wp2_with fail
          refine (CV.out _).mono ?_
          rintro e w1 ⟨rfl, rfl⟩
          go_wp2
          go_ret
          exact ⟨ret_bool HR.out.symm, BW.out.alloc hws _⟩
        · rw [hvb] at CV
          have HG : Hid ((P.take (k + 1)).all pairB = true) := hgood.out (by rw [HP.out, hnb, hvb]; rfl)
          clear hnb hvb
          go_wp2_with fail
          refine (CN.out _).mono ?_
          rintro e w1 ⟨rfl, rfl⟩
          go_wp2_with fail
          refine (CV.out _).mono ?_
          rintro e w1 ⟨rfl, rfl⟩
          go_wp2
          go_roundw
          case rel => exact ⟨k + 1, by omega, by go_num, HG, BW.out.alloc hws _⟩
          case measure => simp [intOf]; omega
    · have HA : Hid (P.all pairB = true) := by have := HK.out; rwa [List.take_of_length_le (by rw [HN.out]; omega)] at this
      have HR : Hid (askV P = true) := by show _ = _; rw [askV_all HA.out, HN.out, decide_eq_true (by omega)]
      go_wp2
      go_ret
      exact ⟨ret_bool HR.out.symm, BW.out⟩

set_option maxRecDepth 100000 in
set_option maxHeartbeats 1600000 in
theorem spec_AskedValid (v : Value) (B n : Nat) (P : List (ByteArray × ByteArray)) (w : World) (own : w.ownsRow B 60 2 v n (pairC P)) (hn : P.length = n) (hn' : n ≤ 2097152) (hsz : ∀ x ∈ P, x.1.size ≤ 1048576 ∧ x.2.size ≤ 1048576) :
    Calls Tryd.prog 44 #[v] w fun e w' => e = .returned (.bool (askV P)) ∧ w = w' := by
  have O := Lib.hid own; have HN := Lib.hid hn; have HS := Lib.hid hsz
  obtain ⟨a0, c0, rfl, _, kc, kc', _⟩ := ownN_formn own
  clear own hn hsz
  go_enter Tryd.func44, Tryd.ntmps44
  go_wp2
  go_loop [3] (fun t => ∃ k : Nat, k ≤ n ∧ t = .int .i64 (k : Int) ∧ Hid ((P.take k).all pairB = true)) (fun t => n - (intOf t).toNat)
  case atStart => exact ⟨0, Nat.zero_le _, rfl, rfl⟩
  case round =>
    obtain ⟨k, hk, rfl, HK⟩ := hrel
    by_cases hkn : k < n
    · have hkP : k < P.length := by rw [HN.out]; exact hkn
      obtain ⟨g, c, hv, _, hlt, _, _, _, hcell⟩ := pair_at O.out HN.out (by omega)
      injection hv with hv1 hv2 hv3
      subst hv1; subst hv3
      obtain ⟨hc1, hc2⟩ := hcell k hkP
      have hbad := Lib.hid (askV_bad k hkP)
      have hgood := Lib.hid (all_takeP pairB P k hkP HK.out)
      have hz := HS.out _ (List.getElem_mem hkP)
      have hPE := Lib.hid (show ∀ a b, P[k].1 = a → P[k].2 = b → pairB P[k] = (nameB (bl a) && vB b) from fun a b h1 h2 => by rw [← h1, ← h2]; rfl)
      generalize P[k].1 = x1 at hc1 hz hPE
      generalize P[k].2 = x2 at hc2 hz hPE
      have HP := Lib.hid (hPE.out x1 x2 rfl rfl)
      have hz1 := hz.1
      have hz2 := hz.2
      have CN := Lib.hid (fun W => spec_NameValid x1 W (by omega))
      have CV := Lib.hid (fun W => spec_TextValid x2 W (by omega))
      clear hz hPE hcell
      rcases hnb : nameB (bl x1) with _ | _
      · rw [hnb] at CN
        have HR : Hid (askV P = false) := hbad.out (by rw [HP.out, hnb]; rfl)
        clear hnb
        go_wp2_with fail
        refine (CN.out _).mono ?_
        rintro e w1 ⟨rfl, rfl⟩
        go_wp2
        go_ret
        exact ⟨ret_bool HR.out.symm, rfl⟩
      · rw [hnb] at CN
        rcases hvb : textB (bl x2) with _ | _
        · rw [hvb] at CV
          have HR : Hid (askV P = false) := hbad.out (by rw [HP.out, hnb, vB, hvb, Bool.and_false]; rfl)
          clear hnb hvb
          go_wp2_with fail
          refine (CN.out _).mono ?_
          rintro e w1 ⟨rfl, rfl⟩
          go_wp2_with fail
          refine (CV.out _).mono ?_
          rintro e w1 ⟨rfl, rfl⟩
          go_wp2
          go_ret
          exact ⟨ret_bool HR.out.symm, rfl⟩
        · rw [hvb] at CV
          by_cases h40 : (x2.size : Int) ≤ 40
          · have HG : Hid ((P.take (k + 1)).all pairB = true) := hgood.out (by rw [HP.out, hnb, vB, hvb, decide_eq_true h40]; rfl)
            clear hnb hvb
            go_wp2_with fail
            refine (CN.out _).mono ?_
            rintro e w1 ⟨rfl, rfl⟩
            go_wp2_with fail
            refine (CV.out _).mono ?_
            rintro e w1 ⟨rfl, rfl⟩
            go_wp2
            go_round
            case rel => exact ⟨k + 1, by omega, by go_num, HG⟩
            case measure => simp [intOf]; omega
          · have HR : Hid (askV P = false) := hbad.out (by rw [HP.out, hnb, vB, hvb, decide_eq_false h40]; rfl)
            have h40' : 40 < (x2.size : Int) := by omega
            clear hnb hvb
            go_wp2_with fail
            refine (CN.out _).mono ?_
            rintro e w1 ⟨rfl, rfl⟩
            go_wp2_with fail
            refine (CV.out _).mono ?_
            rintro e w1 ⟨rfl, rfl⟩
            go_wp2
            go_ret
            exact ⟨ret_bool HR.out.symm, rfl⟩
    · have HA : Hid (P.all pairB = true) := by have := HK.out; rwa [List.take_of_length_le (by rw [HN.out]; omega)] at this
      have HR : Hid (decide ((n : Int) ≤ 6) = askV P) := by
        show _ = _
        rw [askV_all HA.out, HN.out]
        by_cases h6 : n ≤ 6
        · rw [decide_eq_true h6, decide_eq_true (by omega)]
        · rw [decide_eq_false h6, decide_eq_false (by omega)]
      go_wp2
      go_ret
      exact ⟨ret_bool HR.out, rfl⟩
end Go.Proofs.YtmiemnhbkcmanaaDoor
