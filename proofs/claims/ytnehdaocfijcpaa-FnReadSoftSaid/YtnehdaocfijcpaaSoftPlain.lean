/- Soft lines, plainly: they are read back; both readers accept the same lines; each line is short and of printable bytes. -/
import Derived.Test.YtnehdaocfijcpaaReadI
namespace Go.Proofs.Ytnehdaocfijcpaa
open Go.RowKit

def unitsB (l : List UInt8) : List UInt8 := l.flatMap unitB
theorem unitsB_cons (b : UInt8) (l : List UInt8) : unitsB (b :: l) = unitB b ++ unitsB l := rfl
theorem unitsB_app (l l' : List UInt8) : unitsB (l ++ l') = unitsB l ++ unitsB l' := by simp [unitsB]
theorem unitsB_one (b : UInt8) : unitsB [b] = unitB b := by simp [unitsB]
theorem self_ne {b : UInt8} (h : selfB b = true) : ¬ b = 61 := by
  rintro rfl
  revert h
  decide
theorem pair_back (b : UInt8) : hexD (hexC (b.toNat / 16)) = ((b.toNat / 16 : Nat) : Int) ∧ hexD (hexC (b.toNat % 16)) = ((b.toNat % 16 : Nat) : Int) ∧ UInt8.ofNat (16 * hexD (hexC (b.toNat / 16)) + hexD (hexC (b.toNat % 16))).toNat = b := by
  have hb := b.toNat_lt
  have h1 := hexD_hexC (b.toNat / 16) (by omega)
  have h2 := hexD_hexC (b.toNat % 16) (by omega)
  refine ⟨h1, h2, ?_⟩
  rw [h1, h2]
  have : (16 * ((b.toNat / 16 : Nat) : Int) + ((b.toNat % 16 : Nat) : Int)).toNat = b.toNat := by omega
  rw [this, UInt8.ofNat_toNat]
theorem decA_unit (acc : List UInt8) (b : UInt8) (r : List UInt8) : decA acc (unitB b ++ r) = decA (acc ++ [b]) r := by
  rcases hs : selfB b with _ | _
  · rw [unitB_no hs]
    obtain ⟨h1, h2, h3⟩ := pair_back b
    show decA acc (61 :: hexC (b.toNat / 16) :: hexC (b.toNat % 16) :: r) = _
    rw [decA, if_pos rfl, h3, if_neg (by rw [h1, h2]; omega)]
  · rw [unitB_yes hs]
    exact decA_ne r (self_ne hs)
theorem decI_unit (acc : List UInt8) (b : UInt8) (r : List UInt8) : decI acc (unitB b ++ r) = decI (acc ++ [b]) r := by
  rcases hs : selfB b with _ | _
  · rw [unitB_no hs]
    obtain ⟨h1, h2, h3⟩ := pair_back b
    show decI acc (61 :: hexC (b.toNat / 16) :: hexC (b.toNat % 16) :: r) = _
    rw [decI, if_pos rfl, h3, if_neg (by rw [h1, h2]; omega)]
  · rw [unitB_yes hs]
    exact decI_ne r (self_ne hs)
theorem decA_units : ∀ (l acc r : List UInt8), decA acc (unitsB l ++ r) = decA (acc ++ l) r := by
  intro l
  induction l with
  | nil => intro acc r; simp [unitsB]
  | cons b l ih =>
    intro acc r
    rw [unitsB_cons, List.append_assoc, decA_unit, ih, List.append_assoc]
    rfl
theorem decI_units : ∀ (l acc r : List UInt8), decI acc (unitsB l ++ r) = decI (acc ++ l) r := by
  intro l
  induction l with
  | nil => intro acc r; simp [unitsB]
  | cons b l ih =>
    intro acc r
    rw [unitsB_cons, List.append_assoc, decI_unit, ih, List.append_assoc]
    rfl
theorem unitB_ok (b : UInt8) : (unitB b).all okC = true :=
  byte_all (p := fun b => (unitB b).all okC = true) (by decide +kernel) b

/-- How lines and a line are made of bytes. -/
def SoftInv (st : List (List UInt8) × List UInt8) (l : List UInt8) : Prop :=
  ∃ (ls : List (List UInt8)) (lc : List UInt8), st.1 = ls.map (fun y => unitsB y ++ [61]) ∧ st.2 = unitsB lc ∧ ls.flatten ++ lc = l ∧ (∀ e ∈ st.1, e.length ≤ 20 ∧ e.all okC = true) ∧ st.2.length ≤ 19 ∧ st.2.all okC = true
theorem soft_step {st : List (List UInt8) × List UInt8} {l : List UInt8} (h : SoftInv st l) (b : UInt8) : SoftInv (stepS st b) (l ++ [b]) := by
  obtain ⟨ls, lc, h1, h2, h3, h4, h5, h6⟩ := h
  have hu := unitB_len b
  have ho := unitB_ok b
  unfold stepS
  by_cases hl : 19 < st.2.length + (unitB b).length
  · rw [if_pos hl]
    refine ⟨ls ++ [lc], [b], ?_, (unitsB_one b).symm, ?_, ?_, by show (unitB b).length ≤ 19; omega, ho⟩
    · show st.1 ++ [st.2 ++ [61]] = _
      rw [h1, h2]
      simp
    · rw [← h3]
      simp
    · intro e he
      rcases List.mem_append.1 he with he | he
      · exact h4 e he
      · rw [List.mem_singleton] at he
        subst he
        refine ⟨by simp; omega, ?_⟩
        rw [List.all_append, h6]
        decide
  · rw [if_neg hl]
    refine ⟨ls, lc ++ [b], h1, ?_, ?_, h4, by show (st.2 ++ unitB b).length ≤ 19; rw [List.length_append]; omega, ?_⟩
    · show st.2 ++ unitB b = _
      rw [h2, unitsB_app, unitsB_one]
    · rw [← h3, List.append_assoc]
    · show (st.2 ++ unitB b).all okC = true
      rw [List.all_append, h6, ho]
      rfl
theorem soft_inv (l : List UInt8) : SoftInv (softF l) l := by
  have h : ∀ (l pre : List UInt8) (st : List (List UInt8) × List UInt8), SoftInv st pre → SoftInv (l.foldl stepS st) (pre ++ l) := by
    intro l
    induction l with
    | nil => intro pre st h; simpa using h
    | cons b l ih =>
      intro pre st h
      have := ih _ _ (soft_step h b)
      rwa [List.append_assoc] at this
  exact h l [] ([], []) ⟨[], [], rfl, rfl, rfl, fun e he => (by cases he), by simp, rfl⟩
theorem softL_text (b : List UInt8) : ∀ s ∈ softL b, s.size ≤ 20 ∧ textB (bl s) = true := by
  intro s hs
  by_cases h : b.length ≤ 60
  · obtain ⟨ls, lc, _, _, _, h4, h5, h6⟩ := soft_inv b
    rw [softL_yes h (d := (softF b).1) (c := (softF b).2) rfl, List.mem_map] at hs
    obtain ⟨e, he, rfl⟩ := hs
    have he2 : e.length ≤ 20 ∧ e.all okC = true := by
      rcases List.mem_append.1 he with he | he
      · exact h4 e he
      · rw [List.mem_singleton] at he
        subst he
        exact ⟨by omega, h6⟩
    refine ⟨by rw [mkS_size]; exact he2.1, ?_⟩
    rw [bl_mkS]
    unfold textB
    rw [he2.2, Bool.and_true, decide_eq_true_iff]
    omega
  · rw [softL_no (by omega)] at hs
    cases hs
theorem has_eq (l : List UInt8) : Lib.hasSuffix (l ++ [61]) [61] = true := by
  unfold Lib.hasSuffix
  rw [List.isSuffixOf_iff_suffix]
  exact List.suffix_append _ _
theorem trim_eq (l : List UInt8) : Lib.trimSuffix (l ++ [61]) [61] = l := by
  unfold Lib.trimSuffix
  rw [if_pos (has_eq l)]
  simp
theorem decAll_lines : ∀ (ls : List (List UInt8)) (acc : List UInt8) (r : List ByteArray), decAll acc ((ls.map (fun y => unitsB y ++ [61])).map mkS ++ r) = decAll (acc ++ ls.flatten) r := by
  intro ls
  induction ls with
  | nil => intro acc r; simp
  | cons y ls ih =>
    intro acc r
    have e : decA acc (unitsB y ++ [61]) = some (acc ++ y) := by rw [decA_units]; simp [decA]
    show decAll acc (mkS (unitsB y ++ [61]) :: ((ls.map (fun y => unitsB y ++ [61])).map mkS ++ r)) = _
    rw [decAll, bl_mkS, e]
    show decAll (acc ++ y) _ = _
    rw [ih]
    simp
theorem joinA_lines : ∀ (ls : List (List UInt8)) (acc : List UInt8) (s : ByteArray), joinA acc ((ls.map (fun y => unitsB y ++ [61])).map mkS ++ [s]) = some (acc ++ unitsB ls.flatten ++ bl s) := by
  intro ls
  induction ls with
  | nil => intro acc s; simp [joinA, unitsB]
  | cons y ls ih =>
    intro acc s
    have step : ∀ R : List ByteArray, R ≠ [] → joinA acc (mkS (unitsB y ++ [61]) :: R) = joinA (acc ++ unitsB y) R := by
      intro R hR
      rcases R with _ | ⟨t, R⟩
      · exact absurd rfl hR
      · rw [joinA, bl_mkS, if_pos (has_eq _), trim_eq]
    show joinA acc (mkS (unitsB y ++ [61]) :: ((ls.map (fun y => unitsB y ++ [61])).map mkS ++ [s])) = _
    rw [step _ (by simp), ih, List.flatten_cons, unitsB_app]
    simp
theorem decAll_soft {b : List UInt8} (h : b.length ≤ 60) (r : List ByteArray) : decAll [] (softL b ++ r) = decAll b r := by
  obtain ⟨ls, lc, h1, h2, h3, _⟩ := soft_inv b
  rw [softL_yes h (d := (softF b).1) (c := (softF b).2) rfl, h1, h2, List.map_append, List.append_assoc, decAll_lines]
  have e : decA ([] ++ ls.flatten) (unitsB lc) = some b := by
    have := decA_units lc ls.flatten []
    rw [List.append_nil] at this
    rw [List.nil_append, this, h3]
    simp [decA]
  show decAll ([] ++ ls.flatten) (mkS (unitsB lc) :: r) = _
  rw [decAll, bl_mkS, e]
theorem join_soft {b : List UInt8} (h : b.length ≤ 60) : joinA [] (softL b) = some (unitsB b) := by
  obtain ⟨ls, lc, h1, h2, h3, _⟩ := soft_inv b
  rw [softL_yes h (d := (softF b).1) (c := (softF b).2) rfl, h1, h2, List.map_append]
  have := joinA_lines ls [] (mkS (unitsB lc))
  rw [bl_mkS, List.nil_append, ← unitsB_app, h3] at this
  exact this
theorem softL_nil {b : List UInt8} (h : softL b = []) : 60 < b.length := by
  rcases Nat.lt_or_ge 60 b.length with h1 | h1
  · exact h1
  · rw [softL_yes h1 (d := (softF b).1) (c := (softF b).2) rfl] at h
    simp at h
theorem readS_soft {b : List UInt8} (h : b.length ≤ 60) : readS (softL b) = (b, true) := by
  have := decAll_soft h []
  rw [List.append_nil] at this
  exact readS_yes (by rw [this]; rfl) rfl
theorem readI_soft {b : List UInt8} (h : b.length ≤ 60) : readI (softL b) = (b, true) := by
  have h0 : ¬ ((softL b).length = 0 ∨ 180 < (softL b).length) := by
    have := softL_len b
    rintro (h1 | h1)
    · have := softL_nil (List.eq_nil_of_length_eq_zero h1)
      omega
    · omega
  have e : decI [] (unitsB b) = some b := by
    have := decI_units b [] []
    rw [List.append_nil] at this
    rw [this]
    simp [decI]
  exact readI_yes h0 (join_soft h) e rfl
theorem read_else {L : List ByteArray} (h : ∀ b : List UInt8, b.length ≤ 60 → softL b ≠ L) : readS L = ([], false) ∧ readI L = ([], false) := by
  constructor
  · rcases hd : decAll [] L with _ | b
    · exact readS_none hd
    · by_cases hb : softL b = L
      · exfalso
        rcases Nat.lt_or_ge 60 b.length with h1 | h1
        · rw [softL_no h1] at hb
          subst hb
          simp [decAll] at hd
          subst hd
          simp at h1
        · exact h b h1 hb
      · exact readS_no hd hb
  · by_cases h0 : L.length = 0 ∨ 180 < L.length
    · exact readI_size h0
    · rcases hj : joinA [] L with _ | t
      · exact readI_join h0 hj
      · rcases hd : decI [] t with _ | b
        · exact readI_dec h0 hj hd
        · by_cases hb : softL b = L
          · exfalso
            rcases Nat.lt_or_ge 60 b.length with h1 | h1
            · rw [softL_no h1] at hb
              subst hb
              simp at h0
            · exact h b h1 hb
          · exact readI_no h0 hj hd hb
theorem read_same (L : List ByteArray) : readI L = readS L := by
  by_cases h : ∃ b : List UInt8, b.length ≤ 60 ∧ softL b = L
  · obtain ⟨b, hb, rfl⟩ := h
    rw [readS_soft hb, readI_soft hb]
  · have := read_else (L := L) (fun b hb e => h ⟨b, hb, e⟩)
    rw [this.1, this.2]
/-- What accepted lines are. -/
theorem read_ok {L : List ByteArray} (h : (readS L).2 = true) : (readS L).1.length ≤ 60 ∧ softL (readS L).1 = L ∧ (readS (L ++ [⟨#[]⟩])).2 = false := by
  by_cases he : ∃ b : List UInt8, b.length ≤ 60 ∧ softL b = L
  · obtain ⟨b, hb, rfl⟩ := he
    rw [readS_soft hb]
    refine ⟨hb, rfl, ?_⟩
    have h1 : decAll [] (softL b ++ [⟨#[]⟩]) = some b := by
      rw [decAll_soft hb]
      simp [decAll, bl, decA]
    have h2 : ¬ softL b = softL b ++ [⟨#[]⟩] := by
      intro e
      have := congrArg List.length e
      simp at this
    rw [readS_no h1 h2]
  · have := read_else (L := L) (fun b hb e => he ⟨b, hb, e⟩)
    rw [this.1] at h
    cases h
theorem read_no {L : List ByteArray} (h : (readS L).2 = false) : (readS L).1 = [] := by
  by_cases he : ∃ b : List UInt8, b.length ≤ 60 ∧ softL b = L
  · obtain ⟨b, hb, rfl⟩ := he
    rw [readS_soft hb] at h
    cases h
  · have := read_else (L := L) (fun b hb e => he ⟨b, hb, e⟩)
    rw [this.1]
theorem read_len (L : List ByteArray) : (readS L).1.length ≤ 60 := by
  rcases h : (readS L).2 with _ | _
  · rw [read_no h]; simp
  · exact (read_ok h).1
end Go.Proofs.Ytnehdaocfijcpaa
