/- The shape of a statement: the plain function, the reference, the program. -/
import Derived.Test.YtoajdkcdjdbliaaDoorCutI
namespace Go.Proofs.YtoajdkcdjdbliaaDoor
open Go.RowKit

theorem cutT_inv (P : Nat → StC → Prop) (h1 : ∀ m st x, P m st → P (m + 1) (stepL st x)) (h2 : ∀ m (st : StC), st.1 = true → P m st → P (m + 2) (st.1, st.2.1 ++ [39], st.2.2.1, st.2.2.2)) :
    ∀ (n : Nat) (l : List UInt8), l.length ≤ n → ∀ (m : Nat) (st : StC), P m st → P (m + l.length) (cutT st l) := by
  intro n
  induction n with
  | zero =>
    intro l hl m st h
    have := List.eq_nil_of_length_eq_zero (Nat.le_zero.1 hl)
    subst this
    rw [cutT]; exact h
  | succ n ih =>
    intro l hl m st h
    rcases l with _ | ⟨x, r⟩
    · rw [cutT]; exact h
    · by_cases hd : x = 39 ∧ st.1 = true ∧ r.head? = some 39
      · obtain ⟨rfl, e1, e2⟩ := hd
        rcases r with _ | ⟨y, r⟩
        · cases e2
        · have hy : y = 39 := by simpa using e2
          subst hy
          rw [cutT_double st e1]
          have := ih r (by simp only [List.length_cons] at hl; omega) _ _ (h2 m st e1 h)
          have e : m + (39 :: 39 :: r : List UInt8).length = m + 2 + r.length := by simp only [List.length_cons]; omega
          rw [e]; exact this
      · rw [cutT_step st x r hd]
        have := ih r (by simp only [List.length_cons] at hl; omega) _ _ (h1 m st x h)
        have e : m + (x :: r).length = m + 1 + r.length := by simp only [List.length_cons]; omega
        rw [e]; exact this
theorem cut_lens (l : List UInt8) : (cut0 l).2.2.2.length = (cut0 l).2.2.1.length + (if (cut0 l).1 = true then 1 else 0) := by
  refine cutT_inv (fun _ st => st.2.2.2.length = st.2.2.1.length + (if st.1 = true then 1 else 0)) ?_ ?_ _ l (Nat.le_refl _) 0 (false, [], [], []) rfl
  · intro m st x h
    unfold stepL
    split
    · split
      · rename_i h1; rw [if_pos h1] at h; simp [h]
      · rename_i h1; rw [if_neg h1] at h; simp [h]
    · exact h
  · intro m st _ h
    exact h
theorem cut_small (l : List UInt8) : (cut0 l).2.1.length ≤ l.length ∧ ∀ e ∈ (cut0 l).2.2.2, e.length ≤ l.length := by
  have := cutT_inv (fun m st => st.2.1.length ≤ m ∧ ∀ e ∈ st.2.2.2, e.length ≤ m) ?_ ?_ _ l (Nat.le_refl _) 0 (false, [], [], []) ⟨Nat.le_refl _, fun e he => by cases he⟩
  · unfold cut0; simpa using this
  · intro m st x h
    unfold stepL
    split
    · split
      · exact ⟨Nat.zero_le _, fun e he => by have := h.2 e he; omega⟩
      · refine ⟨Nat.zero_le _, fun e he => ?_⟩
        rcases List.mem_append.1 he with he | he
        · have := h.2 e he; omega
        · rw [List.mem_singleton] at he; subst he; have := h.1; omega
    · refine ⟨by show (st.2.1 ++ [x]).length ≤ m + 1; rw [List.length_append]; have := h.1; simp; omega, fun e he => by have := h.2 e he; omega⟩
  · intro m st _ h
    refine ⟨by show (st.2.1 ++ [39]).length ≤ m + 2; rw [List.length_append]; have := h.1; simp; omega, fun e he => by have := h.2 e he; omega⟩
/-- A question mark outside of texts. -/
def hasQ (L : List (List UInt8)) : Bool := L.any fun e => e.contains 63
def qSt (st : StC) : Bool := hasQ st.2.2.2 || (!st.1 && st.2.1.contains 63)
theorem qSt_kept (l : List UInt8) (st : StC) (h : qSt st = true) : qSt (cutT st l) = true := by
  refine cutT_inv (fun _ st => qSt st = true) ?_ ?_ _ l (Nat.le_refl _) 0 st h
  · intro m st x h
    unfold qSt at h ⊢
    unfold stepL
    rw [Bool.or_eq_true] at h
    split
    · split
      · rename_i h1
        rw [h1] at h
        rcases h with h | h
        · simp only [h, Bool.true_or]
        · simp at h
      · rw [Bool.or_eq_true]
        left
        unfold hasQ at h ⊢
        rw [List.any_append, Bool.or_eq_true]
        rcases h with h | h
        · exact .inl h
        · right
          rw [Bool.and_eq_true] at h
          simp only [List.any_cons, List.any_nil, Bool.or_false]
          exact h.2
    · rw [Bool.or_eq_true]
      rcases h with h | h
      · exact .inl h
      · right
        rw [Bool.and_eq_true] at h ⊢
        refine ⟨h.1, ?_⟩
        rw [List.contains_append, h.2]
        rfl
  · intro m st h1 h
    unfold qSt at h ⊢
    rw [h1] at h ⊢
    simpa using h
def joinQ : List (List UInt8) → List UInt8
  | [] => []
  | [x] => x
  | x :: y :: r => x ++ (63 :: joinQ (y :: r))
theorem joinQ_snoc : ∀ (L : List (List UInt8)) (x y : List UInt8), joinQ (L ++ [x, y]) = joinQ (L ++ [x]) ++ (63 :: y) := by
  intro L
  induction L with
  | nil => intro x y; simp [joinQ]
  | cons a L ih =>
    intro x y
    rcases L with _ | ⟨b, L⟩
    · simp [joinQ]
    · show joinQ (a :: b :: (L ++ [x, y])) = joinQ (a :: b :: (L ++ [x])) ++ _
      rw [joinQ, joinQ]
      have := ih x y
      simp only [List.cons_append] at this
      rw [this]
      simp
theorem joinQ_more : ∀ (L : List (List UInt8)) (x y : List UInt8), joinQ (L ++ [x ++ y]) = joinQ (L ++ [x]) ++ y := by
  intro L
  induction L with
  | nil => intro x y; simp [joinQ]
  | cons a L ih =>
    intro x y
    rcases L with _ | ⟨b, L⟩
    · simp [joinQ]
    · show joinQ (a :: b :: (L ++ [x ++ y])) = joinQ (a :: b :: (L ++ [x])) ++ _
      rw [joinQ, joinQ]
      have := ih x y
      simp only [List.cons_append] at this
      rw [this]
      simp
def shapeR (l : List UInt8) : List UInt8 × Bool :=
  if textB l = true ∧ (cut0 l).1 = false ∧ hasQ ((cut0 l).2.2.2 ++ [(cut0 l).2.1]) = false then (joinQ ((cut0 l).2.2.2 ++ [(cut0 l).2.1]), true) else ([], false)
theorem shapeR_bad {l : List UInt8} (h : textB l = false) : shapeR l = ([], false) := by unfold shapeR; rw [if_neg (by simp [h])]
theorem shapeR_open {l : List UInt8} (h : (cut0 l).1 = true) : shapeR l = ([], false) := by unfold shapeR; rw [if_neg (by simp [h])]
theorem shapeR_q {l : List UInt8} (h : qSt (cut0 l) = true) : shapeR l = ([], false) := by
  rcases hi : (cut0 l).1 with _ | _
  · unfold shapeR
    rw [if_neg]
    rintro ⟨_, _, h3⟩
    unfold qSt at h
    rw [hi] at h
    unfold hasQ at h h3
    rw [List.any_append] at h3
    simp only [List.any_cons, List.any_nil, Bool.or_false, Bool.not_false, Bool.true_and] at h h3
    rw [h] at h3
    cases h3
  · exact shapeR_open hi
theorem shapeR_yes {l : List UInt8} (h : textB l = true) {now : List UInt8} {tx bt : List (List UInt8)} (h2 : cut0 l = (false, now, tx, bt)) (h3 : hasQ (bt ++ [now]) = false) : shapeR l = (joinQ (bt ++ [now]), true) := by unfold shapeR; rw [h2, if_pos ⟨h, rfl, h3⟩]
theorem np_cut : ∀ (n : Nat) {s : ByteArray} {k e : Nat}, s.size ≤ k + n → np s k = some e → ∀ (acc : List UInt8) (tx bt : List (List UInt8)), ∃ t, cutT (true, acc, tx, bt) ((bl s).drop k) = cutT (false, [], tx ++ [t], bt) ((bl s).drop e) := by
  intro n
  induction n with
  | zero => intro s k e h hp; rw [np_end (by omega)] at hp; cases hp
  | succ n ih =>
    intro s k e h hp acc tx bt
    have hk := np_some hp
    rcases np_cases hp hk with ⟨h1, h2⟩ | ⟨h0, h1, h2, h3⟩ | ⟨h1, h2, h3⟩
    · obtain ⟨t, ht⟩ := ih (k := k + 1) (by omega) h2 (acc ++ [s[k]]) tx bt
      refine ⟨t, ?_⟩
      rw [cut_step hk _ (by rintro ⟨h, _⟩; exact h1 h), ← ht]
      unfold stepL
      rw [if_neg h1]
    · obtain ⟨t, ht⟩ := ih (k := k + 2) (by omega) h3 (acc ++ [39]) tx bt
      refine ⟨t, ?_⟩
      rw [cut_double h0 h1 h2 _ rfl, ← ht]
    · refine ⟨acc, ?_⟩
      rw [cut_step hk _ (by rintro ⟨_, _, h⟩; exact h3 h), h2]
      unfold stepL
      rw [if_pos h1, if_pos rfl]
def StrOk (w : World) (r : List UInt8 × Bool) (e : Ending) (w' : World) : Prop := e = .returned (.tuple #[.string (mkS r.1), .bool r.2]) ∧ Below w.heap.size w w'
theorem tup_str {x y : ByteArray} {b : Bool} (h : x = y) : Ending.returned (.tuple #[.string x, .bool b]) = .returned (.tuple #[.string y, .bool b]) := by rw [h]
theorem beq63 {x : UInt8} (h : ¬ x = 63) : ((x.toNat : Int) == 63) = false := by
  rw [beq_eq_false_iff_ne]; intro e; exact h (UInt8.toNat_inj.1 (by have : (63 : UInt8).toNat = 63 := rfl; omega))
theorem mkS_nil : mkS [] = ⟨#[]⟩ := rfl

set_option maxRecDepth 100000 in
set_option maxHeartbeats 1600000 in
theorem spec_StatementShape (s : ByteArray) (w : World) (hs : s.size ≤ 1099511627776) :
    Calls Tryd.prog 22 #[.string s] w (StrOk w (shapeR (bl s))) := by
  have CT := fun W' => spec_TextValid s W' (by omega)
  rcases ht : textB (bl s) with _ | _
  · rw [ht] at CT
    have CT' := Lib.hid CT
    have HR := Lib.hid (shapeR_bad ht)
    clear CT ht
    go_enter Tryd.func22, Tryd.ntmps22
    go_wp2_with fail
    refine (CT'.out _).mono ?_
    rintro e w1 ⟨rfl, rfl⟩
    go_wp2
    go_ret2
    exact ⟨by rw [HR.out]; rfl, Below.refl _ _⟩
  · rw [ht] at CT
    have CT' := Lib.hid CT
    have HTB := Lib.hid ht
    clear CT ht
    go_enter Tryd.func22, Tryd.ntmps22
    go_wp2_with fail
    refine (CT'.out _).mono ?_
    rintro e w1 ⟨rfl, rfl⟩
    go_wp2
    go_loop [4, 5] (fun v t => ∃ (k : Nat) (x : ByteArray) (now : List UInt8) (tx bt : List (List UInt8)), k ≤ s.size ∧ t = .int .i64 (k : Int) ∧ v = .string x ∧ x.size ≤ k ∧ Hid (x = mkS (joinQ (bt ++ [now]))) ∧ Hid (hasQ (bt ++ [now]) = false) ∧ Hid (cutT (false, now, tx, bt) ((bl s).drop k) = cut0 (bl s))) (fun _ t => s.size - (intOf t).toNat)
    case atStart => exact ⟨0, ⟨#[]⟩, [], [], [], Nat.zero_le _, rfl, rfl, Nat.le_refl _, rfl, rfl, rfl⟩
    case round =>
      obtain ⟨k, x, now, tx, bt, hk, rfl, rfl, hxs, HXA, HQ, HT⟩ := hrel
      by_cases hks : k < s.size
      · by_cases hx : s[k] = 39
        · have b1 : ((s[k].toNat : Int) == 39) = true := by rw [hx]; rfl
          have b2 : ((s[k].toNat : Int) == 63) = false := by rw [hx]; rfl
          have HT2 : Hid (cutT (true, [], tx, bt ++ [now]) ((bl s).drop (k + 1)) = cut0 (bl s)) := by
            rw [← HT.out, cut_step hks _ (by rintro ⟨_, h, _⟩; cases h)]
            unfold stepL
            rw [if_pos hx, if_neg (by simp)]
            rfl
          have CL := Lib.hid (spec_l36Next s k w hs (by omega))
          clear hx
          rcases hp : np s (k + 1) with _ | e
          · have HR : Hid (shapeR (bl s) = ([], false)) := by
              apply shapeR_open
              rw [← HT2.out]
              unfold np at hp
              rw [Option.map_eq_none_iff] at hp
              exact cut_none _ _ (Nat.le_refl _) hp _ rfl
            rw [hp] at CL
            clear hp
            go_wp2_with fail
            refine (CL.out).mono ?_
            rintro e w1 ⟨rfl, rfl⟩
            go_wp2
            go_ret2
            exact ⟨by rw [HR.out]; rfl, Below.refl _ _⟩
          · have hge := np_gt (s.size) (s := s) (k := k + 1) (e := e) (by omega) hp
            obtain ⟨t, hct⟩ := np_cut s.size (s := s) (k := k + 1) (e := e) (by omega) hp [] tx (bt ++ [now])
            have HT3 : Hid (cutT (false, [], tx ++ [t], bt ++ [now]) ((bl s).drop e) = cut0 (bl s)) := by rw [← HT2.out, hct]; rfl
            rw [hp] at CL
            have e0 : npV (some e) = (e : Int) := rfl
            rw [e0] at CL
            have HXA2 : Hid (x ++ ⟨#[63]⟩ = mkS (joinQ ((bt ++ [now]) ++ [[]]))) := by
              show _ = _
              rw [List.append_assoc, show [now] ++ [([] : List UInt8)] = [now, []] from rfl, joinQ_snoc, HXA.out]
              exact mkS_app _ [63]
            have HQ2 : Hid (hasQ ((bt ++ [now]) ++ [[]]) = false) := by
              show _ = _
              have := HQ.out
              unfold hasQ at this ⊢
              rw [List.any_append, this]
              rfl
            have hsz : (x ++ (⟨#[63]⟩ : ByteArray)).size ≤ e := by rw [ByteArray.size_append]; show x.size + 1 ≤ e; omega
            have HSZ := Lib.hid hsz
            have he0 : (0 : Int) ≤ (e : Int) := by omega
            clear hp e0 hct hsz
            go_wp2_with fail
            refine (CL.out).mono ?_
            rintro e9 w1 ⟨rfl, rfl⟩
            go_wp2
            go_round
            case rel => exact ⟨e, _, [], tx ++ [t], bt ++ [now], by omega, rfl, rfl, HSZ.out, HXA2, HQ2, HT3⟩
            case measure => simp [intOf]; omega
        · have b1 := beq39 hx
          have HT2 : Hid (cutT (false, now ++ [s[k]], tx, bt) ((bl s).drop (k + 1)) = cut0 (bl s)) := by
            rw [← HT.out, cut_step hks _ (by rintro ⟨h, _⟩; exact hx h)]
            unfold stepL
            rw [if_neg hx]
            rfl
          by_cases hq : s[k] = 63
          · have b2 : ((s[k].toNat : Int) == 63) = true := by rw [hq]; rfl
            have HR : Hid (shapeR (bl s) = ([], false)) := by
              apply shapeR_q
              rw [← HT2.out]
              apply qSt_kept
              unfold qSt
              rw [hq, List.contains_append]
              simp
            clear hx hq
            go_wp2
            go_ret2
            exact ⟨by rw [HR.out]; rfl, Below.refl _ _⟩
          · have b2 := beq63 hq
            have HXA2 : Hid (x ++ s.extract k (k + 1) = mkS (joinQ (bt ++ [now ++ [s[k]]]))) := by
              show _ = _
              rw [joinQ_more, HXA.out]
              apply bl_inj
              rw [bl_app, bl_one s k hks, bl_mkS, bl_mkS]
            have HQ2 : Hid (hasQ (bt ++ [now ++ [s[k]]]) = false) := by
              show _ = _
              have := HQ.out
              unfold hasQ at this ⊢
              rw [List.any_append, Bool.or_eq_false_iff] at this ⊢
              refine ⟨this.1, ?_⟩
              have h2 := this.2
              simp only [List.any_cons, List.any_nil, Bool.or_false] at h2 ⊢
              rw [List.contains_append, h2, Bool.false_or]
              simp only [List.contains_cons, List.contains_nil, Bool.or_false, beq_eq_false_iff_ne]
              exact fun e => hq e.symm
            have hsz : (x ++ s.extract k (k + 1)).size ≤ k + 1 := by
              rw [ByteArray.size_append]
              have : (s.extract k (k + 1)).size = 1 := by rw [← bl_len, bl_one s k hks]; rfl
              omega
            have HSZ := Lib.hid hsz
            clear hx hq hsz
            go_wp2
            go_round
            case rel => exact ⟨k + 1, _, now ++ [s[k]], tx, bt, by omega, by go_num, rfl, HSZ.out, HXA2, HQ2, HT2⟩
            case measure => simp [intOf]; omega
      · have HE : Hid (cut0 (bl s) = (false, now, tx, bt)) := by rw [← HT.out, cut_end (by omega)]; rfl
        have HR : Hid (shapeR (bl s) = (joinQ (bt ++ [now]), true)) := shapeR_yes HTB.out HE.out HQ.out
        go_wp2
        go_ret2
        exact ⟨by rw [HR.out]; exact tup_str HXA.out, Below.refl _ _⟩
end Go.Proofs.YtoajdkcdjdbliaaDoor
