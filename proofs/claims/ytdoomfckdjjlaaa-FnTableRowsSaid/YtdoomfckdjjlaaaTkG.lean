/- Reading markup in general: the program's reader plainly, and what its memory holds meanwhile. -/
import Derived.Test.YtdoomfckdjjlaaaStepH
import Derived.Test.YtdoomfckdjjlaaaTk
import Derived.Test.YtdoomfckdjjlaaaTRP
namespace Go.Proofs.Ytdoomfckdjjlaaa
open Go.RowKit

/-! The reader, plainly: the tokens with the number of their attributes. -/
structure CfI where
  out : List (Tok × Nat)
  s : St
  raw : List UInt8
  p : Nat
def tx (K : Nat) (N V : List UInt8) : Tok := ⟨K, mkS N, mkS V⟩
def flushI (c : CfI) : List (Tok × Nat) := if c.raw = [] then c.out else c.out ++ [(tx 1 [] (unescR c.raw), 0)]
/-- The class of a step of the reader. -/
inductive CfStep : CfI → UInt8 → Option CfI → Prop
  | bad {c b} : (stepM c.s b).M = 15 → CfStep c b none
  | text {c b} : c.s.M = 0 → (stepM c.s b).M = 0 → CfStep c b (some ⟨c.out, stepM c.s b, c.raw ++ [b], c.p⟩)
  | less {c b} : c.s.M = 0 → (stepM c.s b).M ≠ 0 → (stepM c.s b).M ≠ 15 → CfStep c b (some ⟨flushI c, stepM c.s b, [], c.p⟩)
  | tag {c b} : c.s.M = 1 → (stepM c.s b).M = 2 → CfStep c b (some ⟨c.out, stepM c.s b, c.raw, c.p⟩)
  | mark {c b} : c.s.M = 1 → (stepM c.s b).M ≠ 2 → (stepM c.s b).M ≠ 15 → CfStep c b (some ⟨c.out, stepM c.s b, c.raw, c.p⟩)
  | fin {c b} : c.s.M = 9 → (stepM c.s b).M = 0 → CfStep c b (some ⟨c.out ++ [(tx 3 c.s.T [], 0)], stepM c.s b, c.raw, c.p⟩)
  | name {c b} : c.s.M = 9 → (stepM c.s b).M ≠ 0 → (stepM c.s b).M ≠ 15 → CfStep c b (some ⟨c.out, stepM c.s b, c.raw, c.p⟩)
  | said {c b} : c.s.M = 10 → (stepM c.s b).M = 0 → CfStep c b (some ⟨c.out ++ [(tx 4 [] c.raw, 0)], stepM c.s b, [], c.p⟩)
  | say {c b} : c.s.M = 10 → (stepM c.s b).M ≠ 0 → (stepM c.s b).M ≠ 15 → CfStep c b (some ⟨c.out, stepM c.s b, c.raw ++ [b], c.p⟩)
  | ends {c b} : c.s.M = 14 → (stepM c.s b).M = 9 → 1 < c.raw.length → CfStep c b (some ⟨c.out ++ [(tx 5 [] c.raw.dropLast, 0)], stepM c.s b, [], c.p⟩)
  | endn {c b} : c.s.M = 14 → (stepM c.s b).M = 9 → ¬ 1 < c.raw.length → CfStep c b (some ⟨c.out, stepM c.s b, [], c.p⟩)
  | code {c b} : 11 ≤ c.s.M → ¬ (c.s.M = 14 ∧ (stepM c.s b).M = 9) → (stepM c.s b).M ≠ 15 → CfStep c b (some ⟨c.out, stepM c.s b, c.raw ++ [b], c.p⟩)
  | many {c b} : 2 ≤ c.s.M → c.s.M ≤ 8 → (stepM c.s b).M = 0 ∨ (stepM c.s b).M = 11 → 60 < c.p → CfStep c b none
  | close {c b} : 2 ≤ c.s.M → c.s.M ≤ 8 → (stepM c.s b).M = 0 ∨ (stepM c.s b).M = 11 → ¬ 60 < c.p → CfStep c b (some ⟨c.out ++ [(tx 2 c.s.T [], c.p)], stepM c.s b, c.raw, 0⟩)
  | attr {c b} : c.s.M = 3 → (stepM c.s b).M = 4 → CfStep c b (some ⟨c.out, stepM c.s b, c.raw, c.p + 1⟩)
  | more {c b} : 2 ≤ c.s.M → c.s.M ≤ 8 → c.s.M ≠ 3 → (stepM c.s b).M = 4 → CfStep c b (some ⟨c.out, stepM c.s b, c.raw, c.p⟩)
  | val {c b} : 2 ≤ c.s.M → c.s.M ≤ 8 → (stepM c.s b).M = 8 ∨ (c.s.M = (stepM c.s b).M ∧ ((stepM c.s b).M = 6 ∨ (stepM c.s b).M = 7)) → CfStep c b (some ⟨c.out, stepM c.s b, c.raw, c.p⟩)
  | rest {c b} : 2 ≤ c.s.M → c.s.M ≤ 8 → (stepM c.s b).M ≠ 0 → (stepM c.s b).M ≠ 11 → (stepM c.s b).M ≠ 4 → (stepM c.s b).M ≠ 8 → ¬ (c.s.M = (stepM c.s b).M ∧ ((stepM c.s b).M = 6 ∨ (stepM c.s b).M = 7)) → (stepM c.s b).M ≠ 15 → CfStep c b (some ⟨c.out, stepM c.s b, c.raw, c.p⟩)
def stepI (c : CfI) (b : UInt8) : Option CfI :=
  if (stepM c.s b).M = 15 then none
  else if c.s.M = 0 then (if (stepM c.s b).M = 0 then some ⟨c.out, stepM c.s b, c.raw ++ [b], c.p⟩ else some ⟨flushI c, stepM c.s b, [], c.p⟩)
  else if c.s.M = 1 then some ⟨c.out, stepM c.s b, c.raw, c.p⟩
  else if c.s.M = 9 then (if (stepM c.s b).M = 0 then some ⟨c.out ++ [(tx 3 c.s.T [], 0)], stepM c.s b, c.raw, c.p⟩ else some ⟨c.out, stepM c.s b, c.raw, c.p⟩)
  else if c.s.M = 10 then (if (stepM c.s b).M = 0 then some ⟨c.out ++ [(tx 4 [] c.raw, 0)], stepM c.s b, [], c.p⟩ else some ⟨c.out, stepM c.s b, c.raw ++ [b], c.p⟩)
  else if 11 ≤ c.s.M then (if c.s.M = 14 ∧ (stepM c.s b).M = 9 then (if 1 < c.raw.length then some ⟨c.out ++ [(tx 5 [] c.raw.dropLast, 0)], stepM c.s b, [], c.p⟩ else some ⟨c.out, stepM c.s b, [], c.p⟩) else some ⟨c.out, stepM c.s b, c.raw ++ [b], c.p⟩)
  else if (stepM c.s b).M = 0 ∨ (stepM c.s b).M = 11 then (if 60 < c.p then none else some ⟨c.out ++ [(tx 2 c.s.T [], c.p)], stepM c.s b, c.raw, 0⟩)
  else if c.s.M = 3 ∧ (stepM c.s b).M = 4 then some ⟨c.out, stepM c.s b, c.raw, c.p + 1⟩
  else some ⟨c.out, stepM c.s b, c.raw, c.p⟩
theorem stepI_class (c : CfI) (b : UInt8) : CfStep c b (stepI c b) := by
  unfold stepI
  split
  · rename_i h; exact .bad h
  · rename_i hb
    split
    · rename_i h0
      split
      · rename_i h; exact .text h0 h
      · rename_i h; exact .less h0 h hb
    · rename_i h0
      split
      · rename_i h1
        by_cases h2 : (stepM c.s b).M = 2
        · exact .tag h1 h2
        · exact .mark h1 h2 hb
      · rename_i h1
        split
        · rename_i h9
          split
          · rename_i h; exact .fin h9 h
          · rename_i h; exact .name h9 h hb
        · rename_i h9
          split
          · rename_i h10
            split
            · rename_i h; exact .said h10 h
            · rename_i h; exact .say h10 h hb
          · rename_i h10
            split
            · rename_i h11
              split
              · rename_i h
                split
                · rename_i hr; exact .ends h.1 h.2 hr
                · rename_i hr; exact .endn h.1 h.2 hr
              · rename_i h; exact .code h11 h hb
            · rename_i h11
              have hlo : 2 ≤ c.s.M := by omega
              have hhi : c.s.M ≤ 8 := by omega
              split
              · rename_i h
                split
                · rename_i hp; exact .many hlo hhi h hp
                · rename_i hp; exact .close hlo hhi h hp
              · rename_i h
                split
                · rename_i ha; exact .attr ha.1 ha.2
                · rename_i ha
                  by_cases h4 : (stepM c.s b).M = 4
                  · exact .more hlo hhi (fun e => ha ⟨e, h4⟩) h4
                  · by_cases h8 : (stepM c.s b).M = 8 ∨ (c.s.M = (stepM c.s b).M ∧ ((stepM c.s b).M = 6 ∨ (stepM c.s b).M = 7))
                    · exact .val hlo hhi h8
                    · exact .rest hlo hhi (fun e => h (.inl e)) (fun e => h (.inr e)) h4 (fun e => h8 (.inl e)) (fun e => h8 (.inr e)) hb
def runI : CfI → List UInt8 → Option CfI
  | c, [] => some c
  | c, b :: r => (stepI c b).bind fun c' => runI c' r
theorem runI_app : ∀ (A B : List UInt8) (c : CfI), runI c (A ++ B) = (runI c A).bind fun c' => runI c' B := by
  intro A
  induction A with
  | nil => intro B c; rfl
  | cons a A ih =>
    intro B c
    rw [List.cons_append, runI, runI]
    cases stepI c a with
    | none => rfl
    | some c' => exact ih B c'
def ci0 : CfI := ⟨[], zeroS, [], 0⟩
/-- What Tokenize of the program answers. -/
def endI (c : CfI) : Option (List (Tok × Nat)) := if c.s.M = 0 ∧ (flushI c).length ≤ 60 then some (flushI c) else none
def tokI (l : List UInt8) : Option (List (Tok × Nat)) := if textB l = true then (runI ci0 l).bind endI else none
theorem runI_next {s : ByteArray} {c : CfI} {k : Nat} (hk : k < s.size) (hs : runI ci0 ((bl s).take k) = some c) : runI ci0 ((bl s).take (k + 1)) = stepI c s[k] := by
  rw [bl_take s k hk, runI_app, hs, Option.bind_some]
  show (stepI c s[k]).bind (fun c' => some c') = _
  cases stepI c s[k] <;> rfl
theorem runI_none {s : ByteArray} {k : Nat} (h : runI ci0 ((bl s).take k) = none) : runI ci0 (bl s) = none := by
  have e : bl s = (bl s).take k ++ (bl s).drop k := (List.take_append_drop _ _).symm
  rw [e, runI_app, h]; rfl
/-- What holds between the steps. -/
def CfIOk (c : CfI) : Prop := stValid c.s = true ∧ (4 ≤ c.s.M → c.s.M ≤ 8 → 1 ≤ c.p) ∧ (c.s.M < 2 ∨ 8 < c.s.M → c.p = 0)
/-- Where the modes lead. -/
theorem step_from {s : St} (h : stValid s = true) (b : UInt8) : (4 ≤ (stepM s b).M → (stepM s b).M ≤ 8 → 3 ≤ s.M ∧ s.M ≤ 8 ∧ (s.M = 3 → (stepM s b).M = 4)) ∧ (2 ≤ (stepM s b).M → (stepM s b).M ≤ 8 → 1 ≤ s.M ∧ s.M ≤ 8) ∧ (2 ≤ s.M → s.M ≤ 8 → (stepM s b).M = 0 ∨ (stepM s b).M = 11 ∨ (stepM s b).M = 15 ∨ (2 ≤ (stepM s b).M ∧ (stepM s b).M ≤ 8)) ∧ (s.M = 1 → (stepM s b).M = 2 ∨ 8 < (stepM s b).M) := by
  have hlT : ∀ M T A E, (longT ⟨M, T, A, E⟩ b).M = M ∨ (longT ⟨M, T, A, E⟩ b).M = 15 := fun M T A E => by unfold longT; split; exact .inr rfl; exact .inl rfl
  have hlA : ∀ M T A E, (longA ⟨M, T, A, E⟩ b).M = M ∨ (longA ⟨M, T, A, E⟩ b).M = 15 := fun M T A E => by unfold longA; split; exact .inr rfl; exact .inl rfl
  have htag : ∀ M T A E, (M = 2 ∨ M = 3 ∨ M = 4 ∨ M = 8) → (tagM ⟨M, T, A, E⟩ b).M = 0 ∨ (tagM ⟨M, T, A, E⟩ b).M = 11 ∨ (tagM ⟨M, T, A, E⟩ b).M = 15 ∨ (tagM ⟨M, T, A, E⟩ b).M = 3 ∨ (tagM ⟨M, T, A, E⟩ b).M = M ∨ (M = 3 ∧ (tagM ⟨M, T, A, E⟩ b).M = 4) ∨ (M = 4 ∧ (tagM ⟨M, T, A, E⟩ b).M = 5) := fun M T A E hM => by
    unfold tagM
    simp only
    split
    · split
      · exact .inr (.inl rfl)
      · exact .inl rfl
    · split
      · exact .inr (.inr (.inr (.inl rfl)))
      · split
        · split
          · rcases hlT M T A E with h | h <;> rw [h] <;> simp
          · exact .inr (.inr (.inl rfl))
        · split
          · split
            · rcases hlA 4 T A E with h | h <;> rw [h] <;> simp [*]
            · exact .inr (.inr (.inl rfl))
          · split
            · split
              · rcases hlA M T A E with h | h <;> rw [h] <;> simp
              · split
                · exact .inr (.inr (.inr (.inr (.inr (.inr ⟨by assumption, rfl⟩)))))
                · exact .inr (.inr (.inl rfl))
            · split
              · split
                · exact .inr (.inr (.inr (.inr (.inl rfl))))
                · exact .inr (.inr (.inl rfl))
              · exact .inr (.inr (.inl rfl))
  rcases val_cases h with ⟨M, rfl, hM⟩ | ⟨M, T, rfl, hM, hT⟩ | ⟨M, T, A, rfl, hM, hT, hA⟩ | ⟨M, T, A, E, rfl, hM, hT, hA⟩ | ⟨T, A, rfl, hT, hA⟩ | ⟨T, rfl, hT⟩
  · have hc : M = 0 ∨ M = 1 ∨ M = 10 ∨ M = 11 ∨ M = 12 ∨ M = 13 ∨ M = 14 ∨ M = 15 := by omega
    unfold stepM
    rcases hc with rfl | rfl | rfl | rfl | rfl | rfl | rfl | rfl <;> simp only [Nat.reduceEqDiff, if_true, if_false, or_self, or_true, true_or, reduceCtorEq, and_true, and_false]
    · split <;> simp
    · split
      · simp
      · split
        · simp
        · split <;> simp [badS]
    · split <;> simp [zeroS]
    · split
      · simp
      · split <;> simp
    · split
      · simp
      · split
        · simp
        · split <;> simp [badS]
    · split <;> simp [badS]
    · split
      · simp
      · split
        · simp
        · split <;> simp
    · simp [badS]
  · have hm : stepM ⟨M, T, [], false⟩ b = tagM ⟨M, T, [], false⟩ b := by
      unfold stepM
      rcases hM with rfl | rfl <;> simp
    rw [hm]
    have := htag M T [] false (by omega)
    generalize (tagM ⟨M, T, [], false⟩ b).M = x at *
    simp only
    omega
  · rcases hM with rfl | rfl
    · have hm : stepM ⟨4, T, A, false⟩ b = tagM ⟨4, T, A, false⟩ b := by
        unfold stepM; simp
      rw [hm]
      have := htag 4 T A false (by omega)
      generalize (tagM ⟨4, T, A, false⟩ b).M = x at *
      simp only
      omega
    · unfold stepM
      simp only [Nat.reduceEqDiff, if_true, if_false, or_self]
      split
      · simp
      · split
        · simp
        · split <;> simp [badS]
  · unfold stepM
    rcases hM with rfl | rfl <;> simp only [Nat.reduceEqDiff, if_true, if_false, or_self]
    · split <;> simp
    · split <;> simp
  · have hm : stepM ⟨8, T, A, true⟩ b = tagM ⟨8, T, A, true⟩ b := by
      unfold stepM; simp
    rw [hm]
    have := htag 8 T A true (by omega)
    generalize (tagM ⟨8, T, A, true⟩ b).M = x at *
    simp only
    omega
  · unfold stepM
    simp only [Nat.reduceEqDiff, if_true, if_false, or_self]
    split
    · simp [zeroS]
    · split
      · rcases hlT 9 T [] false with h | h <;> rw [h] <;> simp
      · simp [badS]
theorem CfIOk.next {c c' : CfI} {b : UInt8} (h : CfIOk c) (hs : stepI c b = some c') : CfIOk c' := by
  obtain ⟨h1, h2, h3⟩ := h
  obtain ⟨f1, f2, f3, f4⟩ := step_from h1 b
  have hv := stepM_valid h1 b
  have hcl := stepI_class c b
  rw [hs] at hcl
  unfold CfIOk
  cases hcl <;> simp only <;> refine ⟨hv, ?_, ?_⟩ <;> intros <;> first | omega | trivial

/-! What the memory holds. -/
def pairC (P : List (ByteArray × ByteArray)) : List Value := P.flatMap fun x => [.string x.1, .string x.2]
theorem pairC_len (P : List (ByteArray × ByteArray)) : (pairC P).length = P.length * 2 := by
  induction P with
  | nil => rfl
  | cons a l ih => rw [pairC, List.flatMap_cons, List.length_append, ← pairC, ih]; simp; omega
theorem pairC_app (A B : List (ByteArray × ByteArray)) : pairC (A ++ B) = pairC A ++ pairC B := by simp [pairC]
theorem pairC_one (P : List (ByteArray × ByteArray)) : ∀ u ∈ pairC P, u.oneCell' = true := by
  intro u hu
  obtain ⟨t, _, ht⟩ := List.mem_flatMap.1 hu
  simp only [List.mem_cons, List.not_mem_nil, or_false] at ht
  rcases ht with rfl | rfl <;> rfl
theorem pairC_get : ∀ (P : List (ByteArray × ByteArray)) (i : Nat) (h : i < P.length), (pairC P)[i * 2]? = some (.string P[i].1) ∧ (pairC P)[i * 2 + 1]? = some (.string P[i].2) := by
  intro P
  induction P with
  | nil => intro i h; simp at h
  | cons a l ih =>
    intro i h
    have e : pairC (a :: l) = .string a.1 :: .string a.2 :: pairC l := rfl
    rw [e]
    rcases i with _ | i
    · exact ⟨rfl, rfl⟩
    · have := ih i (by simpa using h)
      rw [show (i + 1) * 2 = i * 2 + 1 + 1 by omega]
      exact this
theorem pairC_set : ∀ (P : List (ByteArray × ByteArray)) (i : Nat) (_ : i < P.length) (x : ByteArray), ∃ P' : List (ByteArray × ByteArray), (pairC P).set (i * 2) (.string x) = pairC P' ∧ P'.length = P.length ∧ ∀ m, (∀ y ∈ P, y.2.size ≤ m) → ∀ y ∈ P', y.2.size ≤ m := by
  intro P
  induction P with
  | nil => intro i h; simp at h
  | cons a l ih =>
    intro i h x
    have e : pairC (a :: l) = .string a.1 :: .string a.2 :: pairC l := rfl
    rw [e]
    rcases i with _ | i
    · refine ⟨(x, a.2) :: l, rfl, rfl, fun m hm y hy => ?_⟩
      rcases List.mem_cons.1 hy with rfl | hy
      · exact hm a (by simp)
      · exact hm y (by simp [hy])
    · obtain ⟨P', h1, h2, h3⟩ := ih i (by simpa using h) x
      refine ⟨a :: P', ?_, by simp [h2], fun m hm y hy => ?_⟩
      · rw [show (i + 1) * 2 = i * 2 + 1 + 1 by omega, List.set_cons_succ, List.set_cons_succ, h1]; rfl
      · rcases List.mem_cons.1 hy with rfl | hy
        · exact hm _ (by simp)
        · exact h3 m (fun y hy => hm y (by simp [hy])) y hy
theorem pairC_set2 : ∀ (P : List (ByteArray × ByteArray)) (i : Nat) (_ : i < P.length) (x : ByteArray), ∃ P' : List (ByteArray × ByteArray), (pairC P).set (i * 2 + 1) (.string x) = pairC P' ∧ P'.length = P.length ∧ ∀ m, (∀ y ∈ P, y.2.size ≤ m) → x.size ≤ m → ∀ y ∈ P', y.2.size ≤ m := by
  intro P
  induction P with
  | nil => intro i h; simp at h
  | cons a l ih =>
    intro i h x
    have e : pairC (a :: l) = .string a.1 :: .string a.2 :: pairC l := rfl
    rw [e]
    rcases i with _ | i
    · refine ⟨(a.1, x) :: l, rfl, rfl, fun m hm hx y hy => ?_⟩
      rcases List.mem_cons.1 hy with rfl | hy
      · exact hx
      · exact hm y (by simp [hy])
    · obtain ⟨P', h1, h2, h3⟩ := ih i (by simpa using h) x
      refine ⟨a :: P', ?_, by simp [h2], fun m hm hx y hy => ?_⟩
      · rw [show (i + 1) * 2 + 1 = i * 2 + 1 + 1 + 1 by omega, List.set_cons_succ, List.set_cons_succ, h1]; rfl
      · rcases List.mem_cons.1 hy with rfl | hy
        · exact hm _ (by simp)
        · exact h3 m (fun y hy => hm y (by simp [hy])) hx y hy
theorem info_pair : (Try.prog.info? 60).map (fun i => (i.zero, i.size, i.bytes)) = some (some (.agg #[.string ⟨#[]⟩, .string ⟨#[]⟩]), 2, 32) := by kernel_rfl
/-- The reader's memory: the tokens, the bytes, the state, the token that is begun with its attributes, and one state more. -/
structure TkG (w : World) (out raw : Value) (L : List TokP) (r : List UInt8) (s : St) (now : Array Value) (pv : Value) (P : List (ByteArray × ByteArray)) (nb : Nat) (s2 : St) (W : World) : Prop where
  o : W.ownsRow w.heap.size 53 4 out L.length (tokPC L)
  on : out.ownBlock ≠ some (w.heap.size + 1 + 1 + 1)
  r : W.ownsRow w.heap.size 5 1 raw r.length (r.map byteV)
  s : W.heap[w.heap.size + 1]? = some (.cells (stC s) 57 (0, 0))
  n : W.heap[w.heap.size + 1 + 1 + 1]? = some (.cells now 53 (0, 0))
  q : W.ownsRow w.heap.size 60 2 pv P.length (pairC P)
  m : W.heap[nb]? = some (.cells (stC s2) 57 (0, 0))
  b : Below w.heap.size w W
section
variable {w W W' : World} {out raw pv : Value} {L : List TokP} {r : List UInt8} {s s2 : St} {now : Array Value} {P : List (ByteArray × ByteArray)} {nb : Nat}
theorem ownG_ne {B k n i : Nat} {e t : TypeId} {v : Value} {l : List Value} {C : Array Value} {fr : Nat × Nat} (own : W.ownsRow B e k v n l) (h : W.heap[i]? = some (.cells C t fr)) (hne : e ≠ t) : v.ownBlock ≠ some i := own_ne own h hne
theorem TkG.home (h : TkG w out raw L r s now pv P nb s2 W) : TkG w out raw L r s now pv P (w.heap.size + 1) s W := ⟨h.o, h.on, h.r, h.s, h.n, h.q, h.s, h.b⟩
theorem TkG.below (h : TkG w out raw L r s now pv P nb s2 W) (hb : Below W.heap.size W W') : TkG w out raw L r s now pv P nb s2 W' :=
  ⟨ownN_below h.o hb, h.on, own_below h.r hb, (hb.block _ (bld_ltS h.s)).trans h.s, (hb.block _ (bld_ltS h.n)).trans h.n, ownN_below h.q hb, (hb.block _ (bld_ltS h.m)).trans h.m, h.b.trans (hb.mono h.b.size)⟩
theorem TkG.fresh (h : TkG w out raw L r s now pv P nb s2 W) (s3 : St) : TkG w out raw L r s now pv P W.heap.size s3 (W.alloc (.cells (stC s3) 57 (0, 0))) := by
  have := h.below ((Below.refl W.heap.size W).alloc (Nat.le_refl _) (.cells (stC s3) 57 (0, 0)))
  exact ⟨this.o, this.on, this.r, this.s, this.n, this.q, heap_alloc_new _ _, this.b⟩
theorem TkG.cells (h : TkG w out raw L r s now pv P nb s2 W) : (W.cell? ⟨w.heap.size + 1, 0, none⟩ = some (.int .i64 (s.M : Int)) ∧ W.cell? ⟨w.heap.size + 1, 1, none⟩ = some (.string (mkS s.T)) ∧ W.cell? ⟨w.heap.size + 1, 2, none⟩ = some (.string (mkS s.A)) ∧ W.cell? ⟨w.heap.size + 1, 3, none⟩ = some (.bool s.E)) ∧
    (W.cell? ⟨nb, 0, none⟩ = some (.int .i64 (s2.M : Int)) ∧ W.cell? ⟨nb, 1, none⟩ = some (.string (mkS s2.T)) ∧ W.cell? ⟨nb, 2, none⟩ = some (.string (mkS s2.A)) ∧ W.cell? ⟨nb, 3, none⟩ = some (.bool s2.E)) ∧
    (W.frozen? ⟨w.heap.size + 1, 0, none⟩ = false ∧ W.frozen? ⟨w.heap.size + 1, 1, none⟩ = false ∧ W.frozen? ⟨w.heap.size + 1, 2, none⟩ = false ∧ W.frozen? ⟨w.heap.size + 1, 3, none⟩ = false) :=
  ⟨st_cells h.s, st_cells h.m, row_frozen h.s 0, row_frozen h.s 1, row_frozen h.s 2, row_frozen h.s 3⟩
theorem TkG.nows {x0 x1 x2 x3 : Value} (h : TkG w out raw L r s #[x0, x1, x2, x3] pv P nb s2 W) : (W.cell? ⟨w.heap.size + 1 + 1 + 1, 0, none⟩ = some x0 ∧ W.cell? ⟨w.heap.size + 1 + 1 + 1, 1, none⟩ = some x1 ∧ W.cell? ⟨w.heap.size + 1 + 1 + 1, 2, none⟩ = some x2 ∧ W.cell? ⟨w.heap.size + 1 + 1 + 1, 3, none⟩ = some x3) ∧
    (W.frozen? ⟨w.heap.size + 1 + 1 + 1, 0, none⟩ = false ∧ W.frozen? ⟨w.heap.size + 1 + 1 + 1, 1, none⟩ = false ∧ W.frozen? ⟨w.heap.size + 1 + 1 + 1, 2, none⟩ = false ∧ W.frozen? ⟨w.heap.size + 1 + 1 + 1, 3, none⟩ = false) := by
  refine ⟨⟨?_, ?_, ?_, ?_⟩, row_frozen h.n 0, row_frozen h.n 1, row_frozen h.n 2, row_frozen h.n 3⟩ <;> (rw [cell_of_row W _ _ _ _ _ h.n]; rfl)
theorem TkG.setS (h : TkG w out raw L r s now pv P nb s2 W) (s3 : St) (hnb : nb ≠ w.heap.size + 1) :
    TkG w out raw L r s3 now pv P nb s2 ((((W.setCell ⟨w.heap.size + 1, 0, none⟩ (.int .i64 (s3.M : Int))).setCell ⟨w.heap.size + 1, 1, none⟩ (.string (mkS s3.T))).setCell ⟨w.heap.size + 1, 2, none⟩ (.string (mkS s3.A))).setCell ⟨w.heap.size + 1, 3, none⟩ (.bool s3.E)) := by
  have hg := grown_setCell (grown_setCell (grown_setCell (grown_setCell (grown_refl W (some (w.heap.size + 1))) 0 (.int .i64 (s3.M : Int))) 1 (.string (mkS s3.T))) 2 (.string (mkS s3.A))) 3 (.bool s3.E)
  refine ⟨ownN_other h.o hg (fun q hq e => own_ne h.o h.s (by decide) (by rw [hq, e])), h.on, own_other h.r hg (fun q hq e => own_ne h.r h.s (by decide) (by rw [hq, e])), ?_, ?_, ownN_other h.q hg (fun q hq e => own_ne h.q h.s (by decide) (by rw [hq, e])), ?_, ?_⟩
  · exact heap_setCell_same _ _ 3 _ _ _ (heap_setCell_same _ _ 2 _ _ _ (heap_setCell_same _ _ 1 _ _ _ (heap_setCell_same _ _ 0 _ _ _ h.s)))
  · rw [hg.block _ (bld_ltS h.n) (by intro e; injection e with e; omega)]; exact h.n
  · rw [hg.block _ (bld_ltS h.m) (by intro e; injection e with e; exact hnb e)]; exact h.m
  · exact (((h.b.setCell (p := ⟨w.heap.size + 1, 0, none⟩) (Nat.le_succ _) _).setCell (p := ⟨w.heap.size + 1, 1, none⟩) (Nat.le_succ _) _).setCell (p := ⟨w.heap.size + 1, 2, none⟩) (Nat.le_succ _) _).setCell (p := ⟨w.heap.size + 1, 3, none⟩) (Nat.le_succ _) _
theorem TkG.setN (h : TkG w out raw L r s now pv P nb s2 W) (hnb : nb ≠ w.heap.size + 1 + 1 + 1) (i : Nat) (x : Value) : TkG w out raw L r s (now.setIfInBounds i x) pv P nb s2 (W.setCell ⟨w.heap.size + 1 + 1 + 1, i, none⟩ x) := by
  have hg := grown_setCell (grown_refl W (some (w.heap.size + 1 + 1 + 1))) i x
  refine ⟨ownN_other h.o hg (fun q hq e => h.on (by rw [hq, e])), h.on, own_other h.r hg (fun q hq e => own_ne h.r h.n (by decide) (by rw [hq, e])), ?_, ?_, ownN_other h.q hg (fun q hq e => own_ne h.q h.n (by decide) (by rw [hq, e])), ?_, ?_⟩
  · rw [hg.block _ (bld_ltS h.s) (by intro e; injection e with e; omega)]; exact h.s
  · exact heap_setCell_same _ _ i _ _ _ h.n
  · rw [hg.block _ (bld_ltS h.m) (by intro e; injection e with e; exact hnb e)]; exact h.m
  · exact h.b.setCell (p := ⟨w.heap.size + 1 + 1 + 1, i, none⟩) (by show w.heap.size ≤ w.heap.size + 1 + 1 + 1; omega) _
theorem TkG.setN1 {x0 x1 x2 x3 : Value} (h : TkG w out raw L r s #[x0, x1, x2, x3] pv P nb s2 W) (hnb : nb ≠ w.heap.size + 1 + 1 + 1) (y : Value) : TkG w out raw L r s #[x0, y, x2, x3] pv P nb s2 (W.setCell ⟨w.heap.size + 1 + 1 + 1, 1, none⟩ y) := h.setN hnb 1 y
theorem TkG.setN3 {x0 x1 x2 x3 : Value} (h : TkG w out raw L r s #[x0, x1, x2, x3] pv P nb s2 W) (hnb : nb ≠ w.heap.size + 1 + 1 + 1) (y : Value) : TkG w out raw L r s #[x0, x1, x2, y] pv P nb s2 (W.setCell ⟨w.heap.size + 1 + 1 + 1, 3, none⟩ y) := h.setN hnb 3 y
theorem TkG.setN4 {x0 x1 x2 x3 : Value} (h : TkG w out raw L r s #[x0, x1, x2, x3] pv P nb s2 W) (hnb : nb ≠ w.heap.size + 1 + 1 + 1) (y0 y1 y2 y3 : Value) : TkG w out raw L r s #[y0, y1, y2, y3] pv P nb s2 ((((W.setCell ⟨w.heap.size + 1 + 1 + 1, 0, none⟩ y0).setCell ⟨w.heap.size + 1 + 1 + 1, 1, none⟩ y1).setCell ⟨w.heap.size + 1 + 1 + 1, 2, none⟩ y2).setCell ⟨w.heap.size + 1 + 1 + 1, 3, none⟩ y3) :=
  (((h.setN hnb 0 y0).setN hnb 1 y1).setN hnb 2 y2).setN hnb 3 y3
theorem TkG.tok (h : TkG w out raw L r s now pv P nb s2 W) {out' : Value} {t : TokP} (own : W'.ownsRow w.heap.size 53 4 out' (L.length + 1) (tokPC (L ++ [t]))) (hg : W.grownBy W' out.ownBlock) (hat : out'.ownBlock = out.ownBlock ∨ ∃ k, out'.ownBlock = some k ∧ W.heap.size ≤ k) : TkG w out' raw (L ++ [t]) r s now pv P nb s2 W' := by
  refine ⟨by rw [List.length_append]; exact own, ?_, own_other h.r hg (fun q hq e => ownN_types_ne (k := 1) (k' := 4) h.r h.o (by decide) q hq e), ?_, ?_, ownN_other h.q hg (fun q hq e => ownN_types_ne h.q h.o (by decide) q hq e), ?_, ?_⟩
  · rcases hat with e | ⟨k, e, hk⟩
    · rw [e]; exact h.on
    · rw [e]; intro e2; injection e2 with e2; have := bld_ltS h.n; omega
  · rw [hg.block _ (bld_ltS h.s) (fun e => own_ne h.o h.s (by decide) e.symm)]; exact h.s
  · rw [hg.block _ (bld_ltS h.n) (fun e => h.on e.symm)]; exact h.n
  · rw [hg.block _ (bld_ltS h.m) (fun e => own_ne h.o h.m (by decide) e.symm)]; exact h.m
  · exact h.b.grown hg h.b.size (fun q hq => (ownN_ge h.o q hq).1)
theorem TkG.byte (h : TkG w out raw L r s now pv P nb s2 W) {raw' : Value} {b : UInt8} (own : W'.ownsRow w.heap.size 5 1 raw' (r.length + 1) ((r ++ [b]).map byteV)) (hg : W.grownBy W' raw.ownBlock) : TkG w out raw' L (r ++ [b]) s now pv P nb s2 W' := by
  refine ⟨ownN_other h.o hg (fun q hq e => ownN_types_ne (k := 4) (k' := 1) h.o h.r (by decide) q hq e), h.on, by rw [List.length_append]; exact own, ?_, ?_, ownN_other h.q hg (fun q hq e => ownN_types_ne (k := 2) (k' := 1) h.q h.r (by decide) q hq e), ?_, ?_⟩
  · rw [hg.block _ (bld_ltS h.s) (fun e => own_ne h.r h.s (by decide) e.symm)]; exact h.s
  · rw [hg.block _ (bld_ltS h.n) (fun e => own_ne h.r h.n (by decide) e.symm)]; exact h.n
  · rw [hg.block _ (bld_ltS h.m) (fun e => own_ne h.r h.m (by decide) e.symm)]; exact h.m
  · exact h.b.grown hg h.b.size (fun q hq => (own_ge h.r q hq).1)
theorem TkG.drop (h : TkG w out raw L r s now pv P nb s2 W) : TkG w out (.slice none 0 0) L [] s now pv P nb s2 W := ⟨h.o, h.on, World.ownsRow_nil _ _ _ _, h.s, h.n, h.q, h.m, h.b⟩
theorem TkG.dropP (h : TkG w out raw L r s now pv P nb s2 W) : TkG w out raw L r s now (.slice none 0 0) [] nb s2 W := ⟨h.o, h.on, h.r, h.s, h.n, World.ownsRow_nil _ _ _ _, h.m, h.b⟩
/-- The attributes' row grows, or is written. -/
theorem TkG.pair (h : TkG w out raw L r s now pv P nb s2 W) {pv' : Value} {P' : List (ByteArray × ByteArray)} (own : W'.ownsRow w.heap.size 60 2 pv' P'.length (pairC P')) (hg : W.grownBy W' pv.ownBlock) : TkG w out raw L r s now pv' P' nb s2 W' := by
  refine ⟨ownN_other h.o hg (fun q hq e => ownN_types_ne h.o h.q (by decide) q hq e), h.on, own_other h.r hg (fun q hq e => ownN_types_ne (k := 1) (k' := 2) h.r h.q (by decide) q hq e), ?_, ?_, own, ?_, ?_⟩
  · rw [hg.block _ (bld_ltS h.s) (fun e => own_ne h.q h.s (by decide) e.symm)]; exact h.s
  · rw [hg.block _ (bld_ltS h.n) (fun e => own_ne h.q h.n (by decide) e.symm)]; exact h.n
  · rw [hg.block _ (bld_ltS h.m) (fun e => own_ne h.q h.m (by decide) e.symm)]; exact h.m
  · exact h.b.grown hg h.b.size (fun q hq => (ownN_ge h.q q hq).1)
end
/-- One token more, with all that its append tells. -/
theorem wpList_pushTokP {wr : World} {ops : Array Oper} {rest : List Oper} {o : Oper} {a : Act} {Q : Exit → Act → World → Prop} (s x : Operand) (B : Nat) (t : TokP) (v : Value) (n : Nat) (acc : List TokP)
    (own : wr.ownsRow B 53 4 v n (tokPC acc)) (hB : B ≤ wr.heap.size) (hsz : n ≤ 1099511627776) (hgd : o.guard = none)
    (ho : o.op = .call { callee := .builtin .append, args := #[s, x], argTypes := #[34, 34] }) (hs : a.eval s = v) (H : Nat) (hH : wr.heap.size = H) (hx : a.eval x = .slice (some ⟨H, 0, none⟩) 1 1)
    (h : ∀ v' w', w'.ownsRow B 53 4 v' (n + 1) (tokPC (acc ++ [t])) → wr.grownBy w' v.ownBlock → (v'.ownBlock = v.ownBlock ∨ ∃ k, v'.ownBlock = some k ∧ wr.heap.size ≤ k) → wpList Try.prog ops Q rest (a.put o.dst v') w') :
    wpList Try.prog ops Q (o :: rest) a (wr.alloc (.cells #[.int .i64 (t.K : Int), .string t.N, .string t.V, .slice t.a t.p t.c] 53 (0, 0))) := by
  subst hH
  obtain ⟨i0, hi, hz0, hz1, hz2⟩ := info_parts info_tok
  have hal : Below wr.heap.size wr (wr.alloc (.cells #[.int .i64 (t.K : Int), .string t.N, .string t.V, .slice t.a t.p t.c] 53 (0, 0))) := (Below.refl _ _).alloc (Nat.le_refl _) _
  refine wpList_append_own_at _ hgd s x _ ho B 53 i0 _ 4 64 Try.underlying34 hi hz0 hz1 hz2 rfl (by omega) v n (tokPC acc) hs (ownN_below own hal) ⟨wr.heap.size, 0, none⟩ 1 1 (tokPC [t]) hx rfl (fun j u hu => ?_) (tokPC_one [t]) (by simp only [maxLen]; omega) (by omega) (by simp; omega) ?_
  · have e : (⟨wr.heap.size, 0, none⟩ : Addr).add j = ⟨wr.heap.size, j, none⟩ := by unfold Addr.add; split <;> simp_all
    rw [e, World.cell?_alloc_mark]
    rw [← hu]
    rcases j with _ | _ | _ | _ | j <;> rfl
  · intro v' w' o' g' _ hat
    refine h v' w' (by rw [tokPC_app]; exact o') ((World.grownBy_alloc _ _ _).trans g') ?_
    rcases hat with e | e
    · exact .inl e
    · exact .inr ⟨_, e, by simp⟩
/-- One attribute more. -/
theorem wpList_pushPair {wr : World} {ops : Array Oper} {rest : List Oper} {o : Oper} {a : Act} {Q : Exit → Act → World → Prop} (s x : Operand) (B : Nat) (t : ByteArray × ByteArray) (v : Value) (n : Nat) (acc : List (ByteArray × ByteArray))
    (own : wr.ownsRow B 60 2 v n (pairC acc)) (hB : B ≤ wr.heap.size) (hsz : n ≤ 1099511627776) (hgd : o.guard = none)
    (ho : o.op = .call { callee := .builtin .append, args := #[s, x], argTypes := #[51, 51] }) (hs : a.eval s = v) (H : Nat) (hH : wr.heap.size = H) (hx : a.eval x = .slice (some ⟨H, 0, none⟩) 1 1)
    (h : ∀ v' w', w'.ownsRow B 60 2 v' (n + 1) (pairC (acc ++ [t])) → wr.grownBy w' v.ownBlock → wpList Try.prog ops Q rest (a.put o.dst v') w') :
    wpList Try.prog ops Q (o :: rest) a (wr.alloc (.cells #[.string t.1, .string t.2] 60 (0, 0))) := by
  subst hH
  obtain ⟨i0, hi, hz0, hz1, hz2⟩ := info_parts info_pair
  have hal : Below wr.heap.size wr (wr.alloc (.cells #[.string t.1, .string t.2] 60 (0, 0))) := (Below.refl _ _).alloc (Nat.le_refl _) _
  refine wpList_append_own_at _ hgd s x _ ho B 60 i0 _ 2 32 Try.underlying51 hi hz0 hz1 hz2 rfl (by omega) v n (pairC acc) hs (ownN_below own hal) ⟨wr.heap.size, 0, none⟩ 1 1 (pairC [t]) hx rfl (fun j u hu => ?_) (pairC_one [t]) (by simp only [maxLen]; omega) (by omega) (by simp; omega) ?_
  · have e : (⟨wr.heap.size, 0, none⟩ : Addr).add j = ⟨wr.heap.size, j, none⟩ := by unfold Addr.add; split <;> simp_all
    rw [e, World.cell?_alloc_mark]
    rw [← hu]
    rcases j with _ | _ | j <;> rfl
  · intro v' w' o' g' _ _
    exact h v' w' (by rw [pairC_app]; exact o') ((World.grownBy_alloc _ _ _).trans g')
/-- An owned row of attributes that is not empty: where it lies, and a cell of it. -/
theorem pair_at {w : World} {B n : Nat} {v : Value} {P : List (ByteArray × ByteArray)} (h : w.ownsRow B 60 2 v n (pairC P)) (hn : P.length = n) (h0 : 0 < n) :
    ∃ g c, v = .slice (some ⟨g, 0, none⟩) n c ∧ B ≤ g ∧ g < w.heap.size ∧ n ≤ c ∧ c ≤ 9223372036854775807 ∧ (∀ j, w.frozen? ⟨g, j, none⟩ = false) ∧
      ∀ i (hi : i < P.length), w.cell? ⟨g, i * 2, none⟩ = some (.string P[i].1) ∧ w.cell? ⟨g, i * 2 + 1, none⟩ = some (.string P[i].2) := by
  have h' := h
  obtain ⟨hl, h⟩ := h
  rcases h with ⟨rfl, e⟩ | ⟨g, cap, cur, rfl, hB, hg, hn1, hm, hs, ht⟩
  · omega
  · have hlt : g < w.heap.size := (Array.getElem?_eq_some_iff.1 hg).1
    refine ⟨g, cap, rfl, hB, hlt, hn1, by simpa [maxLen] using hm, fun j => h'.frozenAt j, fun i hi => ?_⟩
    have hpl := pairC_len P
    obtain ⟨k1, k2⟩ := pairC_get P i hi
    exact ⟨(h'.cellAt _ (by omega)).trans k1, (h'.cellAt _ (by omega)).trans k2⟩
end Go.Proofs.Ytdoomfckdjjlaaa
