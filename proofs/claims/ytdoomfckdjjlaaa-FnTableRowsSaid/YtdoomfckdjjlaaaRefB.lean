/- Joined texts (TkR, UneS, Reg2, L6, TkS, TRR, MarkT). -/
import Derived.Test.YtdoomfckdjjlaaaTkG
import Derived.Test.YtdoomfckdjjlaaaUne
import Derived.Test.YtdoomfckdjjlaaaRefA
import Derived.Test.YtdoomfckdjjlaaaReg
import Derived.Test.YtdoomfckdjjlaaaHost
import Derived.Deep.AppendLies
import Derived.ArgAppend
import Derived.Deep.Upon
import Derived.Test.YtdoomfckdjjlaaaTRI
import Derived.Test.YtdoomfckdjjlaaaLawTokX
import Derived.Test.YtdoomfckdjjlaaaTabC
import Derived.Test.YtdoomfckdjjlaaaTRP

/-! Reading markup: the reference's reader plainly; it answers as the program's does. -/
namespace Go.Proofs.Ytdoomfckdjjlaaa
open Go.RowKit

structure CfR where
  out : List (Tok × Nat)
  s : St
  buf : List UInt8
  p : Nat
def putR (o : List (Tok × Nat)) (K : Nat) (V : List UInt8) : List (Tok × Nat) := if V = [] then o else o ++ [(tx K [] V, 0)]
/-- The attributes' number behind a byte that closes one, if the state is in one. -/
def clR (M p : Nat) : Nat := if 4 ≤ M ∧ M ≤ 8 then p + 1 else p
/-- A round, before the numbers are looked at. -/
inductive RawStep : CfR → UInt8 → CfR → Prop
  | less {d b} : d.s.M = 0 → (stepM d.s b).M = 1 → RawStep d b ⟨putR d.out 1 (unescR d.buf), stepM d.s b, [], 0⟩
  | text {d b} : d.s.M = 0 → (stepM d.s b).M = 0 → RawStep d b ⟨d.out, stepM d.s b, d.buf ++ [b], d.p⟩
  | open1 {d b} : d.s.M = 1 → (stepM d.s b).E = false → RawStep d b ⟨d.out, stepM d.s b, d.buf, d.p⟩
  | said {d b} : d.s.M = 10 → (stepM d.s b).M = 0 → RawStep d b ⟨d.out ++ [(tx 4 [] d.buf, 0)], stepM d.s b, [], d.p⟩
  | say {d b} : d.s.M = 10 → (stepM d.s b).M ≠ 0 → RawStep d b ⟨d.out, stepM d.s b, d.buf ++ [b], d.p⟩
  | fin {d b} : d.s.M = 9 → (stepM d.s b).M = 0 → RawStep d b ⟨d.out ++ [(tx 3 d.s.T [], 0)], stepM d.s b, [], d.p⟩
  | name {d b} : d.s.M = 9 → (stepM d.s b).M ≠ 0 → (stepM d.s b).E = false → RawStep d b ⟨d.out, stepM d.s b, d.buf, d.p⟩
  | close {d b} : 2 ≤ d.s.M → d.s.M ≤ 8 → (stepM d.s b).M = 0 ∨ (stepM d.s b).M = 11 → RawStep d b ⟨d.out ++ [(tx 2 d.s.T [], clR d.s.M d.p)], stepM d.s b, [], clR d.s.M d.p⟩
  | sep {d b} : 2 ≤ d.s.M → d.s.M ≤ 8 → (stepM d.s b).M = 3 → RawStep d b ⟨d.out, stepM d.s b, [], clR d.s.M d.p⟩
  | val {d b} : 2 ≤ d.s.M → d.s.M ≤ 8 → (stepM d.s b).M ≠ 0 → (stepM d.s b).M ≠ 11 → (stepM d.s b).M ≠ 3 → (stepM d.s b).E = true → RawStep d b ⟨d.out, stepM d.s b, d.buf ++ [b], d.p⟩
  | rest {d b} : 2 ≤ d.s.M → d.s.M ≤ 8 → (stepM d.s b).M ≠ 0 → (stepM d.s b).M ≠ 11 → (stepM d.s b).M ≠ 3 → (stepM d.s b).E = false → RawStep d b ⟨d.out, stepM d.s b, d.buf, d.p⟩
  | ends {d b} : d.s.M = 14 → (stepM d.s b).M = 9 → RawStep d b ⟨putR d.out 5 d.buf.dropLast, stepM d.s b, [], d.p⟩
  | less2 {d b} : d.s.M = 14 → (stepM d.s b).M ≠ 9 → RawStep d b ⟨d.out, stepM d.s b, d.buf ++ [b], d.p⟩
  | code {d b} : 11 ≤ d.s.M → d.s.M ≤ 13 → RawStep d b ⟨d.out, stepM d.s b, d.buf ++ [b], d.p⟩
  | bad {d b} : d.s.M = 15 → (stepM d.s b).E = false → RawStep d b ⟨d.out, stepM d.s b, d.buf, d.p⟩
def rawR (d : CfR) (b : UInt8) : CfR :=
  if d.s.M = 0 then (if (stepM d.s b).M = 1 then ⟨putR d.out 1 (unescR d.buf), stepM d.s b, [], 0⟩ else ⟨d.out, stepM d.s b, d.buf ++ [b], d.p⟩)
  else if d.s.M = 10 then (if (stepM d.s b).M = 0 then ⟨d.out ++ [(tx 4 [] d.buf, 0)], stepM d.s b, [], d.p⟩ else ⟨d.out, stepM d.s b, d.buf ++ [b], d.p⟩)
  else if d.s.M = 9 then (if (stepM d.s b).M = 0 then ⟨d.out ++ [(tx 3 d.s.T [], 0)], stepM d.s b, [], d.p⟩ else ⟨d.out, stepM d.s b, d.buf, d.p⟩)
  else if 2 ≤ d.s.M ∧ d.s.M ≤ 8 then
    (if (stepM d.s b).M = 0 ∨ (stepM d.s b).M = 11 then ⟨d.out ++ [(tx 2 d.s.T [], clR d.s.M d.p)], stepM d.s b, [], clR d.s.M d.p⟩
     else if (stepM d.s b).M = 3 then ⟨d.out, stepM d.s b, [], clR d.s.M d.p⟩
     else if (stepM d.s b).E = true then ⟨d.out, stepM d.s b, d.buf ++ [b], d.p⟩ else ⟨d.out, stepM d.s b, d.buf, d.p⟩)
  else if d.s.M = 14 then (if (stepM d.s b).M = 9 then ⟨putR d.out 5 d.buf.dropLast, stepM d.s b, [], d.p⟩ else ⟨d.out, stepM d.s b, d.buf ++ [b], d.p⟩)
  else if 11 ≤ d.s.M ∧ d.s.M ≤ 13 then ⟨d.out, stepM d.s b, d.buf ++ [b], d.p⟩
  else ⟨d.out, stepM d.s b, d.buf, d.p⟩
def stepQ (d : CfR) (b : UInt8) : Option CfR := if 60 < (rawR d b).out.length ∨ 60 < (rawR d b).p then none else some (rawR d b)
def runR : CfR → List UInt8 → Option CfR
  | d, [] => some d
  | d, b :: r => (stepQ d b).bind fun d' => runR d' r
theorem runR_app : ∀ (A B : List UInt8) (d : CfR), runR d (A ++ B) = (runR d A).bind fun d' => runR d' B := by
  intro A
  induction A with
  | nil => intro B c; rfl
  | cons a A ih =>
    intro B c
    rw [List.cons_append, runR, runR]
    cases stepQ c a with
    | none => rfl
    | some c' => exact ih B c'
def cr0 : CfR := ⟨[], zeroS, [], 0⟩
def endO (d : CfR) : List (Tok × Nat) := putR d.out 1 (unescR d.buf)
def endR (d : CfR) : Option (List (Tok × Nat)) := if d.s.M = 0 ∧ (endO d).length ≤ 60 then some (endO d) else none
/-- What Tokenize of the reference answers. -/
def tokR2 (l : List UInt8) : Option (List (Tok × Nat)) := if textB l = true then (runR cr0 l).bind endR else none
theorem runR_next {s : ByteArray} {d : CfR} {k : Nat} (hk : k < s.size) (hs : runR cr0 ((bl s).take k) = some d) : runR cr0 ((bl s).take (k + 1)) = stepQ d s[k] := by
  rw [bl_take s k hk, runR_app, hs, Option.bind_some]
  show (stepQ d s[k]).bind (fun c' => some c') = _
  cases stepQ d s[k] <;> rfl
theorem runR_none {s : ByteArray} {k : Nat} (h : runR cr0 ((bl s).take k) = none) : runR cr0 (bl s) = none := by
  have e : bl s = (bl s).take k ++ (bl s).drop k := (List.take_append_drop _ _).symm
  rw [e, runR_app, h]; rfl
/-! Where the modes lead. -/
theorem to_0 {s : St} (h : s.M = 0) (b : UInt8) : (stepM s b).M = 0 ∨ (stepM s b).M = 1 := by
  unfold stepM
  rw [if_pos h]
  split <;> simp [h]
theorem to_1 {s : St} (h : s.M = 1) (b : UInt8) : ((stepM s b).M = 2 ∨ (stepM s b).M = 9 ∨ (stepM s b).M = 10 ∨ (stepM s b).M = 15) ∧ (stepM s b).E = false := by
  unfold stepM
  rw [if_neg (by omega), if_pos h]
  split
  · simp
  · split
    · simp
    · split <;> simp [badS]
theorem to_9 {s : St} (h : s.M = 9) (hE : s.E = false) (b : UInt8) : ((stepM s b).M = 0 ∨ (stepM s b).M = 9 ∨ (stepM s b).M = 15) ∧ (stepM s b).E = false := by
  unfold stepM
  rw [if_neg (by omega), if_neg (by omega), if_neg (by omega), if_neg (by omega), if_neg (by omega), if_neg (by omega), if_pos h]
  split
  · simp [zeroS]
  · split
    · unfold longT
      split
      · simp [badS]
      · simp [h, hE]
    · simp [badS]
theorem to_10 {s : St} (h : s.M = 10) (b : UInt8) : (stepM s b).M = 0 ∨ (stepM s b).M = 10 := by
  unfold stepM
  rw [if_neg (by omega), if_neg (by omega), if_neg (by omega), if_neg (by omega), if_neg (by omega), if_neg (by omega), if_neg (by omega), if_pos h]
  split <;> simp [zeroS, h]
theorem to_11 {s : St} (h : 11 ≤ s.M) (h2 : s.M ≤ 14) (b : UInt8) : (stepM s b).M = 15 ∨ (11 ≤ (stepM s b).M ∧ (stepM s b).M ≤ 14 ∧ ((stepM s b).M = 14 → b = 60)) ∨ (s.M = 14 ∧ (stepM s b).M = 9) := by
  unfold stepM
  rw [if_neg (by omega), if_neg (by omega), if_neg (by omega), if_neg (by omega), if_neg (by omega), if_neg (by omega), if_neg (by omega), if_neg (by omega)]
  split
  · split
    · simp [*]
    · split
      · simp
      · split
        · simp [*]
        · simp
  · split
    · split
      · simp
      · split
        · simp
        · split
          · simp [badS]
          · simp [*]
    · split
      · split
        · simp [badS]
        · simp
      · simp [badS]
theorem to_15 {s : St} (h : s.M = 15) (b : UInt8) : stepM s b = badS := by
  unfold stepM
  rw [if_neg (by omega), if_neg (by omega), if_neg (by omega), if_neg (by omega), if_neg (by omega), if_neg (by omega), if_neg (by omega), if_neg (by omega), if_neg (by omega), if_neg (by omega), if_neg (by omega)]
theorem to_2 {s : St} (h : 2 ≤ s.M) (h2 : s.M ≤ 8) (b : UInt8) (hn : (stepM s b).M = 2) : s.M = 2 := by
  obtain ⟨M, T, A, E⟩ := s
  simp only at h h2 ⊢
  by_cases hM : M = 2
  · exact hM
  exfalso
  revert hn
  have hl : ∀ X : St, X.M ≠ 2 → (longA X b).M ≠ 2 := fun X hX => by
    unfold longA
    split
    · simp [badS]
    · exact hX
  unfold stepM
  rcases (show M = 3 ∨ M = 4 ∨ M = 5 ∨ M = 6 ∨ M = 7 ∨ M = 8 by omega) with rfl | rfl | rfl | rfl | rfl | rfl
  all_goals simp only [Nat.reduceEqDiff, if_true, if_false, or_self, or_true, or_false, tagM]
  all_goals repeat' split
  all_goals first | (simp [zeroS, badS]; done) | exact hl _ (by simp)
theorem E_plain {s : St} (h : stValid s = true) (hM : s.M < 6 ∨ 8 < s.M) : s.E = false := by
  obtain ⟨_, _, _, h4⟩ := val_parts h
  exact stSeen_no h4 (by omega)
theorem rawR_class {d : CfR} (hv : stValid d.s = true) (b : UInt8) : RawStep d b (rawR d b) := by
  have hM15 := (val_parts hv).1
  unfold rawR
  split
  · rename_i h0
    split
    · rename_i h; exact .less h0 h
    · rename_i h
      exact .text h0 (by rcases to_0 h0 b with h | h <;> omega)
  split
  · rename_i h0
    split
    · rename_i h; exact .said h0 h
    · rename_i h; exact .say h0 h
  split
  · rename_i h0
    split
    · rename_i h; exact .fin h0 h
    · rename_i h; exact .name h0 h (to_9 h0 (E_plain hv (by omega)) b).2
  split
  · rename_i h0
    split
    · rename_i h; exact .close h0.1 h0.2 h
    split
    · rename_i h; exact .sep h0.1 h0.2 h
    · rename_i h1 h2
      split
      · rename_i h; exact .val h0.1 h0.2 (fun e => h1 (.inl e)) (fun e => h1 (.inr e)) h2 h
      · rename_i h; exact .rest h0.1 h0.2 (fun e => h1 (.inl e)) (fun e => h1 (.inr e)) h2 (by simpa using h)
  split
  · rename_i h0
    split
    · rename_i h; exact .ends h0 h
    · rename_i h; exact .less2 h0 h
  split
  · rename_i h0; exact .code h0.1 h0.2
  · by_cases h1 : d.s.M = 1
    · exact .open1 h1 (to_1 h1 b).2
    · have h15 : d.s.M = 15 := by omega
      exact .bad h15 (by rw [to_15 h15]; rfl)
theorem rawR_s (d : CfR) (b : UInt8) : (rawR d b).s = stepM d.s b := by
  unfold rawR
  repeat' split
  all_goals rfl
/-! The two readers side by side. -/
theorem unescF_ne : ∀ (f : Nat) (l : List UInt8), l ≠ [] → 0 < f → unescF f l ≠ [] := by
  intro f l hl hf
  obtain ⟨f, rfl⟩ : ∃ g, f = g + 1 := ⟨f - 1, by omega⟩
  cases l with
  | nil => exact absurd rfl hl
  | cons x r => rw [unescF]; split <;> simp
theorem unescR_ne {l : List UInt8} (h : l ≠ []) : unescR l ≠ [] := unescF_ne _ _ h (List.length_pos_iff.2 h)
theorem put_flush (c : CfI) : putR c.out 1 (unescR c.raw) = flushI c := by
  unfold putR flushI
  by_cases h : c.raw = []
  · rw [h, if_pos (show unescR [] = [] from rfl), if_pos rfl]
  · rw [if_neg h, if_neg (unescR_ne h)]
structure RelC (c : CfI) (d : CfR) : Prop where
  out : d.out = c.out
  s : d.s = c.s
  val : stValid c.s = true
  buf : c.s.M < 2 ∨ 9 ≤ c.s.M → d.buf = c.raw
  raw : 1 ≤ c.s.M → c.s.M ≤ 9 → c.raw = []
  p1 : c.s.M = 1 → d.p = 0
  p2 : 2 ≤ c.s.M → c.s.M ≤ 3 → d.p = c.p
  p4 : 4 ≤ c.s.M → c.s.M ≤ 8 → d.p + 1 = c.p
  p0 : c.s.M < 2 ∨ 8 < c.s.M → c.p = 0
  le : d.p ≤ 60
def finI (c : CfI) (l : List UInt8) : Option (List (Tok × Nat)) := (runI c l).bind endI
def finR (d : CfR) (l : List UInt8) : Option (List (Tok × Nat)) := (runR d l).bind endR
theorem finI_cons (c : CfI) (b : UInt8) (l : List UInt8) : finI c (b :: l) = (stepI c b).bind fun c' => finI c' l := by
  unfold finI
  rw [runI]
  cases stepI c b <;> rfl
theorem finR_cons (d : CfR) (b : UInt8) (l : List UInt8) : finR d (b :: l) = (stepQ d b).bind fun d' => finR d' l := by
  unfold finR
  rw [runR]
  cases stepQ d b <;> rfl
theorem fin_bad : ∀ (l : List UInt8) (d : CfR), d.s.M = 15 → finR d l = none := by
  intro l
  induction l with
  | nil =>
    intro d h
    show endR d = none
    unfold endR
    rw [if_neg (by omega)]
  | cons b l ih =>
    intro d h
    rw [finR_cons]
    unfold stepQ
    split
    · rfl
    · rw [Option.bind_some]
      exact ih _ (by rw [rawR_s, to_15 h]; rfl)
theorem stepI_out {c c' : CfI} {b : UInt8} (h : stepI c b = some c') : c.out.length ≤ c'.out.length := by
  have hf : c.out.length ≤ (flushI c).length := by unfold flushI; split <;> simp
  have hcl := stepI_class c b
  rw [h] at hcl
  cases hcl <;> simp <;> exact hf
theorem fin_long : ∀ (l : List UInt8) (c : CfI), 60 < c.out.length → finI c l = none := by
  intro l
  induction l with
  | nil =>
    intro c h
    have hf : c.out.length ≤ (flushI c).length := by unfold flushI; split <;> simp
    show endI c = none
    unfold endI
    rw [if_neg (by omega)]
  | cons b l ih =>
    intro c h
    rw [finI_cons]
    cases hs : stepI c b with
    | none => rfl
    | some c' => exact ih c' (by have := stepI_out hs; omega)
theorem fin_many : ∀ (l : List UInt8) (c : CfI), stValid c.s = true → 2 ≤ c.s.M → c.s.M ≤ 8 → 60 < c.p → finI c l = none := by
  intro l
  induction l with
  | nil =>
    intro c _ h2 _ _
    show endI c = none
    unfold endI
    rw [if_neg (by omega)]
  | cons b l ih =>
    intro c hv h2 h8 hp
    rw [finI_cons]
    have hw := (step_from hv b).2.2.1 h2 h8
    have hv2 := stepM_valid hv b
    unfold stepI
    rw [if_neg (show ¬ c.s.M = 0 by omega), if_neg (show ¬ c.s.M = 1 by omega), if_neg (show ¬ c.s.M = 9 by omega), if_neg (show ¬ c.s.M = 10 by omega), if_neg (show ¬ 11 ≤ c.s.M by omega)]
    split
    · rfl
    split
    · first | rfl | (rw [if_pos hp]; rfl)
    split
    · rw [Option.bind_some]
      exact ih _ hv2 (by simp only; omega) (by simp only; omega) (by simp only; omega)
    · rw [Option.bind_some]
      exact ih _ hv2 (by simp only; omega) (by simp only; omega) (by simp only; omega)
/-- What a round of both makes of related readers. -/
theorem rel_step {c : CfI} {d : CfR} (h : RelC c d) (h15 : c.s.M ≠ 15) (b : UInt8) :
    ((∃ c', stepI c b = some c' ∧ ((∃ d', stepQ d b = some d' ∧ RelC c' d') ∨ (stepQ d b = none ∧ (60 < c'.out.length ∨ (stValid c'.s = true ∧ 2 ≤ c'.s.M ∧ c'.s.M ≤ 8 ∧ 60 < c'.p))))) ∨ (stepI c b = none ∧ (stepQ d b = none ∨ ∃ d', stepQ d b = some d' ∧ d'.s.M = 15))) := by
  obtain ⟨co, cs, cr, cp⟩ := c
  obtain ⟨d1, d2, db, dp⟩ := d
  obtain ⟨r1, r2, hv, r4, r5, r6, r7, r8, r9, r10⟩ := h
  simp only at r1 r2 hv r4 r5 r6 r7 r8 r9 r10 h15
  subst r1; subst r2
  have hv2 := stepM_valid hv b
  obtain ⟨f1, f2, f3, f4⟩ := step_from hv b
  have t0 := fun h => to_0 (s := d2) h b
  have t1 := fun h => to_1 (s := d2) h b
  have t2 := fun h h' => to_2 (s := d2) h h' b
  have t9 := fun h => to_9 (s := d2) h (E_plain hv (by omega)) b
  have t10 := fun h => to_10 (s := d2) h b
  have t11 := fun h h' => to_11 (s := d2) h h' b
  have hM15 := (val_parts hv).1
  have hd2 : ∀ c' d', stepI ⟨d1, d2, cr, cp⟩ b = some c' → rawR ⟨d1, d2, db, dp⟩ b = d' → (60 < d'.p → stValid c'.s = true ∧ 2 ≤ c'.s.M ∧ c'.s.M ≤ 8 ∧ 60 < c'.p) → (d'.p ≤ 60 → RelC c' d') → d'.out = c'.out → (∃ c', stepI ⟨d1, d2, cr, cp⟩ b = some c' ∧ ((∃ d', stepQ ⟨d1, d2, db, dp⟩ b = some d' ∧ RelC c' d') ∨ (stepQ ⟨d1, d2, db, dp⟩ b = none ∧ (60 < c'.out.length ∨ (stValid c'.s = true ∧ 2 ≤ c'.s.M ∧ c'.s.M ≤ 8 ∧ 60 < c'.p))))) := by
    intro c' d' e1 e2 e3 e4 e5
    refine ⟨c', e1, ?_⟩
    unfold stepQ
    rw [e2]
    by_cases hp : 60 < d'.p
    · exact .inr ⟨by rw [if_pos (.inr hp)], .inr (e3 hp)⟩
    · by_cases ho : 60 < d'.out.length
      · exact .inr ⟨by rw [if_pos (.inl ho)], .inl (by rw [← e5]; exact ho)⟩
      · exact .inl ⟨d', by rw [if_neg (by omega)], e4 (by omega)⟩
  have hbad : stepI ⟨d1, d2, cr, cp⟩ b = none → (stepM d2 b).M = 15 → stepI ⟨d1, d2, cr, cp⟩ b = none ∧ (stepQ ⟨d1, d2, db, dp⟩ b = none ∨ ∃ d', stepQ ⟨d1, d2, db, dp⟩ b = some d' ∧ d'.s.M = 15) := by
    intro e1 e2
    refine ⟨e1, ?_⟩
    unfold stepQ
    split
    · exact .inl rfl
    · exact .inr ⟨_, rfl, by rw [rawR_s]; exact e2⟩
  by_cases hb15 : (stepM d2 b).M = 15
  · exact .inr (hbad (by unfold stepI; simp only; rw [if_pos hb15]) hb15)
  by_cases h0 : d2.M = 0
  · have e0 := r4 (by omega)
    by_cases hn : (stepM d2 b).M = 1
    · refine .inl (hd2 ⟨flushI ⟨d1, d2, cr, cp⟩, stepM d2 b, [], cp⟩ ⟨putR d1 1 (unescR db), stepM d2 b, [], 0⟩ ?_ ?_ ?_ ?_ ?_)
      · unfold stepI; simp only; rw [if_neg hb15, if_pos h0, if_neg (by omega)]
      · unfold rawR; simp only; rw [if_pos h0, if_pos hn]
      · intro h; simp at h
      · intro _
        refine ⟨?_, rfl, hv2, fun _ => rfl, fun _ _ => rfl, fun _ => rfl, ?_, ?_, ?_, ?_⟩ <;> simp only
        · rw [e0]; exact put_flush ⟨d1, d2, cr, cp⟩
        · omega
        · omega
        · intro _; exact r9 (by omega)
        · omega
      · simp only; rw [e0]; exact put_flush ⟨d1, d2, cr, cp⟩
    · have hn0 : (stepM d2 b).M = 0 := by rcases t0 h0 with h | h <;> omega
      refine .inl (hd2 ⟨d1, stepM d2 b, cr ++ [b], cp⟩ ⟨d1, stepM d2 b, db ++ [b], dp⟩ ?_ ?_ ?_ ?_ rfl)
      · unfold stepI; simp only; rw [if_neg hb15, if_pos h0, if_pos hn0]
      · unfold rawR; simp only; rw [if_pos h0, if_neg hn]
      · simp only; omega
      · intro _
        refine ⟨rfl, rfl, hv2, ?_, ?_, ?_, ?_, ?_, ?_, ?_⟩ <;> simp only
        · intro _; rw [e0]
        · omega
        · omega
        · omega
        · omega
        · intro _; exact r9 (by omega)
        · exact r10
  by_cases h1 : d2.M = 1
  · have hn := (t1 h1).1
    have e0 := r4 (by omega)
    have e1 := r5 (by omega) (by omega)
    have e2 := r9 (by omega)
    have e3 := r6 h1
    refine .inl (hd2 ⟨d1, stepM d2 b, cr, cp⟩ ⟨d1, stepM d2 b, db, dp⟩ ?_ ?_ ?_ ?_ rfl)
    · unfold stepI; simp only; rw [if_neg hb15, if_neg h0, if_pos h1]
    · unfold rawR; simp only; rw [if_neg h0, if_neg (by omega), if_neg (by omega), if_neg (by omega), if_neg (by omega), if_neg (by omega)]
    · simp only; omega
    · intro _
      refine ⟨rfl, rfl, hv2, fun _ => e0, fun _ _ => e1, ?_, ?_, ?_, ?_, ?_⟩ <;> simp only <;> omega
  by_cases h9 : d2.M = 9
  · have hn := (t9 h9).1
    have e0 := r4 (by omega)
    have e1 := r5 (by omega) (by omega)
    have e2 := r9 (by omega)
    by_cases hz : (stepM d2 b).M = 0
    · refine .inl (hd2 ⟨d1 ++ [(tx 3 d2.T [], 0)], stepM d2 b, cr, cp⟩ ⟨d1 ++ [(tx 3 d2.T [], 0)], stepM d2 b, [], dp⟩ ?_ ?_ ?_ ?_ rfl)
      · unfold stepI; simp only; rw [if_neg hb15, if_neg h0, if_neg h1, if_pos h9, if_pos hz]
      · unfold rawR; simp only; rw [if_neg h0, if_neg (by omega), if_pos h9, if_pos hz]
      · simp only; omega
      · intro _
        refine ⟨rfl, rfl, hv2, fun _ => e1.symm, fun _ _ => e1, ?_, ?_, ?_, ?_, ?_⟩ <;> simp only <;> omega
    · refine .inl (hd2 ⟨d1, stepM d2 b, cr, cp⟩ ⟨d1, stepM d2 b, db, dp⟩ ?_ ?_ ?_ ?_ rfl)
      · unfold stepI; simp only; rw [if_neg hb15, if_neg h0, if_neg h1, if_pos h9, if_neg hz]
      · unfold rawR; simp only; rw [if_neg h0, if_neg (by omega), if_pos h9, if_neg hz]
      · simp only; omega
      · intro _
        refine ⟨rfl, rfl, hv2, fun _ => e0, fun _ _ => e1, ?_, ?_, ?_, ?_, ?_⟩ <;> simp only <;> omega
  by_cases h10 : d2.M = 10
  · have hn := t10 h10
    have e0 := r4 (by omega)
    have e2 := r9 (by omega)
    by_cases hz : (stepM d2 b).M = 0
    · refine .inl (hd2 ⟨d1 ++ [(tx 4 [] cr, 0)], stepM d2 b, [], cp⟩ ⟨d1 ++ [(tx 4 [] db, 0)], stepM d2 b, [], dp⟩ ?_ ?_ ?_ ?_ (by rw [e0]))
      · unfold stepI; simp only; rw [if_neg hb15, if_neg h0, if_neg h1, if_neg h9, if_pos h10, if_pos hz]
      · unfold rawR; simp only; rw [if_neg h0, if_pos h10, if_pos hz]
      · simp only; omega
      · intro _
        refine ⟨by rw [e0], rfl, hv2, fun _ => rfl, fun _ _ => rfl, ?_, ?_, ?_, ?_, ?_⟩ <;> simp only <;> omega
    · refine .inl (hd2 ⟨d1, stepM d2 b, cr ++ [b], cp⟩ ⟨d1, stepM d2 b, db ++ [b], dp⟩ ?_ ?_ ?_ ?_ rfl)
      · unfold stepI; simp only; rw [if_neg hb15, if_neg h0, if_neg h1, if_neg h9, if_pos h10, if_neg hz]
      · unfold rawR; simp only; rw [if_neg h0, if_pos h10, if_neg hz]
      · simp only; omega
      · intro _
        refine ⟨rfl, rfl, hv2, fun _ => by simp only; rw [e0], ?_, ?_, ?_, ?_, ?_, ?_⟩ <;> simp only <;> omega
  by_cases h11 : 11 ≤ d2.M
  · have h14 : d2.M ≤ 14 := by omega
    have hn := t11 h11 h14
    have e0 := r4 (by omega)
    have e2 := r9 (by omega)
    by_cases hz : d2.M = 14 ∧ (stepM d2 b).M = 9
    · by_cases hl : 1 < cr.length
      · have hne : cr.dropLast ≠ [] := fun e => by have := congrArg List.length e; simp at this; omega
        refine .inl (hd2 ⟨d1 ++ [(tx 5 [] cr.dropLast, 0)], stepM d2 b, [], cp⟩ ⟨putR d1 5 db.dropLast, stepM d2 b, [], dp⟩ ?_ ?_ ?_ ?_ ?_)
        · unfold stepI; simp only; rw [if_neg hb15, if_neg h0, if_neg h1, if_neg h9, if_neg h10, if_pos h11, if_pos hz, if_pos hl]
        · unfold rawR; simp only; rw [if_neg h0, if_neg h10, if_neg h9, if_neg (by omega), if_pos hz.1, if_pos hz.2]
        · simp only; omega
        · intro _
          refine ⟨by simp only; unfold putR; rw [e0, if_neg hne], rfl, hv2, fun _ => rfl, fun _ _ => rfl, ?_, ?_, ?_, ?_, ?_⟩ <;> simp only <;> omega
        · simp only; unfold putR; rw [e0, if_neg hne]
      · have hne : cr.dropLast = [] := List.eq_nil_of_length_eq_zero (by simp; omega)
        refine .inl (hd2 ⟨d1, stepM d2 b, [], cp⟩ ⟨putR d1 5 db.dropLast, stepM d2 b, [], dp⟩ ?_ ?_ ?_ ?_ ?_)
        · unfold stepI; simp only; rw [if_neg hb15, if_neg h0, if_neg h1, if_neg h9, if_neg h10, if_pos h11, if_pos hz, if_neg hl]
        · unfold rawR; simp only; rw [if_neg h0, if_neg h10, if_neg h9, if_neg (by omega), if_pos hz.1, if_pos hz.2]
        · simp only; omega
        · intro _
          refine ⟨by simp only; unfold putR; rw [e0, if_pos hne], rfl, hv2, fun _ => rfl, fun _ _ => rfl, ?_, ?_, ?_, ?_, ?_⟩ <;> simp only <;> omega
        · simp only; unfold putR; rw [e0, if_pos hne]
    · refine .inl (hd2 ⟨d1, stepM d2 b, cr ++ [b], cp⟩ ⟨d1, stepM d2 b, db ++ [b], dp⟩ ?_ ?_ ?_ ?_ rfl)
      · unfold stepI; simp only; rw [if_neg hb15, if_neg h0, if_neg h1, if_neg h9, if_neg h10, if_pos h11, if_neg hz]
      · unfold rawR; simp only; rw [if_neg h0, if_neg h10, if_neg h9, if_neg (by omega)]
        by_cases h : d2.M = 14
        · rw [if_pos h, if_neg (fun e => hz ⟨h, e⟩)]
        · rw [if_neg h, if_pos (by omega)]
      · simp only; omega
      · intro _
        refine ⟨rfl, rfl, hv2, fun _ => by simp only; rw [e0], ?_, ?_, ?_, ?_, ?_, ?_⟩ <;> simp only <;> omega
  have h2 : 2 ≤ d2.M := by omega
  have h8 : d2.M ≤ 8 := by omega
  have e1 := r5 (by omega) (by omega)
  have hcl : clR d2.M dp = cp := by
    unfold clR
    by_cases h4 : 4 ≤ d2.M
    · rw [if_pos ⟨h4, h8⟩]; exact r8 h4 h8
    · rw [if_neg (by omega)]; exact r7 h2 (by omega)
  have f3 := f3 h2 h8
  by_cases hz : (stepM d2 b).M = 0 ∨ (stepM d2 b).M = 11
  · by_cases hp : 60 < cp
    · refine .inr ⟨?_, .inl ?_⟩
      · unfold stepI; simp only; rw [if_neg hb15, if_neg h0, if_neg h1, if_neg h9, if_neg h10, if_neg h11, if_pos hz, if_pos hp]
      · unfold stepQ
        rw [if_pos]
        refine .inr ?_
        unfold rawR; simp only
        rw [if_neg h0, if_neg h10, if_neg h9, if_pos ⟨h2, h8⟩, if_pos hz, hcl]
        exact hp
    · refine .inl (hd2 ⟨d1 ++ [(tx 2 d2.T [], cp)], stepM d2 b, cr, 0⟩ ⟨d1 ++ [(tx 2 d2.T [], cp)], stepM d2 b, [], cp⟩ ?_ ?_ ?_ ?_ rfl)
      · unfold stepI; simp only; rw [if_neg hb15, if_neg h0, if_neg h1, if_neg h9, if_neg h10, if_neg h11, if_pos hz, if_neg hp]
      · unfold rawR; simp only; rw [if_neg h0, if_neg h10, if_neg h9, if_pos ⟨h2, h8⟩, if_pos hz, hcl]
      · simp only; omega
      · intro _
        refine ⟨rfl, rfl, hv2, fun _ => e1.symm, fun _ _ => e1, ?_, ?_, ?_, ?_, ?_⟩ <;> simp only <;> (first | omega | exact fun _ => trivial | exact fun _ _ => trivial)
  by_cases h3 : (stepM d2 b).M = 3
  · refine .inl (hd2 ⟨d1, stepM d2 b, cr, cp⟩ ⟨d1, stepM d2 b, [], cp⟩ ?_ ?_ ?_ ?_ rfl)
    · unfold stepI; simp only; rw [if_neg hb15, if_neg h0, if_neg h1, if_neg h9, if_neg h10, if_neg h11, if_neg hz, if_neg (by omega)]
    · unfold rawR; simp only; rw [if_neg h0, if_neg h10, if_neg h9, if_pos ⟨h2, h8⟩, if_neg hz, if_pos h3, hcl]
    · intro h; exact ⟨hv2, by simp only; omega, by simp only; omega, h⟩
    · intro _
      refine ⟨rfl, rfl, hv2, ?_, fun _ _ => e1, ?_, ?_, ?_, ?_, ?_⟩ <;> simp only <;> (first | omega | exact fun _ => trivial | exact fun _ _ => trivial)
  · have t2 := t2 h2 h8
    have hr : ∃ db', rawR ⟨d1, d2, db, dp⟩ b = ⟨d1, stepM d2 b, db', dp⟩ := by
      unfold rawR; simp only; rw [if_neg h0, if_neg h10, if_neg h9, if_pos ⟨h2, h8⟩, if_neg hz, if_neg h3]
      split
      · exact ⟨_, rfl⟩
      · exact ⟨_, rfl⟩
    obtain ⟨db', hr⟩ := hr
    by_cases ha : d2.M = 3 ∧ (stepM d2 b).M = 4
    · refine .inl (hd2 ⟨d1, stepM d2 b, cr, cp + 1⟩ ⟨d1, stepM d2 b, db', dp⟩ ?_ hr ?_ ?_ rfl)
      · unfold stepI; simp only; rw [if_neg hb15, if_neg h0, if_neg h1, if_neg h9, if_neg h10, if_neg h11, if_neg hz, if_pos ha]
      · simp only; omega
      · intro _
        refine ⟨rfl, rfl, hv2, ?_, fun _ _ => e1, ?_, ?_, ?_, ?_, ?_⟩ <;> simp only at * <;> omega
    · refine .inl (hd2 ⟨d1, stepM d2 b, cr, cp⟩ ⟨d1, stepM d2 b, db', dp⟩ ?_ hr ?_ ?_ rfl)
      · unfold stepI; simp only; rw [if_neg hb15, if_neg h0, if_neg h1, if_neg h9, if_neg h10, if_neg h11, if_neg hz, if_neg ha]
      · simp only; omega
      · intro _
        refine ⟨rfl, rfl, hv2, ?_, fun _ _ => e1, ?_, ?_, ?_, ?_, ?_⟩ <;> simp only at * <;> omega
theorem rel_fin : ∀ (l : List UInt8) (c : CfI) (d : CfR), RelC c d → finI c l = finR d l := by
  intro l
  induction l with
  | nil =>
    intro c d h
    show endI c = endR d
    unfold endI endR endO
    rw [h.s, h.out]
    by_cases h0 : c.s.M = 0
    · rw [h.buf (by omega), put_flush]
    · rw [if_neg (fun e => h0 e.1), if_neg (fun e => h0 e.1)]
  | cons b l ih =>
    intro c d h
    by_cases h15 : c.s.M = 15
    · have e1 : stepI c b = none := by
        unfold stepI
        rw [if_pos (by rw [to_15 h15]; rfl)]
      rw [fin_bad _ d (by rw [h.s]; exact h15), finI_cons, e1]; rfl
    · rw [finI_cons, finR_cons]
      rcases rel_step h h15 b with ⟨c', h1, ⟨d', h2, h3⟩ | ⟨h2, h3⟩⟩ | ⟨h1, h2 | ⟨d', h2, h3⟩⟩
      · rw [h1, h2]; exact ih c' d' h3
      · rw [h1, h2, Option.bind_some]
        rcases h3 with h3 | ⟨h3, h4, h5, h6⟩
        · exact fin_long _ _ h3
        · exact fin_many _ _ h3 h4 h5 h6
      · rw [h1, h2]; rfl
      · rw [h1, h2, Option.bind_some, fin_bad _ _ h3]; rfl
/-- Both readers answer alike. -/
theorem tok_same (l : List UInt8) : tokI l = tokR2 l := by
  unfold tokI tokR2
  split
  · refine rel_fin l ci0 cr0 ⟨rfl, rfl, val_zero, fun _ => rfl, fun _ _ => rfl, fun _ => rfl, fun _ _ => rfl, ?_, fun _ => rfl, Nat.zero_le _⟩
    intro h; exact absurd h (by decide)
  · rfl
/-- What holds between the steps of the reference's reader. -/
def CfROk (d : CfR) : Prop := stValid d.s = true ∧ (d.s.M = 14 → d.buf ≠ []) ∧ d.out.length ≤ 60 ∧ d.p ≤ 60
theorem CfROk.next {d d' : CfR} {b : UInt8} (h : CfROk d) (hs : stepQ d b = some d') : CfROk d' := by
  obtain ⟨h1, h2, _, _⟩ := h
  unfold stepQ at hs
  split at hs
  · cases hs
  · rename_i hle
    injection hs with hs
    have hss := rawR_s d b
    have hcl := rawR_class h1 b
    rw [hs] at hss hcl hle
    refine ⟨by rw [hss]; exact stepM_valid h1 b, fun e => ?_, by omega, by omega⟩
    rw [hss] at e
    obtain ⟨f1, f2, f3, f4⟩ := step_from h1 b
    cases hcl with
    | less h0 h => omega
    | text h0 h => simp
    | open1 h0 h => have := (to_1 h0 b).1; omega
    | said h0 h => omega
    | say h0 h => simp
    | fin h0 h => omega
    | name h0 h _ => have := (to_9 h0 (E_plain h1 (by omega)) b).1; omega
    | close h0 _ h => omega
    | sep h0 _ h => omega
    | val h0 h => simp
    | rest h0 h => have := f3 h0 h; omega
    | ends h0 h => omega
    | less2 h0 h => simp
    | code h0 h => simp
    | bad h0 h => rw [to_15 h0] at e; exact absurd e (by decide)
end Go.Proofs.Ytdoomfckdjjlaaa

/-! spec.l2At and spec.UnescapeText (printed by gen_l2at.py). -/
namespace Go.Proofs.Ytdoomfckdjjlaaa
open Go.RowKit

theorem mid_at (s : ByteArray) (a n : Nat) : bl (s.extract a (a + n)) = ((bl s).drop a).take n := by
  rw [bl_ext, List.drop_take, Nat.add_sub_cancel_left]
theorem pre_iff (l p : List UInt8) : Lib.hasPrefix l p = true ↔ l.take p.length = p := by
  unfold Lib.hasPrefix
  rw [List.isPrefixOf_iff_prefix, List.prefix_iff_eq_take]
  exact ⟨fun h => h.symm, fun h => h.symm⟩
theorem pre_cases (s : ByteArray) (a : Nat) (ha : a ≤ s.size) (p : List UInt8) (n : Nat) (hn : p.length = n) :
    (a + n ≤ s.size ∧ ((s.extract a (a + n) = mkS p ∧ Lib.hasPrefix ((bl s).drop a) p = true) ∨ (s.extract a (a + n) ≠ mkS p ∧ Lib.hasPrefix ((bl s).drop a) p = false))) ∨ (s.size < a + n ∧ Lib.hasPrefix ((bl s).drop a) p = false) := by
  subst hn
  by_cases h : a + p.length ≤ s.size
  · have ht := mid_at s a p.length
    refine .inl ⟨h, ?_⟩
    rcases hp : Lib.hasPrefix ((bl s).drop a) p with _ | _
    · refine .inr ⟨fun e => ?_, rfl⟩
      rw [e, bl_mkS] at ht
      rw [(pre_iff _ _).2 ht.symm] at hp
      cases hp
    · rw [(pre_iff _ _).1 hp] at ht
      exact .inl ⟨bl_inj (by rw [ht, bl_mkS]), rfl⟩
  · refine .inr ⟨by omega, ?_⟩
    rcases hp : Lib.hasPrefix ((bl s).drop a) p with _ | _
    · rfl
    · have := congrArg List.length ((pre_iff _ _).1 hp)
      rw [List.length_take, List.length_drop, bl_len] at this
      omega
theorem tl_same {a b : ByteArray} (h : a = b) : (a.toList == b.toList) = true := by rw [tl_yn]; simp [h]
set_option maxRecDepth 100000 in
set_option maxHeartbeats 6400000 in
theorem spec_l2At (s : ByteArray) (a : Nat) (w : World) (ha : a ≤ s.size) (hs : s.size ≤ 1048576) :
    Calls Try.prog 90 #[.string s, .int .i64 (a : Int)] w fun e w' => e = .returned (.tuple #[.int .u8 ((entAt ((bl s).drop a)).1.toNat : Int), .int .i64 ((entAt ((bl s).drop a)).2 : Int)]) ∧ Below w.heap.size w w' := by
  go_enter Try.func90, Try.ntmps90
  go_wp2
  go_loopw [7] (fun t wr => ∃ k : Nat, k ≤ 5 ∧ t = .int .i64 (k : Int) ∧ Hid (∀ i (h : i < 5), i < k → Lib.hasPrefix ((bl s).drop a) (entB (ent5[i]'h)) = false) ∧ Hid (Below w.heap.size w wr)) (fun t _ => 5 - (intOf t).toNat)
  case atStart => exact ⟨0, Nat.zero_le _, rfl, fun i _ h => by omega, Below.refl _ _⟩
  case round =>
    obtain ⟨k, hk, rfl, HP, HB⟩ := hrel
    have hws := HB.out.size
    by_cases hk5 : k < 5
    · rcases (show k = 0 ∨ k = 1 ∨ k = 2 ∨ k = 3 ∨ k = 4 by omega) with rfl | rfl | rfl | rfl | rfl
      · have CE : Hid (∀ W, Calls Try.prog 95 #[.int .u8 (((⟨#[38, 60, 62, 34, 39]⟩ : ByteArray)[0]'(by decide)).toNat : Int)] W fun e w' => e = .returned (.string (mkS (entB 38))) ∧ Below W.heap.size W w') := fun W => spec_l2Entity 38 W
        have HN : Hid (Lib.hasPrefix ((bl s).drop a) (entB 38) = false → ∀ i (h : i < 5), i < 0 + 1 → Lib.hasPrefix ((bl s).drop a) (entB (ent5[i]'h)) = false) := by
          intro hy i h hi
          by_cases e : i = 0
          · subst e; exact hy
          · exact HP.out i h (by omega)
        have HY : Hid (Lib.hasPrefix ((bl s).drop a) (entB 38) = true → entAt ((bl s).drop a) = (38, 5)) := fun hy => entAt_yes (by omega : 0 < 5) (fun i h hi => HP.out i h hi) hy
        have he : (mkS (entB 38)).size = 5 := by rw [mkS_size]; rfl
        rcases pre_cases s a ha (entB 38) 5 rfl with ⟨hin, ⟨ht, hp⟩ | ⟨ht, hp⟩⟩ | ⟨hin, hp⟩
        · have HY2 := Lib.hid (HY.out hp)
          have q0 := tl_same ht
          have i1 : (a : Int) + 5 ≤ (s.size : Int) := by omega
          clear HY HN HP hp ht
          generalize mkS (entB 38) = eb at *
          go_wp2_with fail
          refine (CE.out _).mono ?_
          rintro e w1 ⟨rfl, b1⟩
          have B1 := Lib.hid (HB.out.trans (b1.mono hws))
          clear b1
          go_wp2
          exact bodyPost_ret (v := .tuple #[.int .u8 (((⟨#[38, 60, 62, 34, 39]⟩ : ByteArray)[0]'(by decide)).toNat : Int), .int .i64 5]) (by simp [results, Try.results90, go_sem]) rfl ⟨by rw [HY2.out]; rfl, B1.out⟩
        · have HN2 := Lib.hid (HN.out hp)
          have q0 := tl_no ht
          have i1 : (a : Int) + 5 ≤ (s.size : Int) := by omega
          clear HY HN HP hp ht
          generalize mkS (entB 38) = eb at *
          go_wp2_with fail
          refine (CE.out _).mono ?_
          rintro e w1 ⟨rfl, b1⟩
          have B1 := Lib.hid (HB.out.trans (b1.mono hws))
          clear b1
          go_wp2
          go_roundw
          case rel => exact ⟨1, by omega, by go_num, HN2.out, B1.out⟩
          case measure => simp [intOf]
        · have HN2 := Lib.hid (HN.out hp)
          have i1 : ¬ (a : Int) + 5 ≤ (s.size : Int) := by omega
          clear HY HN HP hp
          generalize mkS (entB 38) = eb at *
          go_wp2_with fail
          refine (CE.out _).mono ?_
          rintro e w1 ⟨rfl, b1⟩
          have B1 := Lib.hid (HB.out.trans (b1.mono hws))
          clear b1
          go_wp2
          go_roundw
          case rel => exact ⟨1, by omega, by go_num, HN2.out, B1.out⟩
          case measure => simp [intOf]
      · have CE : Hid (∀ W, Calls Try.prog 95 #[.int .u8 (((⟨#[38, 60, 62, 34, 39]⟩ : ByteArray)[1]'(by decide)).toNat : Int)] W fun e w' => e = .returned (.string (mkS (entB 60))) ∧ Below W.heap.size W w') := fun W => spec_l2Entity 60 W
        have HN : Hid (Lib.hasPrefix ((bl s).drop a) (entB 60) = false → ∀ i (h : i < 5), i < 1 + 1 → Lib.hasPrefix ((bl s).drop a) (entB (ent5[i]'h)) = false) := by
          intro hy i h hi
          by_cases e : i = 1
          · subst e; exact hy
          · exact HP.out i h (by omega)
        have HY : Hid (Lib.hasPrefix ((bl s).drop a) (entB 60) = true → entAt ((bl s).drop a) = (60, 4)) := fun hy => entAt_yes (by omega : 1 < 5) (fun i h hi => HP.out i h hi) hy
        have he : (mkS (entB 60)).size = 4 := by rw [mkS_size]; rfl
        rcases pre_cases s a ha (entB 60) 4 rfl with ⟨hin, ⟨ht, hp⟩ | ⟨ht, hp⟩⟩ | ⟨hin, hp⟩
        · have HY2 := Lib.hid (HY.out hp)
          have q0 := tl_same ht
          have i1 : (a : Int) + 4 ≤ (s.size : Int) := by omega
          clear HY HN HP hp ht
          generalize mkS (entB 60) = eb at *
          go_wp2_with fail
          refine (CE.out _).mono ?_
          rintro e w1 ⟨rfl, b1⟩
          have B1 := Lib.hid (HB.out.trans (b1.mono hws))
          clear b1
          go_wp2
          exact bodyPost_ret (v := .tuple #[.int .u8 (((⟨#[38, 60, 62, 34, 39]⟩ : ByteArray)[1]'(by decide)).toNat : Int), .int .i64 4]) (by simp [results, Try.results90, go_sem]) rfl ⟨by rw [HY2.out]; rfl, B1.out⟩
        · have HN2 := Lib.hid (HN.out hp)
          have q0 := tl_no ht
          have i1 : (a : Int) + 4 ≤ (s.size : Int) := by omega
          clear HY HN HP hp ht
          generalize mkS (entB 60) = eb at *
          go_wp2_with fail
          refine (CE.out _).mono ?_
          rintro e w1 ⟨rfl, b1⟩
          have B1 := Lib.hid (HB.out.trans (b1.mono hws))
          clear b1
          go_wp2
          go_roundw
          case rel => exact ⟨2, by omega, by go_num, HN2.out, B1.out⟩
          case measure => simp [intOf]
        · have HN2 := Lib.hid (HN.out hp)
          have i1 : ¬ (a : Int) + 4 ≤ (s.size : Int) := by omega
          clear HY HN HP hp
          generalize mkS (entB 60) = eb at *
          go_wp2_with fail
          refine (CE.out _).mono ?_
          rintro e w1 ⟨rfl, b1⟩
          have B1 := Lib.hid (HB.out.trans (b1.mono hws))
          clear b1
          go_wp2
          go_roundw
          case rel => exact ⟨2, by omega, by go_num, HN2.out, B1.out⟩
          case measure => simp [intOf]
      · have CE : Hid (∀ W, Calls Try.prog 95 #[.int .u8 (((⟨#[38, 60, 62, 34, 39]⟩ : ByteArray)[2]'(by decide)).toNat : Int)] W fun e w' => e = .returned (.string (mkS (entB 62))) ∧ Below W.heap.size W w') := fun W => spec_l2Entity 62 W
        have HN : Hid (Lib.hasPrefix ((bl s).drop a) (entB 62) = false → ∀ i (h : i < 5), i < 2 + 1 → Lib.hasPrefix ((bl s).drop a) (entB (ent5[i]'h)) = false) := by
          intro hy i h hi
          by_cases e : i = 2
          · subst e; exact hy
          · exact HP.out i h (by omega)
        have HY : Hid (Lib.hasPrefix ((bl s).drop a) (entB 62) = true → entAt ((bl s).drop a) = (62, 4)) := fun hy => entAt_yes (by omega : 2 < 5) (fun i h hi => HP.out i h hi) hy
        have he : (mkS (entB 62)).size = 4 := by rw [mkS_size]; rfl
        rcases pre_cases s a ha (entB 62) 4 rfl with ⟨hin, ⟨ht, hp⟩ | ⟨ht, hp⟩⟩ | ⟨hin, hp⟩
        · have HY2 := Lib.hid (HY.out hp)
          have q0 := tl_same ht
          have i1 : (a : Int) + 4 ≤ (s.size : Int) := by omega
          clear HY HN HP hp ht
          generalize mkS (entB 62) = eb at *
          go_wp2_with fail
          refine (CE.out _).mono ?_
          rintro e w1 ⟨rfl, b1⟩
          have B1 := Lib.hid (HB.out.trans (b1.mono hws))
          clear b1
          go_wp2
          exact bodyPost_ret (v := .tuple #[.int .u8 (((⟨#[38, 60, 62, 34, 39]⟩ : ByteArray)[2]'(by decide)).toNat : Int), .int .i64 4]) (by simp [results, Try.results90, go_sem]) rfl ⟨by rw [HY2.out]; rfl, B1.out⟩
        · have HN2 := Lib.hid (HN.out hp)
          have q0 := tl_no ht
          have i1 : (a : Int) + 4 ≤ (s.size : Int) := by omega
          clear HY HN HP hp ht
          generalize mkS (entB 62) = eb at *
          go_wp2_with fail
          refine (CE.out _).mono ?_
          rintro e w1 ⟨rfl, b1⟩
          have B1 := Lib.hid (HB.out.trans (b1.mono hws))
          clear b1
          go_wp2
          go_roundw
          case rel => exact ⟨3, by omega, by go_num, HN2.out, B1.out⟩
          case measure => simp [intOf]
        · have HN2 := Lib.hid (HN.out hp)
          have i1 : ¬ (a : Int) + 4 ≤ (s.size : Int) := by omega
          clear HY HN HP hp
          generalize mkS (entB 62) = eb at *
          go_wp2_with fail
          refine (CE.out _).mono ?_
          rintro e w1 ⟨rfl, b1⟩
          have B1 := Lib.hid (HB.out.trans (b1.mono hws))
          clear b1
          go_wp2
          go_roundw
          case rel => exact ⟨3, by omega, by go_num, HN2.out, B1.out⟩
          case measure => simp [intOf]
      · have CE : Hid (∀ W, Calls Try.prog 95 #[.int .u8 (((⟨#[38, 60, 62, 34, 39]⟩ : ByteArray)[3]'(by decide)).toNat : Int)] W fun e w' => e = .returned (.string (mkS (entB 34))) ∧ Below W.heap.size W w') := fun W => spec_l2Entity 34 W
        have HN : Hid (Lib.hasPrefix ((bl s).drop a) (entB 34) = false → ∀ i (h : i < 5), i < 3 + 1 → Lib.hasPrefix ((bl s).drop a) (entB (ent5[i]'h)) = false) := by
          intro hy i h hi
          by_cases e : i = 3
          · subst e; exact hy
          · exact HP.out i h (by omega)
        have HY : Hid (Lib.hasPrefix ((bl s).drop a) (entB 34) = true → entAt ((bl s).drop a) = (34, 6)) := fun hy => entAt_yes (by omega : 3 < 5) (fun i h hi => HP.out i h hi) hy
        have he : (mkS (entB 34)).size = 6 := by rw [mkS_size]; rfl
        rcases pre_cases s a ha (entB 34) 6 rfl with ⟨hin, ⟨ht, hp⟩ | ⟨ht, hp⟩⟩ | ⟨hin, hp⟩
        · have HY2 := Lib.hid (HY.out hp)
          have q0 := tl_same ht
          have i1 : (a : Int) + 6 ≤ (s.size : Int) := by omega
          clear HY HN HP hp ht
          generalize mkS (entB 34) = eb at *
          go_wp2_with fail
          refine (CE.out _).mono ?_
          rintro e w1 ⟨rfl, b1⟩
          have B1 := Lib.hid (HB.out.trans (b1.mono hws))
          clear b1
          go_wp2
          exact bodyPost_ret (v := .tuple #[.int .u8 (((⟨#[38, 60, 62, 34, 39]⟩ : ByteArray)[3]'(by decide)).toNat : Int), .int .i64 6]) (by simp [results, Try.results90, go_sem]) rfl ⟨by rw [HY2.out]; rfl, B1.out⟩
        · have HN2 := Lib.hid (HN.out hp)
          have q0 := tl_no ht
          have i1 : (a : Int) + 6 ≤ (s.size : Int) := by omega
          clear HY HN HP hp ht
          generalize mkS (entB 34) = eb at *
          go_wp2_with fail
          refine (CE.out _).mono ?_
          rintro e w1 ⟨rfl, b1⟩
          have B1 := Lib.hid (HB.out.trans (b1.mono hws))
          clear b1
          go_wp2
          go_roundw
          case rel => exact ⟨4, by omega, by go_num, HN2.out, B1.out⟩
          case measure => simp [intOf]
        · have HN2 := Lib.hid (HN.out hp)
          have i1 : ¬ (a : Int) + 6 ≤ (s.size : Int) := by omega
          clear HY HN HP hp
          generalize mkS (entB 34) = eb at *
          go_wp2_with fail
          refine (CE.out _).mono ?_
          rintro e w1 ⟨rfl, b1⟩
          have B1 := Lib.hid (HB.out.trans (b1.mono hws))
          clear b1
          go_wp2
          go_roundw
          case rel => exact ⟨4, by omega, by go_num, HN2.out, B1.out⟩
          case measure => simp [intOf]
      · have CE : Hid (∀ W, Calls Try.prog 95 #[.int .u8 (((⟨#[38, 60, 62, 34, 39]⟩ : ByteArray)[4]'(by decide)).toNat : Int)] W fun e w' => e = .returned (.string (mkS (entB 39))) ∧ Below W.heap.size W w') := fun W => spec_l2Entity 39 W
        have HN : Hid (Lib.hasPrefix ((bl s).drop a) (entB 39) = false → ∀ i (h : i < 5), i < 4 + 1 → Lib.hasPrefix ((bl s).drop a) (entB (ent5[i]'h)) = false) := by
          intro hy i h hi
          by_cases e : i = 4
          · subst e; exact hy
          · exact HP.out i h (by omega)
        have HY : Hid (Lib.hasPrefix ((bl s).drop a) (entB 39) = true → entAt ((bl s).drop a) = (39, 5)) := fun hy => entAt_yes (by omega : 4 < 5) (fun i h hi => HP.out i h hi) hy
        have he : (mkS (entB 39)).size = 5 := by rw [mkS_size]; rfl
        rcases pre_cases s a ha (entB 39) 5 rfl with ⟨hin, ⟨ht, hp⟩ | ⟨ht, hp⟩⟩ | ⟨hin, hp⟩
        · have HY2 := Lib.hid (HY.out hp)
          have q0 := tl_same ht
          have i1 : (a : Int) + 5 ≤ (s.size : Int) := by omega
          clear HY HN HP hp ht
          generalize mkS (entB 39) = eb at *
          go_wp2_with fail
          refine (CE.out _).mono ?_
          rintro e w1 ⟨rfl, b1⟩
          have B1 := Lib.hid (HB.out.trans (b1.mono hws))
          clear b1
          go_wp2
          exact bodyPost_ret (v := .tuple #[.int .u8 (((⟨#[38, 60, 62, 34, 39]⟩ : ByteArray)[4]'(by decide)).toNat : Int), .int .i64 5]) (by simp [results, Try.results90, go_sem]) rfl ⟨by rw [HY2.out]; rfl, B1.out⟩
        · have HN2 := Lib.hid (HN.out hp)
          have q0 := tl_no ht
          have i1 : (a : Int) + 5 ≤ (s.size : Int) := by omega
          clear HY HN HP hp ht
          generalize mkS (entB 39) = eb at *
          go_wp2_with fail
          refine (CE.out _).mono ?_
          rintro e w1 ⟨rfl, b1⟩
          have B1 := Lib.hid (HB.out.trans (b1.mono hws))
          clear b1
          go_wp2
          go_roundw
          case rel => exact ⟨5, by omega, by go_num, HN2.out, B1.out⟩
          case measure => simp [intOf]
        · have HN2 := Lib.hid (HN.out hp)
          have i1 : ¬ (a : Int) + 5 ≤ (s.size : Int) := by omega
          clear HY HN HP hp
          generalize mkS (entB 39) = eb at *
          go_wp2_with fail
          refine (CE.out _).mono ?_
          rintro e w1 ⟨rfl, b1⟩
          have B1 := Lib.hid (HB.out.trans (b1.mono hws))
          clear b1
          go_wp2
          go_roundw
          case rel => exact ⟨5, by omega, by go_num, HN2.out, B1.out⟩
          case measure => simp [intOf]
    · obtain rfl : k = 5 := by omega
      have HY := Lib.hid (entAt_no (fun i h => HP.out i h h))
      go_wp2
      exact bodyPost_ret (v := .tuple #[.int .u8 0, .int .i64 0]) (by simp [results, Try.results90, go_sem]) rfl ⟨by rw [HY.out]; rfl, HB.out⟩
set_option maxRecDepth 100000 in
set_option maxHeartbeats 3200000 in
theorem spec_UnescapeText (s : ByteArray) (w : World) (hs : s.size ≤ 1048576) : Calls Try.prog 65 #[.string s] w fun e w' => e = .returned (.string (mkS (unescR (bl s)))) ∧ Below w.heap.size w w' := by
  have O0 := Lib.hid (own_new w #[] 5 0 rfl (by omega))
  have B0 : Hid (Below w.heap.size w (w.alloc (.cells #[] 5 (0, 0)))) := (Below.refl _ _).alloc (Nat.le_refl _) _
  go_enter Try.func65, Try.ntmps65
  go_wp2
  go_loopw [3, 4] (fun o t wr => ∃ (k f : Nat) (out : List UInt8), k ≤ s.size ∧ s.size - k ≤ f ∧ t = .int .i64 (k : Int) ∧ out.length ≤ k ∧ Hid (out ++ unescF f ((bl s).drop k) = unescR (bl s)) ∧ Hid (wr.ownsRow w.heap.size 5 1 o out.length (out.map byteV)) ∧ Hid (Below w.heap.size w wr)) (fun _ t _ => s.size - (intOf t).toNat)
  case atStart => exact ⟨0, (bl s).length, [], Nat.zero_le _, by rw [bl_len]; omega, rfl, Nat.le_refl _, rfl, O0.out, B0.out⟩
  case round =>
    clear O0 B0
    obtain ⟨k, f, out, hk, hf, rfl, hol, HU, OW, BW⟩ := hrel
    have hws := BW.out.size
    by_cases hks : k < s.size
    · obtain ⟨f, rfl⟩ : ∃ g, f = g + 1 := ⟨f - 1, by omega⟩
      have hi : (k : Int) < (s.size : Int) := by omega
      have hk0 : (0 : Int) ≤ (k : Int) := by omega
      have CE := Lib.hid (fun W => spec_l2At s k W hk hs)
      have hdr : (bl s).drop k = s[k] :: (bl s).drop (k + 1) := by
        rw [List.drop_eq_getElem_cons (by rw [bl_len]; exact hks)]
        rfl
      have hun := HU.out
      rw [hdr, unescF, ← hdr] at hun
      have hel := entAt_len ((bl s).drop k)
      rw [List.length_drop, bl_len] at hel
      rcases he : entAt ((bl s).drop k) with ⟨eb, en⟩
      rw [he] at CE hun hel
      simp only at CE hun hel
      clear he
      by_cases hn : 0 < en
      · rw [if_pos hn, List.drop_drop] at hun
        have hn2 : ((en : Int) == 0) = false := by simp; omega
        have HU2 : Hid ((out ++ [eb]) ++ unescF f ((bl s).drop (k + en)) = unescR (bl s)) := by show _ = _; rw [← hun]; simp
        clear hun hdr HU
        go_wp2_with fail
        refine (CE.out _).mono ?_
        rintro e w1 ⟨rfl, b1⟩
        have O1 := Lib.hid (own_below OW.out b1)
        have B1 := Lib.hid (BW.out.trans (b1.mono hws))
        have hw1 := B1.out.size
        clear b1
        go_wp2_with (at_builtin; refine wpList_pushB2 (.tmp 23) (.tmp 25) w.heap.size eb _ out.length out O1.out hw1 (by omega) rfl (by rfl) (by rfl) w1.heap.size (by simp) (by rfl) ?_; intro v5 w5 o5 g5 b5; have B5 := Lib.hid (B1.out.grown g5 hw1 (fun q hq => (own_ge O1.out q hq).1)); have O5 := Lib.hid o5; clear o5 g5 b5)
        go_roundw
        case rel => exact ⟨k + en, f, out ++ [eb], by omega, by omega, by go_num, by simp; omega, HU2.out, by rw [List.length_append]; exact O5.out, B5.out⟩
        case measure => simp [intOf]; omega
      · rw [if_neg hn] at hun
        obtain rfl : en = 0 := by omega
        have HU2 : Hid ((out ++ [s[k]]) ++ unescF f ((bl s).drop (k + 1)) = unescR (bl s)) := by show _ = _; rw [← hun]; simp
        clear hun hdr HU hel hn
        go_wp2_with fail
        refine (CE.out _).mono ?_
        rintro e w1 ⟨rfl, b1⟩
        have O1 := Lib.hid (own_below OW.out b1)
        have B1 := Lib.hid (BW.out.trans (b1.mono hws))
        have hw1 := B1.out.size
        clear b1
        go_wp2_with (at_builtin; refine wpList_pushB2 (.tmp 23) (.tmp 25) w.heap.size s[k] _ out.length out O1.out hw1 (by omega) rfl (by rfl) (by rfl) w1.heap.size (by simp) (by rfl) ?_; intro v5 w5 o5 g5 b5; have B5 := Lib.hid (B1.out.grown g5 hw1 (fun q hq => (own_ge O1.out q hq).1)); have O5 := Lib.hid o5; clear o5 g5 b5)
        go_roundw
        case rel => exact ⟨k + 1, f, out ++ [s[k]], by omega, by omega, by go_num, by simp; omega, HU2.out, by rw [List.length_append]; exact O5.out, B5.out⟩
        case measure => simp [intOf]; omega
    · obtain rfl : k = s.size := by omega
      have HR : Hid (out = unescR (bl s)) := by
        have := HU.out
        rw [List.drop_of_length_le (by rw [bl_len]; exact Nat.le_refl _), unescF_nil, List.append_nil] at this
        exact this
      obtain ⟨ra, rc, rfl, rrow, _⟩ := own_formn OW.out
      have kd := conv_row wr ra out.length rc out rrow rfl
      clear rrow
      go_wp2
      go_ret
      exact ⟨by rw [← HR.out]; rfl, BW.out⟩
end Go.Proofs.Ytdoomfckdjjlaaa

/-! A drawn region in all its orders at once, where an operation may use up what another one has made (an append onto a row made in the region): what an operation made need hold only until the one operation that waits for it is done. -/
namespace Go.Proofs.Ytdoomfckdjjlaaa
open Go

/-- o takes what j has made. -/
def takesB (md : Region.Mode) (o : Oper) (j : Nat) : Bool := o.after.any fun e => Region.binds md e && decide (e.ground = .data) && e.on == j
theorem takesB_dep {md : Region.Mode} {o : Oper} {j : Nat} (h : takesB md o j = true) : (o.after.any fun e => Region.binds md e && e.on == j) = true := by
  unfold takesB at h
  rw [Array.any_eq_true'] at h ⊢
  obtain ⟨e, hm, hb⟩ := h
  rw [Bool.and_eq_true, Bool.and_eq_true] at hb
  exact ⟨e, hm, by rw [Bool.and_eq_true]; exact ⟨hb.1.1, hb.2⟩⟩
/-- i takes what j has made, and no other operation does. -/
def onlyB (md : Region.Mode) (ops : Array Oper) (i j : Nat) : Bool := (match ops[i]? with | none => false | some o => takesB md o j) && (List.range ops.size).all fun k => k == i || match ops[k]? with | none => true | some o => !(takesB md o j)
/-- What an operation may lean on: the slots that none writes ahead of it, and those of the operations whose results it takes. -/
def RDeps2 (md : Region.Mode) (ops : Array Oper) (Pr : Nat → World → Value → Prop) (i : Nat) (o : Oper) (a a0 : Act) (w : World) : Prop :=
  (∀ t : Nat, oldB md ops i t = true → a.tmps[t]? = a0.tmps[t]?) ∧
  ∀ (j t : Nat) (oj : Oper), ops[j]? = some oj → oj.dst = some t → takesB md o j = true → ∃ v, a.tmps[t]? = some v ∧ Pr j w v
theorem RDeps2.old {md : Region.Mode} {ops : Array Oper} {Pr : Nat → World → Value → Prop} {i : Nat} {o : Oper} {a a0 : Act} {w : World} (h : RDeps2 md ops Pr i o a a0 w) (t : Nat) (ht : oldB md ops i t = true) : a.tmps[t]? = a0.tmps[t]? := h.1 t ht
theorem RDeps2.dep {md : Region.Mode} {ops : Array Oper} {Pr : Nat → World → Value → Prop} {i : Nat} {o : Oper} {a a0 : Act} {w : World} (h : RDeps2 md ops Pr i o a a0 w) (j t : Nat) {oj : Oper} (hj : ops[j]? = some oj) (ht : oj.dst = some t) (he : takesB md o j = true) : ∃ v, a.tmps[t]? = some v ∧ Pr j w v := h.2 j t oj hj ht he
theorem onlyB_self {md : Region.Mode} {ops : Array Oper} {k i j : Nat} {o : Oper} (h : onlyB md ops k j = true) (ho : ops[i]? = some o) (hd : takesB md o j = true) : k = i := by
  unfold onlyB at h
  rw [Bool.and_eq_true, List.all_eq_true] at h
  have := h.2 i (List.mem_range.2 (Array.getElem?_eq_some_iff.1 ho).1)
  rw [ho] at this
  simp only [hd, Bool.not_true, Bool.or_false] at this
  have e : i = k := by simpa using this
  exact e.symm
def SlotsAt3 (md : Region.Mode) (ops : Array Oper) (a0 : Act) (Pr : Nat → World → Value → Prop) (G : Array Bool → Act → World → Prop) (listed : Array Bool) (a : Act) (w : World) : Prop :=
  a.defers = a0.defers ∧ a.tmps.size = a0.tmps.size ∧ (∀ t : Nat, (∀ (i : Nat) (o : Oper), ops[i]? = some o → o.dst = some t → listed.getD i true = false) → a.tmps[t]? = a0.tmps[t]?) ∧
  (∀ (i : Nat) (o : Oper) (t : Nat), ops[i]? = some o → listed.getD i true = true → o.dst = some t → (∀ k, onlyB md ops k i = true → listed.getD k true = false) → ∃ v, a.tmps[t]? = some v ∧ Pr i w v) ∧ G listed a w ∧ ClosedL md ops listed
theorem region_slots3 {P : Program} {md : Region.Mode} {ops : Array Oper} {Q : Exit → Act → World → Prop} (a0 : Act) (Pr : Nat → World → Value → Prop) (G : Array Bool → Act → World → Prop)
    (hwant : ∀ (i : Nat) (o : Oper), ops[i]? = some o → o.guard = none)
    (hdst : ∀ (i j : Nat) (o o' : Oper) (t : Nat), ops[i]? = some o → ops[j]? = some o' → o.dst = some t → o'.dst = some t → i = j)
    (hsz : ∀ (i : Nat) (o : Oper) (t : Nat), ops[i]? = some o → o.dst = some t → t < a0.tmps.size)
    (hstep : ∀ (listed : Array Bool) (a : Act) (w : World) (i : Nat) (o : Oper), SlotsAt3 md ops a0 Pr G listed a w → ops[i]? = some o → i ∈ Region.ready md ops listed →
      ∀ K : Act → World → Prop, (∀ v w', (∀ t, o.dst = some t → Pr i w' v) → (∀ (j : Nat) u, j ≠ i → listed.getD j true = true → onlyB md ops i j = false → (∀ k, onlyB md ops k j = true → listed.getD k true = false) → Pr j w u → Pr j w' u) → G (listed.setIfInBounds i true) (a.put o.dst v) w' → K (a.put o.dst v) w') → o.wp P a w K Q)
    (hdone : ∀ listed a w, SlotsAt3 md ops a0 Pr G listed a w → Region.ready md ops listed = [] → Q .normal a w)
    (fuel : Nat) (listed : Array Bool) (a : Act) (w : World) (hf : listed.toList.count false ≤ fuel) (h : SlotsAt3 md ops a0 Pr G listed a w) : wpAny P md ops Q fuel listed a w := by
  refine wpAny_inv (SlotsAt3 md ops a0 Pr G) ?_ hdone fuel listed a w hf h
  intro listed a w i h hi
  have hi' := hi
  rw [mem_ready] at hi'
  obtain ⟨h0, o, ho, _⟩ := hi'
  unfold wpOp
  rw [ho]
  have hw : Region.wanted o (yielded ops a.tmps) = true := by simp [Region.wanted, hwant i o ho]
  simp only [hw, if_true]
  refine .inl (hstep listed a w i o h ho hi _ ?_)
  intro v w' hv hkeep hG
  obtain ⟨e1, e2, e3, e4, e5, e6⟩ := h
  have hcl : ClosedL md ops (listed.setIfInBounds i true) := by
    intro j oj hj hl e he hb
    by_cases hei : e.on = i
    · rw [hei]; exact getDset_eq
    · rw [getD_set_ne true (Ne.symm hei)]
      by_cases hji : j = i
      · subst hji
        rw [ho] at hj
        injection hj with hj
        subst hj
        exact getD_up (dep_done hi ho e he hb)
      · rw [getD_set_ne true (Ne.symm hji)] at hl
        exact e6 j oj hj hl e he hb
  have hun : ∀ (t : Nat), (∀ (j : Nat) (oj : Oper), ops[j]? = some oj → oj.dst = some t → (listed.setIfInBounds i true).getD j true = false) → (∀ (j : Nat) (oj : Oper), ops[j]? = some oj → oj.dst = some t → listed.getD j true = false) ∧ o.dst ≠ some t := by
    intro t ht
    refine ⟨fun j oj hj hjt => ?_, fun e => ?_⟩
    · have := ht j oj hj hjt
      by_cases hji : j = i
      · subst hji; exact h0
      · rwa [getD_set_ne true (Ne.symm hji)] at this
    · have := ht i o ho e
      rw [getDset_eq] at this
      cases this
  have hold : ∀ (j : Nat) (oj : Oper) (t : Nat), j ≠ i → ops[j]? = some oj → (listed.setIfInBounds i true).getD j true = true → oj.dst = some t → (∀ k, onlyB md ops k j = true → (listed.setIfInBounds i true).getD k true = false) → ∃ u, a.tmps[t]? = some u ∧ Pr j w' u := by
    intro j oj t hij hj hl hjt hon
    have hl' : listed.getD j true = true := by rwa [getD_set_ne true (Ne.symm hij)] at hl
    have hno : onlyB md ops i j = false := by
      cases hx : onlyB md ops i j with
      | false => rfl
      | true => have := hon i hx; rw [getDset_eq] at this; cases this
    have hon' : ∀ k, onlyB md ops k j = true → listed.getD k true = false := fun k hk => by
      have := hon k hk
      by_cases hki : k = i
      · subst hki; exact h0
      · rwa [getD_set_ne true (Ne.symm hki)] at this
    obtain ⟨u, hu, hp⟩ := e4 j oj t hj hl' hjt hon'
    exact ⟨u, hu, hkeep j u hij hl' hno hon' hp⟩
  cases hd : o.dst with
  | none =>
    refine ⟨e1, e2, fun t ht => e3 t (hun t ht).1, ?_, by rw [hd] at hG; exact hG, hcl⟩
    intro j oj t hj hl hjt hon
    by_cases hij : j = i
    · subst hij
      rw [ho] at hj
      injection hj with hj
      subst hj
      rw [hd] at hjt
      cases hjt
    · exact hold j oj t hij hj hl hjt hon
  | some d =>
    have hds := hsz i o d ho hd
    refine ⟨e1, by simpa [Act.put] using e2, ?_, ?_, by rw [hd] at hG; exact hG, hcl⟩
    · intro t ht
      have hne : d ≠ t := fun e => (hun t ht).2 (by rw [hd, e])
      show (a.tmps.setIfInBounds d v)[t]? = _
      rw [Array.getElem?_setIfInBounds_ne hne]
      exact e3 t (hun t ht).1
    · intro j oj t hj hl hjt hon
      by_cases hij : j = i
      · subst hij
        rw [ho] at hj
        injection hj with hj
        subst hj
        rw [hd] at hjt
        injection hjt with hjt
        subst hjt
        refine ⟨v, ?_, hv _ hd⟩
        show (a.tmps.setIfInBounds d v)[d]? = _
        rw [Array.getElem?_setIfInBounds_self, if_pos (by omega)]
      · obtain ⟨u, hu, hp⟩ := hold j oj t hij hj hl hjt hon
        have hne : d ≠ t := fun e => hij (hdst j i oj o d hj ho (by rw [hjt, e]) hd)
        refine ⟨u, ?_, hp⟩
        show (a.tmps.setIfInBounds d v)[t]? = _
        rw [Array.getElem?_setIfInBounds_ne hne]
        exact hu
/-- No operation alone waits for i. -/
def endB (md : Region.Mode) (ops : Array Oper) (i : Nat) : Bool := (List.range ops.size).all fun k => !onlyB md ops k i
theorem endB_spec {md : Region.Mode} {ops : Array Oper} {i : Nat} (h : endB md ops i = true) (k : Nat) : onlyB md ops k i = false := by
  by_cases hk : k < ops.size
  · unfold endB at h
    rw [List.all_eq_true] at h
    simpa using h k (List.mem_range.2 hk)
  · unfold onlyB
    rw [Array.getElem?_eq_none (by omega)]
    rfl
theorem region_free2 {P : Program} {md : Region.Mode} {ops : Array Oper} {Q : Exit → Act → World → Prop} {a0 : Act} {w0 : World} {fuel : Nat} {listed : Array Bool} (Pr : Nat → World → Value → Prop) (G : Array Bool → Act → World → Prop) (n N : Nat)
    (hB : slotsB ops n = true) (hn : n ≤ a0.tmps.size) (hD : depsB md ops = true) (hN : ops.size = N) (hl : listed = Array.replicate N false) (hf : listed.toList.count false ≤ fuel)
    (hG : G (Array.replicate N false) a0 w0)
    (hstep : ∀ (i : Nat) (o : Oper), ops[i]? = some o → ∀ (listed : Array Bool) (w : World) (a : Act), listed.size = N → listed.getD i true = false → (∀ j : Nat, (o.after.any fun e => Region.binds md e && e.on == j) = true → listed.getD j true = true) → G listed a w → RDeps2 md ops Pr i o a a0 w →
      ∀ K : Act → World → Prop, (∀ v w', (o.dst = none ∨ Pr i w' v) → (∀ (j : Nat) u, j ≠ i → listed.getD j true = true → onlyB md ops i j = false → (∀ k, onlyB md ops k j = true → listed.getD k true = false) → Pr j w u → Pr j w' u) → G (listed.setIfInBounds i true) (a.put o.dst v) w' → K (a.put o.dst v) w') → o.wp P a w K Q)
    (hdone : ∀ (listed : Array Bool) (a : Act) (w : World), (∀ i : Nat, i < N → listed.getD i true = true) → a.defers = a0.defers → a.tmps.size = a0.tmps.size → (∀ t : Nat, (ops.toList.all fun o => o.dst != some t) = true → a.tmps[t]? = a0.tmps[t]?) →
      (∀ (i t : Nat) (o : Oper), ops[i]? = some o → o.dst = some t → endB md ops i = true → ∃ v, a.tmps[t]? = some v ∧ Pr i w v) → G listed a w → Q .normal a w) :
    wpAny P md ops Q fuel listed a0 w0 := by
  subst hl
  refine region_slots3 a0 Pr (fun listed a w => G listed a w ∧ listed.size = ops.size) (fun _ _ ho => slotsB_guard hB _ _ ho) (slotsB_dst hB) (fun i o t ho ht => by have := slotsB_size hB i o t ho ht; omega) ?_ ?_ fuel _ a0 w0 hf ?_
  · intro listed a w i o hS ho hi K hK
    obtain ⟨hg, hsz⟩ := hS.2.2.2.2.1
    have h0 := (mem_ready.1 hi).1
    have hdep : ∀ j : Nat, (o.after.any fun e => Region.binds md e && e.on == j) = true → listed.getD j true = true := by
      intro j he
      rw [Array.any_eq_true'] at he
      obtain ⟨e, hm, hb⟩ := he
      rw [Bool.and_eq_true] at hb
      have h1 := dep_done hi ho e hm hb.1
      have : e.on = j := by simpa using hb.2
      rw [this] at h1
      exact getD_up h1
    refine hstep i o ho listed w a (hsz.trans hN) h0 hdep hg ⟨fun t ht => hS.2.2.1 t (oldB_spec hS.2.2.2.2.2 h0 ht), fun j t oj hj ht he => hS.2.2.2.1 j oj t hj (hdep j (takesB_dep he)) ht (fun k hk => by rw [onlyB_self hk ho he]; exact h0)⟩ K ?_
    intro v w' hv hkeep hg'
    refine hK v w' (fun t ht => ?_) hkeep ⟨hg', by rw [Array.size_setIfInBounds]; exact hsz⟩
    rcases hv with hv | hv
    · rw [hv] at ht; cases ht
    · exact hv
  · intro listed a w hS hr
    obtain ⟨hg, hsz⟩ := hS.2.2.2.2.1
    have hall : ∀ i : Nat, i < N → listed.getD i true = true := fun i hi => ready_all hr hsz (depsB_spec hD) (i + 1) i (by omega) ops[i] (Array.getElem?_eq_getElem (by omega))
    refine hdone listed a w hall hS.1 hS.2.1 (fun t h => hS.2.2.1 t (fun i o ho e => ?_)) ?_ hg
    · rw [List.all_eq_true] at h
      have := h o (Array.mem_toList_iff.2 (Array.mem_of_getElem? ho))
      rw [e] at this
      simp at this
    · intro i t o ho ht he
      exact hS.2.2.2.1 i o t ho (hall i (by have := (Array.getElem?_eq_some_iff.1 ho).1; omega)) ht (fun k hk => by rw [endB_spec he k] at hk; cases hk)
  · refine ⟨rfl, rfl, fun _ _ => rfl, ?_, ⟨hG, by rw [Array.size_replicate]; exact hN.symm⟩, closed_start hN⟩
    intro i o t ho hl hd _
    exfalso
    have hlt : i < N := by have := (Array.getElem?_eq_some_iff.1 ho).1; omega
    rw [Array.getD_eq_getD_getElem?, Array.getElem?_replicate, if_pos hlt] at hl
    cases hl
end Go.Proofs.Ytdoomfckdjjlaaa

/-! spec.l6Put and spec.l6Close (printed by gen_l6.py). -/
namespace Go.Proofs.Ytdoomfckdjjlaaa
open Go.RowKit

set_option maxRecDepth 100000 in
set_option maxHeartbeats 1600000 in
theorem spec_l6Put (v : Value) (B n : Nat) (L : List TokP) (t : TokP) (w : World) (own : w.ownsRow B 53 4 v n (tokPC L)) (hn : n ≤ 1000) (hB : B ≤ w.heap.size) (hK : t.K = 1 ∨ t.K = 5) :
    Calls Try.prog 64 #[v, .agg #[.int .i64 (t.K : Int), .string t.N, .string t.V, .slice t.a t.p t.c]] w fun e w' =>
      ∃ v', e = .returned v' ∧ (t.V = ⟨#[]⟩ → w'.ownsRow B 53 4 v' n (tokPC L)) ∧ (t.V ≠ ⟨#[]⟩ → w'.ownsRow B 53 4 v' (n + 1) (tokPC (L ++ [t]))) ∧ w.grownBy w' v.ownBlock ∧ (v'.ownBlock = v.ownBlock ∨ ∃ k, v'.ownBlock = some k ∧ w.heap.size ≤ k) := by
  have OW := Lib.hid own
  obtain ⟨K, N, V, a, p, c⟩ := t
  simp only at hK ⊢
  clear own
  obtain ⟨z, hz⟩ : ∃ z : Int, (K : Int) = z := ⟨_, rfl⟩
  have hzz : (z == 1) = true ∨ ((z == 1) = false ∧ (z == 5) = true) := by
    rcases hK with h | h
    · exact .inl (by rw [← hz, h]; rfl)
    · exact .inr ⟨by rw [← hz, h]; rfl, by rw [← hz, h]; rfl⟩
  rw [hz]
  clear hK
  by_cases hV : V = ⟨#[]⟩
  · subst hV
    have G0 : Hid (w.grownBy (w.alloc (.cells #[.int .i64 z, .string N, .string ⟨#[]⟩, .slice a p c] 53 (0, 0))) v.ownBlock) := World.grownBy_alloc _ _ _
    have O1 : Hid ((w.alloc (.cells #[.int .i64 z, .string N, .string ⟨#[]⟩, .slice a p c] 53 (0, 0))).ownsRow B 53 4 v n (tokPC L)) := ownN_below OW.out ((Below.refl _ _).alloc (Nat.le_refl _) _)
    rcases hzz with e1 | ⟨e1, e2⟩
    · go_enter Try.func64, Try.ntmps64
      go_wp2
      go_ret
      exact ⟨_, rfl, fun _ => O1.out, fun h => absurd rfl h, G0.out, .inl rfl⟩
    · go_enter Try.func64, Try.ntmps64
      go_wp2
      go_ret
      exact ⟨_, rfl, fun _ => O1.out, fun h => absurd rfl h, G0.out, .inl rfl⟩
  · have hem := tl_no hV
    have hem2 : V.toList.isEmpty = false := by
      rcases hb : V.toList.isEmpty with _ | _
      · rfl
      · rw [List.isEmpty_iff] at hb
        exact absurd (by rw [ByteArray.toList_eq] at hb; exact bl_inj (a := V) (b := ⟨#[]⟩) hb) hV
    have HV := Lib.hid hV
    clear hV
    rcases hzz with e1 | ⟨e1, e2⟩
    all_goals (
      have O1 : Hid ((w.alloc (.cells #[.int .i64 z, .string N, .string V, .slice a p c] 53 (0, 0))).ownsRow B 53 4 v n (tokPC L)) := ownN_below OW.out ((Below.refl _ _).alloc (Nat.le_refl _) _)
      have hB1 : B ≤ (w.alloc (.cells #[.int .i64 z, .string N, .string V, .slice a p c] 53 (0, 0))).heap.size := by simp; omega
      subst hz
      go_enter Try.func64, Try.ntmps64
      go_wp2_with (at_builtin; refine wpList_pushTokP (.tmp 19) (.tmp 21) B (⟨K, N, V, a, p, c⟩ : TokP) _ n L O1.out hB1 (by omega) rfl (by rfl) (by rfl) (w.heap.size + 1) (by simp) (by rfl) ?_; intro v5 w5 o5 g5 a5; have O5 := Lib.hid o5; have G5 := Lib.hid ((World.grownBy_alloc w _ v.ownBlock).trans g5); have A5 : Hid (v5.ownBlock = v.ownBlock ∨ ∃ k, v5.ownBlock = some k ∧ w.heap.size ≤ k) := (by rcases a5 with e | ⟨k, e, hk⟩; exact .inl e; exact .inr ⟨k, e, by simp at hk; omega⟩); clear o5 g5 a5)
      go_ret
      exact ⟨_, rfl, fun h => absurd h HV.out, fun _ => O5.out, G5.out, A5.out⟩)
/-- A row put behind an empty one: a copy. -/
theorem oper_clone {o : Oper} {a : Act} {w : World} {K : Act → World → Prop} {Q : Exit → Act → World → Prop} (s x : Operand) (H b pg m pc : Nat) (R : List (ByteArray × ByteArray)) {B : Nat}
    (o0 : w.ownsRow H 60 2 (.slice (some ⟨b, 0, none⟩) 0 0) 0 []) (own : w.ownsRow B 60 2 (.slice (some ⟨pg, 0, none⟩) m pc) m (pairC R)) (hR : R.length = m) (hm : m ≤ 1000) (hH : H ≤ w.heap.size)
    (ho : o.op = .call { callee := .builtin .append, args := #[s, x], argTypes := #[51, 51] }) (hs : a.eval s = .slice (some ⟨b, 0, none⟩) 0 0) (hx : a.eval x = .slice (some ⟨pg, 0, none⟩) m pc)
    (h : ∀ v' w', w'.ownsRow H 60 2 v' m (pairC R) → w.grownBy w' none → K (a.put o.dst v') w') : o.wp Try.prog a w K Q := by
  obtain ⟨i0, hi, hz0, hz1, hz2⟩ := info_parts info_pair
  have hcells : ∀ j u, (pairC R)[j]? = some u → w.cell? ((⟨pg, 0, none⟩ : Addr).add j) = some u := own.cells (g := pg) rfl
  by_cases h0 : m = 0
  · subst h0
    have hR0 : R = [] := List.eq_nil_of_length_eq_zero hR
    subst hR0
    have hr := run_append_nothing (P := Try.prog) w 51 51 o.type 60 i0 Try.underlying51 hi (some ⟨b, 0, none⟩) 0 0 (Nat.le_refl _) (.slice (some ⟨pg, 0, none⟩) 0 pc) (Src.ofSlice w Try.underlying51 ⟨pg, 0, none⟩ 0 pc [] (by simp) (by intro j u hu; simp at hu) (by simp))
    unfold Oper.wp execOp
    simp only [ho, resolve, invoke, builtin, Sem.run_bind, Sem.run_pure, Result.andThen_ok, List.map_toArray, List.map_cons, List.map_nil, hs, hx, hr]
    exact h _ _ o0 (grown_refl _ _)
  · obtain ⟨v', w', hr, r1, r2⟩ := run_append_arg_grows (P := Try.prog) w 51 o.type 60 i0 _ 2 32 Try.underlying51 hi hz0 hz1 hz2 rfl (by omega) ⟨b, 0, none⟩ 0 0 [] (by simp) (by intro j u hu; simp at hu) ⟨pg, 0, none⟩ m pc (pairC R) (by rw [pairC_len, hR]) hcells (by omega) (by simp only [maxLen]; omega) (by omega)
    unfold Oper.wp execOp
    simp only [ho, resolve, invoke, builtin, Sem.run_bind, Sem.run_pure, Result.andThen_ok, List.map_toArray, List.map_cons, List.map_nil, hs, hx, hr]
    rw [Nat.zero_add, List.nil_append] at r1
    exact h _ _ (ownN_mono r1 hH) r2

def clSlot (H m pg pc nb : Nat) (Q : List (ByteArray × ByteArray)) (A x U : ByteArray) : Nat → World → Value → Prop
  | 0, w, v => w.ownsRow H 60 2 v 0 [] ∧ ∃ b, v = .slice (some ⟨b, 0, none⟩) 0 0
  | 1, _, v => v = .slice (some ⟨pg, 0, none⟩) m pc
  | 2, w, v => w.ownsRow H 60 2 v m (pairC Q)
  | 3, _, v => v = .pointer (some ⟨nb, 2, none⟩)
  | 4, _, v => v = .string A
  | 5, _, v => v = .string x
  | 6, _, v => v = .string U
  | 7, _, v => v = .agg #[.string A, .string U]
  | 8, w, v => ∃ b : Nat, H ≤ b ∧ v = .slice (some ⟨b, 0, none⟩) 1 1 ∧ w.heap[b]? = some (.cells #[.string A, .string U] 60 (0, 0))
  | 9, w, v => ∃ g c : Nat, v = .slice (some ⟨g, 0, none⟩) (m + 1) c ∧ w.ownsRow H 60 2 v (m + 1) (pairC (Q ++ [(A, U)]))
  | 10, w, v => ∃ g c : Nat, v = .slice (some ⟨g, 0, none⟩) (m + 1) c ∧ w.ownsRow H 60 2 v (m + 1) (pairC (Q ++ [(A, U)]))
  | _, _, _ => True
section
variable {H m pg pc nb : Nat} {Q : List (ByteArray × ByteArray)} {A x U : ByteArray} {w0 w w' : World} {listed : Array Bool}
theorem heap_none {b : Nat} {o : Obj} (hg : w.grownBy w' none) (h : w.heap[b]? = some o) : w'.heap[b]? = some o := (hg.block b (Array.getElem?_eq_some_iff.1 h).1 (by simp)).trans h
theorem ownN_none {B k n : Nat} {e : TypeId} {v : Value} {l : List Value} (h : w.ownsRow B e k v n l) (hg : w.grownBy w' none) : w'.ownsRow B e k v n l := ownN_other h hg (fun _ _ e => by cases e)
theorem cl_kept (hg : w.grownBy w' none) (j : Nat) (v : Value) (h : clSlot H m pg pc nb Q A x U j w v) : clSlot H m pg pc nb Q A x U j w' v := by
  unfold clSlot at h ⊢
  split at h
  all_goals first
    | exact h
    | exact ⟨ownN_none h.1 hg, h.2⟩
    | exact ownN_none h hg
    | (obtain ⟨b, hb, hv, hc⟩ := h; exact ⟨b, hb, hv, heap_none hg hc⟩)
    | (obtain ⟨g, c, hv, hc⟩ := h; exact ⟨g, c, hv, ownN_none hc hg⟩)
theorem cl_kept9 (j : Nat) (v : Value) (h0 : j ≠ 0) (h2 : j ≠ 2) (h8 : j ≠ 8) (h9 : j ≠ 9) (h10 : j ≠ 10) (h : clSlot H m pg pc nb Q A x U j w v) : clSlot H m pg pc nb Q A x U j w' v := by
  unfold clSlot at h ⊢
  split at h
  all_goals first
    | exact h
    | exact absurd rfl h0
    | exact absurd rfl h2
    | exact absurd rfl h8
    | exact absurd rfl h9
    | exact absurd rfl h10
def GCl (H : Nat) (w0 : World) (listed : Array Bool) (w : World) : Prop := Below H w0 w ∧ (listed.getD 10 true = true → listed.getD 9 true = true) ∧ H ≤ w.heap.size
theorem GCl.keep {i : Nat} (h : GCl H w0 listed w) (hi : i ≠ 9 ∧ i ≠ 10) (hg : w.grownBy w' none) : GCl H w0 (listed.setIfInBounds i true) w' := by
  refine ⟨h.1.grown hg h.2.2 (by intro q hq; cases hq), ?_, Nat.le_trans h.2.2 hg.size⟩
  rw [listed_keep hi.1, listed_keep hi.2]; exact h.2.1
theorem GCl.push {row : Option Nat} (h : GCl H w0 listed w) (hg : w.grownBy w' row) (hr : ∀ q, row = some q → H ≤ q) : GCl H w0 (listed.setIfInBounds 9 true) w' := ⟨h.1.grown hg h.2.2 hr, fun _ => getDset_eq, Nat.le_trans h.2.2 hg.size⟩
theorem GCl.last (h : GCl H w0 listed w) (h9 : listed.getD 9 true = true) : GCl H w0 (listed.setIfInBounds 10 true) w := by
  refine ⟨h.1, ?_, h.2.2⟩
  intro _; rw [listed_keep (by decide)]; exact h9
end
set_option maxRecDepth 100000 in
set_option maxHeartbeats 1600000 in
theorem spec_l6Close (s : St) (x : ByteArray) (pg m pc B : Nat) (Q : List (ByteArray × ByteArray)) (w : World) (own : w.ownsRow B 60 2 (.slice (some ⟨pg, 0, none⟩) m pc) m (pairC Q)) (hQ : Q.length = m) (hm : m ≤ 1000) (hB : B ≤ w.heap.size) (hx : x.size ≤ 1048576) :
    Calls Try.prog 67 #[.slice (some ⟨pg, 0, none⟩) m pc, stV s, .string x] w fun e w' =>
      ∃ (g c : Nat) (Q' : List (ByteArray × ByteArray)), e = .returned (.slice (some ⟨g, 0, none⟩) (clR s.M m) c) ∧ Q'.length = clR s.M m ∧ w'.ownsRow B 60 2 (.slice (some ⟨g, 0, none⟩) (clR s.M m) c) (clR s.M m) (pairC Q') ∧ Below w.heap.size w w' := by
  obtain ⟨M, T, A, EE⟩ := s
  rw [st_agg]
  simp only
  have CL := Lib.hid (fun W => spec_l1In_any (M : Int) 4 8 W)
  have OW := Lib.hid own
  have HQ0 := Lib.hid hQ
  clear own
  by_cases hM : 4 ≤ M ∧ M ≤ 8
  · have e1 : (decide ((4 : Int) ≤ (M : Int)) && decide ((M : Int) ≤ 8)) = true := by
      rw [decide_eq_true (by omega : (4 : Int) ≤ (M : Int)), decide_eq_true (by omega : (M : Int) ≤ 8)]; rfl
    rw [e1] at CL
    rw [show clR M m = m + 1 by unfold clR; rw [if_pos hM]]
    clear e1 hM hQ
    obtain ⟨nb, hnb⟩ : ∃ nb, w.heap.size = nb := ⟨_, rfl⟩
    have HAC0 : Hid ((w.alloc (.cells #[.int .i64 (M : Int), .string (mkS T), .string (mkS A), .bool EE] 57 (0, 0))).cell? ⟨nb, 2, none⟩ = some (.string (mkS A))) := by
      show _ = _
      rw [← hnb, World.cell?_alloc_mark]; rfl
    have BW0 : Hid (Below w.heap.size w (w.alloc (.cells #[.int .i64 (M : Int), .string (mkS T), .string (mkS A), .bool EE] 57 (0, 0)))) := (Below.refl _ _).alloc (Nat.le_refl _) _
    have OW0 := Lib.hid (ownN_below OW.out BW0.out)
    have hn0 : nb < (w.alloc (.cells #[.int .i64 (M : Int), .string (mkS T), .string (mkS A), .bool EE] 57 (0, 0))).heap.size := by rw [World.size_alloc]; omega
    go_enter Try.func67, Try.ntmps67
    go_wp2_with fail
    refine (CL.out _).mono ?_
    rintro e w1 ⟨rfl, rfl⟩
    go_wp2
    obtain ⟨i0, hi, hz0, hz1, hz2⟩ := info_parts info_pair
    have CU := Lib.hid (fun W => spec_UnescapeText x W hx)
    generalize mkS (unescR (bl x)) = U at *
    generalize hw1 : w.alloc (.cells #[.int .i64 (M : Int), .string (mkS T), .string (mkS A), .bool EE] 57 (0, 0)) = w1 at *
    clear hw1
    obtain ⟨H, hHH⟩ : ∃ H, w1.heap.size = H := ⟨_, rfl⟩
    have hHs : w1.drew.heap.size = H := hHH
    generalize mkS A = AA at *
    have OWN : Hid (w1.drew.ownsRow B 60 2 (.slice (some ⟨pg, 0, none⟩) m pc) m (pairC Q)) := ownN_below OW0.out (Below.refl _ _).drew
    have HAC : Hid (w1.drew.cell? ⟨nb, 2, none⟩ = some (.string AA)) := HAC0.out
    have hnbl : (⟨nb, 2, none⟩ : Addr).block < H := by rw [← hHH]; exact hn0
    have HQ := Lib.hid HQ0.out
    clear HAC0 OW0 OW CL
    refine wp_region_any (by kernel_rfl) ?_
    rename_i KK hKK
    subst hHs
    refine region_free2 (clSlot w1.drew.heap.size m pg pc nb Q AA x U) (fun listed _ wx => GCl w1.drew.heap.size w1.drew listed wx) 21 11 (by kernel_rfl) (Nat.le_refl 21) (by kernel_rfl) rfl rfl (by decide) ?start ?step ?done
    case start => exact ⟨Below.refl _ _, by decide, Nat.le_refl _⟩
    case step =>
      intro i o ho listed wx a hls hli hdp hG hD KC hK
      have hlt : i < 11 := by have := (Array.getElem?_eq_some_iff.1 ho).1; simpa using this
      rcases (show i = 0 ∨ i = 1 ∨ i = 2 ∨ i = 3 ∨ i = 4 ∨ i = 5 ∨ i = 6 ∨ i = 7 ∨ i = 8 ∨ i = 9 ∨ i = 10 by omega) with rfl | rfl | rfl | rfl | rfl | rfl | rfl | rfl | rfl | rfl | rfl
      · obtain rfl := Option.some.inj ho
        clear hD
        unfold Oper.wp
        simp [execOp, Act.eval]
        go_simp
        exact hK _ _ (.inr ⟨ownN_mono (ownN_new _ #[] 60 2 0 rfl (by omega)) hG.1.size, _, rfl⟩) (fun j u _ _ _ _ h => cl_kept (World.grownBy_alloc _ _ _) j u h) (hG.keep (by decide) (World.grownBy_alloc _ _ _))
      · have h0 := hD.old 0 (by kernel_rfl)
        obtain rfl := Option.some.inj ho
        clear hD
        unfold Oper.wp
        simp [execOp, Act.eval, h0]
        exact hK _ _ (.inr rfl) (fun _ _ _ _ _ _ h => h) (hG.keep (by decide) (grown_refl _ _))
      · obtain ⟨v0, s0, o0, b0, hv0⟩ := hD.dep 0 10 rfl rfl (by obtain rfl := Option.some.inj ho; kernel_rfl)
        obtain ⟨v1, s1, hv1⟩ := hD.dep 1 11 rfl rfl (by obtain rfl := Option.some.inj ho; kernel_rfl)
        rw [show v1 = _ from hv1] at s1
        obtain rfl := Option.some.inj ho
        clear hD
        subst hv0
        refine oper_clone (.tmp 10) (.tmp 11) w1.drew.heap.size b0 pg m pc Q o0 (ownN_below OWN.out hG.1) HQ.out (by omega) hG.1.size rfl (by simp [Act.eval, s0]) (by simp [Act.eval, s1]) ?_
        intro v' w' o' g'
        exact hK _ _ (.inr o') (fun j u _ _ _ _ h => cl_kept g' j u h) (hG.keep (by decide) g')
      · have h4 := hD.old 4 (by kernel_rfl)
        obtain rfl := Option.some.inj ho
        clear hD
        unfold Oper.wp
        simp [execOp, Act.eval, h4]
        go_simp
        exact hK _ _ (.inr rfl) (fun _ _ _ _ _ _ h => h) (hG.keep (by decide) (grown_refl _ _))
      · obtain ⟨v3, s3, rfl⟩ := hD.dep 3 13 rfl rfl (by obtain rfl := Option.some.inj ho; kernel_rfl)
        obtain rfl := Option.some.inj ho
        clear hD
        have hcc := (hG.1.cell (p := ⟨nb, 2, none⟩) hnbl).trans HAC.out
        unfold Oper.wp
        simp [execOp, Act.eval, s3]
        go_simp
        exact hK _ _ (.inr rfl) (fun _ _ _ _ _ _ h => h) (hG.keep (by decide) (grown_refl _ _))
      · have h2 := hD.old 2 (by kernel_rfl)
        obtain rfl := Option.some.inj ho
        clear hD
        unfold Oper.wp
        simp [execOp, Act.eval, h2]
        exact hK _ _ (.inr rfl) (fun _ _ _ _ _ _ h => h) (hG.keep (by decide) (grown_refl _ _))
      · obtain ⟨v5, s5, rfl⟩ := hD.dep 5 15 rfl rfl (by obtain rfl := Option.some.inj ho; kernel_rfl)
        obtain rfl := Option.some.inj ho
        clear hD
        unfold Oper.wp
        simp [execOp]
        go_simp
        refine (CU.out _).mono ?_
        rintro e w1 ⟨rfl, b1⟩
        exact hK _ _ (.inr rfl) (fun j u _ _ _ _ h => cl_kept (grown_of_below b1 none) j u h) (hG.keep (by decide) (grown_of_below b1 none))
      · obtain ⟨v4, s4, rfl⟩ := hD.dep 4 14 rfl rfl (by obtain rfl := Option.some.inj ho; kernel_rfl)
        obtain ⟨v6, s6, rfl⟩ := hD.dep 6 16 rfl rfl (by obtain rfl := Option.some.inj ho; kernel_rfl)
        obtain rfl := Option.some.inj ho
        clear hD
        unfold Oper.wp
        simp [execOp, Act.eval, s4, s6]
        go_simp
        exact hK _ _ (.inr rfl) (fun _ _ _ _ _ _ h => h) (hG.keep (by decide) (grown_refl _ _))
      · obtain ⟨v7, s7, rfl⟩ := hD.dep 7 17 rfl rfl (by obtain rfl := Option.some.inj ho; kernel_rfl)
        obtain rfl := Option.some.inj ho
        clear hD
        unfold Oper.wp
        simp [execOp, Act.eval, s7]
        go_simp
        exact hK _ _ (.inr ⟨_, hG.1.size, rfl, heap_alloc_new _ _⟩) (fun j u _ _ _ _ h => cl_kept (World.grownBy_alloc _ _ _) j u h) (hG.keep (by decide) (World.grownBy_alloc _ _ _))
      · obtain ⟨v2, s2, own⟩ := hD.dep 2 12 rfl rfl (by obtain rfl := Option.some.inj ho; kernel_rfl)
        obtain ⟨v8, s8, b8, hb8, rfl, hc8⟩ := hD.dep 8 18 rfl rfl (by obtain rfl := Option.some.inj ho; kernel_rfl)
        have l2 := hdp 2 (by obtain rfl := Option.some.inj ho; kernel_rfl)
        obtain rfl := Option.some.inj ho
        clear hD
        refine wp_append_lies _ (.tmp 12) (.tmp 18) _ rfl w1.drew.heap.size 60 i0 _ 2 32 Try.underlying51 hi hz0 hz1 hz2 rfl (by omega) v2 m (pairC Q) (by simp [Act.eval, s2]) own ⟨b8, 0, none⟩ 1 1 (pairC [(AA, U)]) (by simp [Act.eval, s8]) rfl (World.news_of_block hc8) (pairC_one _) (by omega) (by simp only [maxLen]; omega) (by omega) hG.1.size _ rfl ?_
        intro g cap w' o' g' _ _
        exact hK _ _ (.inr ⟨g, cap, rfl, by rw [pairC_app]; exact o'⟩) (fun j u hj hl hno hon h => cl_kept9 j u (fun e => by subst e; have := hon 2 (by kernel_rfl); rw [l2] at this; cases this) (fun e => by subst e; have := hno; rw [show onlyB _ _ 9 2 = true by kernel_rfl] at this; cases this) (fun e => by subst e; have := hno; rw [show onlyB _ _ 9 8 = true by kernel_rfl] at this; cases this) hj (fun e => by subst e; have := hG.2.1 hl; rw [hli] at this; cases this) h) (hG.push g' (fun q hq => (ownN_ge own q hq).1))
      · obtain ⟨v9, s9, own⟩ := hD.dep 9 19 rfl rfl (by obtain rfl := Option.some.inj ho; kernel_rfl)
        have l9 := hdp 9 (by obtain rfl := Option.some.inj ho; kernel_rfl)
        obtain rfl := Option.some.inj ho
        clear hD
        unfold Oper.wp
        simp [execOp, Act.eval, s9]
        exact hK _ _ (.inr own) (fun _ _ _ _ _ _ h => h) (hG.last l9)
    case done =>
      intro listed a wx hall hd hsz hold hdst hG
      obtain ⟨v6, h6, g, c, hv6, own6⟩ := hdst 10 6 _ rfl rfl (by kernel_rfl)
      have hf := act_frame [10, 11, 12, 13, 14, 15, 16, 17, 18, 19, 6] (by kernel_rfl) hd hsz hold
      have e6 : a.tmps.getD 6 undef = v6 := by rw [Array.getD_eq_getD_getElem?, h6]; rfl
      simp only [List.foldl_cons, List.foldl_nil] at hf
      rw [e6] at hf
      have BX := Lib.hid (BW0.out.trans ((Below.refl _ w1).drew.trans (hG.1.mono (Nat.le_refl _)) |>.mono BW0.out.size))
      have O6 := Lib.hid own6
      clear hall hd hsz hold hdst hG own6 h6 e6
      generalize a.tmps.getD 10 undef = y10, a.tmps.getD 11 undef = y11, a.tmps.getD 12 undef = y12, a.tmps.getD 13 undef = y13, a.tmps.getD 14 undef = y14, a.tmps.getD 15 undef = y15, a.tmps.getD 16 undef = y16, a.tmps.getD 17 undef = y17, a.tmps.getD 18 undef = y18, a.tmps.getD 19 undef = y19 at hf
      refine hKK _ _ ?_
      rw [hf]
      clear hf
      subst hv6
      go_wp2
      subst hnb
      go_ret
      exact ⟨g, c, rfl, Q ++ [(AA, U)], by rw [List.length_append, HQ.out]; rfl, ownN_mono O6.out (by have := BW0.out.size; have : w1.heap.size ≤ w1.drew.heap.size := Nat.le_refl _; omega), BX.out⟩
  · have e1 : (decide ((4 : Int) ≤ (M : Int)) && decide ((M : Int) ≤ 8)) = false := by
      by_cases h4 : 4 ≤ M
      · rw [decide_eq_false (by omega : ¬ (M : Int) ≤ 8), Bool.and_false]
      · rw [decide_eq_false (by omega : ¬ (4 : Int) ≤ (M : Int))]; rfl
    rw [e1] at CL
    rw [show clR M m = m by unfold clR; rw [if_neg hM]]
    clear e1 hM hQ
    have BW0 : Hid (Below w.heap.size w (w.alloc (.cells #[.int .i64 (M : Int), .string (mkS T), .string (mkS A), .bool EE] 57 (0, 0)))) := (Below.refl _ _).alloc (Nat.le_refl _) _
    have OW0 := Lib.hid (ownN_below OW.out BW0.out)
    go_enter Try.func67, Try.ntmps67
    go_wp2_with fail
    refine (CL.out _).mono ?_
    rintro e w1 ⟨rfl, rfl⟩
    go_wp2
    go_ret
    exact ⟨pg, pc, Q, rfl, HQ0.out, OW0.out, BW0.out⟩
end Go.Proofs.Ytdoomfckdjjlaaa

/-! spec.Tokenize: what its memory holds. -/
namespace Go.Proofs.Ytdoomfckdjjlaaa
open Go.RowKit

def sigR (t : TokP) : Tok × Nat := (t.core, t.p)
/-- What a call answers: the tokens, or none. -/
def TokAnsR (w : World) (r : Option (List (Tok × Nat))) (e : Ending) (w' : World) : Prop :=
  match r with
  | some o => TkPost w (fun L => L.map sigR = o) e w'
  | none => (∃ b : Nat, e = .returned (.tuple #[.slice (some ⟨b, 0, none⟩) 0 0, .bool false])) ∧ Below w.heap.size w w'
theorem tokAnsR_none {w w' : World} {r : Option (List (Tok × Nat))} {b : Nat} (h : r = none) (hb : Below w.heap.size w w') : TokAnsR w r (.returned (.tuple #[.slice (some ⟨b, 0, none⟩) 0 0, .bool false])) w' := by subst h; exact ⟨⟨b, rfl⟩, hb⟩
/-- The memory at the head of a round. -/
structure TkH (w : World) (out : Value) (L : List TokP) (s : St) (pg p pc : Nat) (Q : List (ByteArray × ByteArray)) (W : World) : Prop where
  o : W.ownsRow w.heap.size 53 4 out L.length (tokPC L)
  s : W.heap[w.heap.size + 1]? = some (.cells (stC s) 57 (0, 0))
  q : W.ownsRow w.heap.size 60 2 (.slice (some ⟨pg, 0, none⟩) p pc) p (pairC Q)
  b : Below w.heap.size w W
/-- The same, with the next state in a block. -/
structure TkM (w : World) (out : Value) (L : List TokP) (s : St) (pg p pc : Nat) (Q : List (ByteArray × ByteArray)) (nb : Nat) (s2 : St) (W : World) : Prop where
  h : TkH w out L s pg p pc Q W
  m : W.heap[nb]? = some (.cells (stC s2) 57 (0, 0))
  n : nb ≠ w.heap.size + 1
section
variable {w W W' : World} {out : Value} {L : List TokP} {s s2 : St} {pg p pc nb : Nat} {Q : List (ByteArray × ByteArray)}
theorem TkH.below (h : TkH w out L s pg p pc Q W) (hb : Below W.heap.size W W') : TkH w out L s pg p pc Q W' :=
  ⟨ownN_below h.o hb, (hb.block _ (bld_ltS h.s)).trans h.s, ownN_below h.q hb, h.b.trans (hb.mono h.b.size)⟩
theorem TkM.below (h : TkM w out L s pg p pc Q nb s2 W) (hb : Below W.heap.size W W') : TkM w out L s pg p pc Q nb s2 W' := ⟨h.h.below hb, (hb.block _ (bld_ltS h.m)).trans h.m, h.n⟩
/-- The next state laid into a fresh block. -/
theorem TkH.fresh (h : TkH w out L s pg p pc Q W) (s3 : St) : TkM w out L s pg p pc Q W.heap.size s3 (W.alloc (.cells (stC s3) 57 (0, 0))) :=
  ⟨h.below ((Below.refl _ _).alloc (Nat.le_refl _) _), heap_alloc_new _ _, by have := bld_ltS h.s; omega⟩
/-- The next state written over a block that lies behind. -/
theorem TkH.write (h : TkH w out L s pg p pc Q W) (hb : Below W.heap.size W W') {s0 : St} (hm : W'.heap[nb]? = some (.cells (stC s0) 57 (0, 0))) (hnb : W.heap.size ≤ nb) (s3 : St) :
    TkM w out L s pg p pc Q nb s3 ((((W'.setCell ⟨nb, 0, none⟩ (.int .i64 (s3.M : Int))).setCell ⟨nb, 1, none⟩ (.string (mkS s3.T))).setCell ⟨nb, 2, none⟩ (.string (mkS s3.A))).setCell ⟨nb, 3, none⟩ (.bool s3.E)) := by
  have hlt := bld_ltS h.s
  have hb2 : Below W.heap.size W ((((W'.setCell ⟨nb, 0, none⟩ (.int .i64 (s3.M : Int))).setCell ⟨nb, 1, none⟩ (.string (mkS s3.T))).setCell ⟨nb, 2, none⟩ (.string (mkS s3.A))).setCell ⟨nb, 3, none⟩ (.bool s3.E)) :=
    (((hb.setCell (p := ⟨nb, 0, none⟩) hnb _).setCell (p := ⟨nb, 1, none⟩) hnb _).setCell (p := ⟨nb, 2, none⟩) hnb _).setCell (p := ⟨nb, 3, none⟩) hnb _
  exact ⟨h.below hb2, heap_setCell_same _ _ 3 _ _ _ (heap_setCell_same _ _ 2 _ _ _ (heap_setCell_same _ _ 1 _ _ _ (heap_setCell_same _ _ 0 _ _ _ hm))), by omega⟩
theorem TkH.cells (h : TkH w out L s pg p pc Q W) : (W.cell? ⟨w.heap.size + 1, 0, none⟩ = some (.int .i64 (s.M : Int)) ∧ W.cell? ⟨w.heap.size + 1, 1, none⟩ = some (.string (mkS s.T)) ∧ W.cell? ⟨w.heap.size + 1, 2, none⟩ = some (.string (mkS s.A)) ∧ W.cell? ⟨w.heap.size + 1, 3, none⟩ = some (.bool s.E)) ∧
    (W.frozen? ⟨w.heap.size + 1, 0, none⟩ = false ∧ W.frozen? ⟨w.heap.size + 1, 1, none⟩ = false ∧ W.frozen? ⟨w.heap.size + 1, 2, none⟩ = false ∧ W.frozen? ⟨w.heap.size + 1, 3, none⟩ = false) := ⟨st_cells h.s, row_frozen h.s 0, row_frozen h.s 1, row_frozen h.s 2, row_frozen h.s 3⟩
theorem TkM.cells (h : TkM w out L s pg p pc Q nb s2 W) : W.cell? ⟨nb, 0, none⟩ = some (.int .i64 (s2.M : Int)) ∧ W.cell? ⟨nb, 1, none⟩ = some (.string (mkS s2.T)) ∧ W.cell? ⟨nb, 2, none⟩ = some (.string (mkS s2.A)) ∧ W.cell? ⟨nb, 3, none⟩ = some (.bool s2.E) := st_cells h.m
/-- Other tokens. -/
theorem TkM.put (h : TkM w out L s pg p pc Q nb s2 W) {out' : Value} {L' : List TokP} (own : W'.ownsRow w.heap.size 53 4 out' L'.length (tokPC L')) (hg : W.grownBy W' out.ownBlock) : TkM w out' L' s pg p pc Q nb s2 W' := by
  refine ⟨⟨own, ?_, ownN_other h.h.q hg (fun q hq e => ownN_types_ne h.h.q h.h.o (by decide) q hq e), h.h.b.grown hg h.h.b.size (fun q hq => (ownN_ge h.h.o q hq).1)⟩, ?_, h.n⟩
  · rw [hg.block _ (bld_ltS h.h.s) (fun e => own_ne h.h.o h.h.s (by decide) e.symm)]; exact h.h.s
  · rw [hg.block _ (bld_ltS h.m) (fun e => own_ne h.h.o h.m (by decide) e.symm)]; exact h.m
theorem TkH.put (h : TkH w out L s pg p pc Q W) {out' : Value} {L' : List TokP} (own : W'.ownsRow w.heap.size 53 4 out' L'.length (tokPC L')) (hg : W.grownBy W' out.ownBlock) : TkH w out' L' s pg p pc Q W' := by
  refine ⟨own, ?_, ownN_other h.q hg (fun q hq e => ownN_types_ne h.q h.o (by decide) q hq e), h.b.grown hg h.b.size (fun q hq => (ownN_ge h.o q hq).1)⟩
  rw [hg.block _ (bld_ltS h.s) (fun e => own_ne h.o h.s (by decide) e.symm)]; exact h.s
/-- Other attributes. -/
theorem TkM.pairs (h : TkM w out L s pg p pc Q nb s2 W) {pg' p' pc' : Nat} {Q' : List (ByteArray × ByteArray)} (own : W'.ownsRow w.heap.size 60 2 (.slice (some ⟨pg', 0, none⟩) p' pc') p' (pairC Q')) (hb : Below W.heap.size W W') : TkM w out L s pg' p' pc' Q' nb s2 W' := by
  have h2 := h.below hb
  exact ⟨⟨h2.h.o, h2.h.s, own, h2.h.b⟩, h2.m, h2.n⟩
theorem TkM.setS (h : TkM w out L s pg p pc Q nb s2 W) :
    TkH w out L s2 pg p pc Q ((((W.setCell ⟨w.heap.size + 1, 0, none⟩ (.int .i64 (s2.M : Int))).setCell ⟨w.heap.size + 1, 1, none⟩ (.string (mkS s2.T))).setCell ⟨w.heap.size + 1, 2, none⟩ (.string (mkS s2.A))).setCell ⟨w.heap.size + 1, 3, none⟩ (.bool s2.E)) := by
  have hg := grown_setCell (grown_setCell (grown_setCell (grown_setCell (grown_refl W (some (w.heap.size + 1))) 0 (.int .i64 (s2.M : Int))) 1 (.string (mkS s2.T))) 2 (.string (mkS s2.A))) 3 (.bool s2.E)
  refine ⟨ownN_other h.h.o hg (fun q hq e => own_ne h.h.o h.h.s (by decide) (by rw [hq, e])), ?_, ownN_other h.h.q hg (fun q hq e => own_ne h.h.q h.h.s (by decide) (by rw [hq, e])), ?_⟩
  · exact heap_setCell_same _ _ 3 _ _ _ (heap_setCell_same _ _ 2 _ _ _ (heap_setCell_same _ _ 1 _ _ _ (heap_setCell_same _ _ 0 _ _ _ h.h.s)))
  · exact (((h.h.b.setCell (p := ⟨w.heap.size + 1, 0, none⟩) (Nat.le_succ _) _).setCell (p := ⟨w.heap.size + 1, 1, none⟩) (Nat.le_succ _) _).setCell (p := ⟨w.heap.size + 1, 2, none⟩) (Nat.le_succ _) _).setCell (p := ⟨w.heap.size + 1, 3, none⟩) (Nat.le_succ _) _
end
theorem own_lenN {w : World} {B k n m : Nat} {e : TypeId} {v : Value} {l : List Value} (h : w.ownsRow B e k v n l) (hn : n = m) : w.ownsRow B e k v m l := hn ▸ h
theorem tks_start (w : World) : TkH w (.slice (some ⟨w.heap.size, 0, none⟩) 0 0) [] zeroS (w.heap.size + 1 + 1) 0 0 []
    (((w.alloc (.cells #[] 53 (0, 0))).alloc (.cells #[.int .i64 0, .string ⟨#[]⟩, .string ⟨#[]⟩, .bool false] 57 (0, 0))).alloc (.cells #[] 60 (0, 0))) := by
  obtain ⟨⟨p0, p1, p2⟩, bx⟩ := three_new w (.cells #[] 53 (0, 0)) (.cells #[.int .i64 0, .string ⟨#[]⟩, .string ⟨#[]⟩, .bool false] 57 (0, 0)) (.cells #[] 60 (0, 0))
  exact ⟨⟨rfl, .inr ⟨_, 0, _, rfl, Nat.le_refl _, p0, Nat.le_refl _, Nat.zero_le _, rfl, rfl⟩⟩, p1, ⟨rfl, .inr ⟨_, 0, _, rfl, by omega, p2, Nat.le_refl _, Nat.zero_le _, rfl, rfl⟩⟩, bx⟩
/-- What holds at the head of a round. -/
structure RdS (w : World) (s : ByteArray) (k : Nat) (d : CfR) (L : List TokP) (pg pc : Nat) (Q : List (ByteArray × ByteArray)) (out : Value) (wr : World) : Prop where
  run : runR cr0 ((bl s).take k) = some d
  ok : CfROk d
  sig : L.map sigR = d.out
  len : Q.length = d.p
  texts : ∀ t ∈ L, t.V.size ≤ 1048576
  mem : TkH w out L d.s pg d.p pc Q wr
theorem sigR_snoc {L : List TokP} {o : List (Tok × Nat)} {t : TokP} {x : Tok × Nat} (h : L.map sigR = o) (hx : sigR t = x) : (L ++ [t]).map sigR = o ++ [x] := by rw [List.map_append, h, ← hx]; rfl
theorem textR_snoc {L : List TokP} {t : TokP} (h : ∀ t ∈ L, t.V.size ≤ 1048576) (ht : t.V.size ≤ 1048576) : ∀ u ∈ L ++ [t], u.V.size ≤ 1048576 := by
  intro u hu
  rcases List.mem_append.1 hu with hu | hu
  · exact h u hu
  · rw [List.mem_singleton] at hu; subst hu; exact ht
theorem put_new {w3 : World} {B n K : Nat} {v' : Value} {L : List TokP} {o : List (Tok × Nat)} {V : List UInt8} (hsig : L.map sigR = o) (htx : ∀ t ∈ L, t.V.size ≤ 1048576) (hn : L.length = n) (hV : V.length ≤ 1048576)
    (h1 : mkS V = ⟨#[]⟩ → w3.ownsRow B 53 4 v' n (tokPC L)) (h2 : mkS V ≠ ⟨#[]⟩ → w3.ownsRow B 53 4 v' (n + 1) (tokPC (L ++ [⟨K, ⟨#[]⟩, mkS V, none, 0, 0⟩]))) :
    ∃ L', L'.map sigR = putR o K V ∧ (∀ t ∈ L', t.V.size ≤ 1048576) ∧ w3.ownsRow B 53 4 v' L'.length (tokPC L') := by
  by_cases h : V = []
  · subst h
    exact ⟨L, by rw [hsig]; rfl, htx, by rw [hn]; exact h1 rfl⟩
  · have hne : mkS V ≠ ⟨#[]⟩ := fun e => h (mkS_inj (a := V) (b := []) e)
    refine ⟨L ++ [⟨K, ⟨#[]⟩, mkS V, none, 0, 0⟩], ?_, textR_snoc htx (by show (mkS V).size ≤ _; rw [mkS_size]; exact hV), by rw [List.length_append, hn]; exact h2 hne⟩
    unfold putR
    rw [if_neg h]
    exact sigR_snoc hsig rfl
theorem unescR_len2 (l : List UInt8) : (unescR l).length ≤ l.length := unescF_len _ _
theorem inT {M : Nat} {lo hi : Int} (h1 : lo ≤ (M : Int)) (h2 : (M : Int) ≤ hi) (W : World) : Calls Try.prog 66 #[.int .i64 (M : Int), .int .i64 lo, .int .i64 hi] W fun e w' => e = .returned (.bool true) ∧ W = w' := by
  have := spec_l1In_any (M : Int) lo hi W
  rwa [decide_eq_true h1, decide_eq_true h2] at this
theorem inF {M : Nat} {lo hi : Int} (h : (M : Int) < lo ∨ hi < (M : Int)) (W : World) : Calls Try.prog 66 #[.int .i64 (M : Int), .int .i64 lo, .int .i64 hi] W fun e w' => e = .returned (.bool false) ∧ W = w' := by
  have := spec_l1In_any (M : Int) lo hi W
  rcases h with h | h
  · rwa [decide_eq_false (by omega : ¬ lo ≤ (M : Int)), Bool.false_and] at this
  · rwa [decide_eq_false (by omega : ¬ (M : Int) ≤ hi), Bool.and_false] at this
/-! The region that steps to the next state, in all its orders. -/
def nxSlot (H : Nat) (V n : St) (s : ByteArray) (k b : Int) : Nat → World → Value → Prop
  | 0, _, v => v = stV V
  | 1, _, v => v = .string s
  | 2, _, v => v = .int .i64 k
  | 3, _, v => v = .int .u8 b
  | 4, _, v => v = stV n
  | 5, w, v => ∃ nb : Nat, H ≤ nb ∧ v = .pointer (some ⟨nb, 0, none⟩) ∧ w.heap[nb]? = some (.cells (stC zeroS) 57 (0, 0))
  | _, _, _ => True
def GNx (H : Nat) (n : St) (w0 : World) (listed : Array Bool) (a : Act) (w : World) : Prop :=
  Below H w0 w ∧ H ≤ w.heap.size ∧ (listed.getD 6 true = true → (∀ i, i < 6 → listed.getD i true = true) ∧ ∃ nb : Nat, H ≤ nb ∧ a.tmps[9]? = some (.pointer (some ⟨nb, 0, none⟩)) ∧ w.heap[nb]? = some (.cells (stC n) 57 (0, 0)))
theorem nx_kept {H : Nat} {V n : St} {s : ByteArray} {k b : Int} {w w' : World} (hb : Below w.heap.size w w') (j : Nat) (v : Value) (h : nxSlot H V n s k b j w v) : nxSlot H V n s k b j w' v := by
  unfold nxSlot at h ⊢
  split at h
  all_goals first
    | exact h
    | (obtain ⟨c, hc, hv, hh⟩ := h; exact ⟨c, hc, hv, (hb.block _ (bld_ltS hh)).trans hh⟩)
theorem nx_kept6 {H : Nat} {V n : St} {s : ByteArray} {k b : Int} {w w' : World} (j : Nat) (v : Value) (hj : j ≠ 5) (h : nxSlot H V n s k b j w v) : nxSlot H V n s k b j w' v := by
  unfold nxSlot at h ⊢
  split at h
  all_goals first
    | exact h
    | exact absurd rfl hj
theorem GNx.keep {H : Nat} {n : St} {w0 w w' : World} {listed : Array Bool} {a a' : Act} {i : Nat} (h : GNx H n w0 listed a w) (hi : i < 6) (hli : listed.getD i true = false) (hb : Below w.heap.size w w') : GNx H n w0 (listed.setIfInBounds i true) a' w' := by
  refine ⟨h.1.trans (hb.mono h.2.1), Nat.le_trans h.2.1 hb.size, fun h6 => ?_⟩
  rw [listed_keep (by omega)] at h6
  have := (h.2.2 h6).1 i hi
  rw [hli] at this
  cases this
end Go.Proofs.Ytdoomfckdjjlaaa

/-! spec.TableRows over what Tokenize answers (printed by gen_trr.py). -/
namespace Go.Proofs.Ytdoomfckdjjlaaa
open Go.RowKit

set_option maxRecDepth 100000 in
set_option maxHeartbeats 12800000 in
theorem spec_TableRowsY (s : ByteArray) (w : World) (Good : List TokP → Prop) (h : Calls Try.prog 39 #[.string s] w (TkPost w Good)) :
    Calls Try.prog 16 #[.string s] w (RowsPost w Good) := by
  have CT := Lib.hid h
  clear h
  go_enter Try.func16, Try.ntmps16
  go_wp2_with fail
  refine CT.out.mono ?_
  rintro e w1 ⟨lv, L, rfl, hgood, hL60, hVs, o1, b1⟩
  have HG := Lib.hid hgood; have HVS := Lib.hid hVs
  obtain ⟨n, hn⟩ : ∃ n, L.length = n := ⟨_, rfl⟩
  have HN := Lib.hid hn
  rw [hn] at hL60
  obtain ⟨la, lc, rfl, _, hnc, hnc2, _⟩ := ownN_formn o1
  rw [hn] at o1 ⊢ hnc
  have hw1 := b1.size
  have TR0 : Hid (TrI w (.slice la n lc) n L (.slice (some ⟨w1.heap.size, 0, none⟩) 0 0) [] [] (w1.alloc (.cells #[] 31 (0, 0)))) := by
    refine ⟨?_, ?_, True.intro, b1.alloc hw1 _⟩
    · exact ownN_below o1 ((Below.refl _ _).alloc (Nat.le_refl _) _)
    · exact ownN_mono (own_new w1 #[] 31 0 rfl (by omega)) hw1
  clear hgood hVs hn CT o1 b1
  go_wp2
  go_loopw [6, 7] (fun rv t wr => ∃ (k : Nat) (vs : List Value) (R : List (List ByteArray)), k ≤ n ∧ t = .int .i64 (k : Int) ∧ Hid (rowsOf ((L.take k).map TokP.core) = R) ∧ R.length ≤ k ∧ (∀ r ∈ R, r.length ≤ k) ∧ Hid (∀ r ∈ R, ∀ s ∈ r, s.size ≤ 1048576) ∧ Hid (TrI w (.slice la n lc) n L rv vs R wr)) (fun _ t _ => n - (intOf t).toNat)
  case atStart => exact ⟨0, [], [], Nat.zero_le _, rfl, rfl, Nat.le_refl _, (by intro r hr; cases hr), (by intro r hr; cases hr), TR0.out⟩
  case round =>
    clear TR0
    obtain ⟨k, vs, R, hk, rfl, HR, hRl, hRw, HRS, TR⟩ := hrel
    by_cases hkn : k < n
    · have hkL : k < L.length := by rw [HN.out]; exact hkn
      obtain ⟨g, c, hlv, hgB, hgl, _, _, _, hcell⟩ := tokP_at TR.out.t HN.out (by omega)
      injection hlv with hla _ hlc
      subst hla; subst hlc
      obtain ⟨x0, x1, x2, x3⟩ := hcell k hkL
      have HR1 : Hid (rowsOf ((L.take (k + 1)).map TokP.core) = rowStep R L[k].core) := by
        show _ = _
        rw [map_take_succ hkL, rowsOf_snoc, HR.out]
      have hS1 := step_size (t := L[k].core) HRS.out (HVS.out _ (List.getElem_mem hkL))
      obtain ⟨hW1, hW2⟩ := step_wide (t := L[k].core) ⟨hRl, hRw⟩
      have HS1 := Lib.hid hS1
      clear hcell hS1
      generalize L[k] = t at *
      obtain ⟨tK, tN, tV, ta, tp, tc⟩ := t
      simp only [TokP.core] at x0 x1 x2 x3 HR1 HS1 hW1 hW2
      obtain ⟨z, hz⟩ : ∃ z : Int, (tK : Int) = z := ⟨_, rfl⟩
      rw [hz] at x0
      have TR1 := Lib.hid (TR.out.alloc (.cells #[.int .i64 z, .string tN, .string tV, .slice ta tp tc] 53 (0, 0)))
      have hws := TR.out.b.size
      have hRl60 : R.length ≤ 60 := by omega

      have split : (tK = 2 ∧ tN = trS) ∨ (tK = 2 ∧ tN ≠ trS ∧ tN = tdS ∧ R = []) ∨ (tK = 2 ∧ tN ≠ trS ∧ tN = tdS ∧ ∃ R' F, R = R' ++ [F]) ∨ (tK = 2 ∧ tN ≠ trS ∧ tN ≠ tdS) ∨ (tK = 1 ∧ R = []) ∨ (tK = 1 ∧ ∃ R', R = R' ++ [[]]) ∨ (tK = 1 ∧ ∃ R' F x, R = R' ++ [F ++ [x]]) ∨ (tK ≠ 1 ∧ tK ≠ 2) := by
        by_cases h2 : tK = 2
        · by_cases ha : tN = trS
          · exact .inl ⟨h2, ha⟩
          · by_cases hb : tN = tdS
            · rcases nil_or_snoc R with h | h
              · exact .inr (.inl ⟨h2, ha, hb, h⟩)
              · exact .inr (.inr (.inl ⟨h2, ha, hb, h⟩))
            · exact .inr (.inr (.inr (.inl ⟨h2, ha, hb⟩)))
        · by_cases h1 : tK = 1
          · rcases nil_or_snoc R with h | ⟨R', F, h⟩
            · exact .inr (.inr (.inr (.inr (.inl ⟨h1, h⟩))))
            · rcases nil_or_snoc F with h3 | ⟨F', x, h3⟩
              · exact .inr (.inr (.inr (.inr (.inr (.inl ⟨h1, R', by rw [h, h3]⟩)))))
              · exact .inr (.inr (.inr (.inr (.inr (.inr (.inl ⟨h1, R', F', x, by rw [h, h3]⟩))))))
          · exact .inr (.inr (.inr (.inr (.inr (.inr (.inr ⟨h1, h2⟩))))))
      rcases split with h | h | h | h | h | h | h | h
      · obtain ⟨rfl, hN⟩ := h
        obtain rfl : z = 2 := by omega
        clear hz
        have hn := tr_yes hN
        rw [step_tr R rfl hN] at HR1 HS1 hW1 hW2
        obtain ⟨m, hm⟩ : ∃ m, R.length = m := ⟨_, rfl⟩
        have TR2 := Lib.hid (TR1.out.alloc (.cells #[] 9 (0, 0)))
        have OW2 := Lib.hid (own_len_eq TR2.out.r hm rfl)
        obtain ⟨ra, rc, rfl, _⟩ := ownN_formn OW2.out
        have HM := Lib.hid hm
        have hm60 : m ≤ 60 := by omega
        have ON := Lib.hid (own_new (wr.alloc (.cells #[.int .i64 2, .string tN, .string tV, .slice ta tp tc] 53 (0, 0))) #[] 9 0 rfl (by omega))
        clear hm hN TR
        go_wp2_with (at_builtin; refine wpList_pushRow (.tmp 40) (.tmp 42) w.heap.size (some ⟨wr.heap.size + 1, 0, none⟩) 0 0 _ m vs OW2.out (by simp; omega) (by omega) rfl (by rfl) (by rfl) (wr.heap.size + 1 + 1) (by simp) (by rfl) ?_; intro v6 w6 o6 ga6 g6)
        have TR6 : Hid (TrI w (.slice (some ⟨g, 0, none⟩) n lc) n L v6 (vs ++ [.slice (some ⟨wr.heap.size + 1, 0, none⟩) 0 0]) (R ++ [[]]) w6) := by
          refine ⟨rows_other TR2.out.t OW2.out g6, by rw [List.length_append, HM.out]; exact o6, ?_, TR2.out.b.grown g6 TR2.out.b.size (fun q hq => (ownN_ge OW2.out q hq).1)⟩
          have e : (wr.alloc (.cells #[.int .i64 2, .string tN, .string tV, .slice ta tp tc] 53 (0, 0))).heap.size = wr.heap.size + 1 := by simp
          have hon := strs_keep OW2.out g6 _ _ [] ON.out
          rw [e] at hon
          refine OwnLs.snoc (w := wr.alloc (.cells #[.int .i64 2, .string tN, .string tV, .slice ta tp tc] 53 (0, 0))) (F := []) (fun B v F h => strs_keep OW2.out g6 B v F (strs_below ((Below.refl _ _).alloc (Nat.le_refl _) _) B v F h)) (Nat.le_trans (by simp) g6.size) (by rw [e]; exact hon) vs R w.heap.size (by rw [e]; omega) TR1.out.d
        clear o6 ga6 g6
        go_wp2
        go_roundw
        case rel => exact ⟨k + 1, _, R ++ [[]], by omega, by go_num, HR1.out, hW1, hW2, HS1.out, TR6.out⟩
        case measure => simp [intOf]; omega
      · obtain ⟨rfl, hN, hN2, rfl⟩ := h
        obtain rfl : z = 2 := by omega
        clear hz
        have hn := tr_no hN; have hn2 := td_yes hN2
        rw [step_nil (by intro ⟨_, e⟩; exact hN e)] at HR1
        obtain ⟨ra, rc, rfl, _⟩ := ownN_formn TR1.out.r
        clear hN hN2
        go_wp2
        go_roundw
        case rel => exact ⟨k + 1, vs, [], by omega, by go_num, HR1.out, by first | exact Nat.le_trans hRl (Nat.le_succ _) | omega, by intro r hr; exact Nat.le_trans (hRw r hr) (Nat.le_succ _), HRS.out, TR1.out⟩
        case measure => simp [intOf]; omega
      · obtain ⟨rfl, hN, hN2, R', F, rfl⟩ := h
        obtain rfl : z = 2 := by omega
        clear hz
        have hn := tr_no hN; have hn2 := td_yes hN2
        rw [step_td R' F rfl hN2] at HR1 HS1 hW1 hW2
        obtain ⟨m, hm⟩ : ∃ m, R'.length = m := ⟨_, rfl⟩
        have HM := Lib.hid hm
        have e1 : (R' ++ [F]).length = m + 1 := by rw [List.length_append, hm]; rfl
        have OW1 := Lib.hid (own_len_eq TR1.out.r e1 rfl)
        rw [e1] at hRl hRl60
        obtain ⟨vs', fv, rfl⟩ : ∃ vs' fv, vs = vs' ++ [fv] := by
          rcases nil_or_snoc vs with h | h
          · have := OwnLs.len _ _ _ TR1.out.d; rw [h, e1] at this; simp at this
          · exact h
        have hvl : vs'.length = m := by have := OwnLs.len _ _ _ TR1.out.d; rw [e1, List.length_append] at this; simpa using this
        have D1 := Lib.hid TR1.out.d
        obtain ⟨fn, hfn⟩ : ∃ fn, F.length = fn := ⟨_, rfl⟩
        have HFN := Lib.hid hfn
        obtain ⟨U, hU, dU, oF⟩ := OwnLs.unsnoc vs' R' _ TR1.out.b.size D1.out
        rw [hfn] at oF
        have OF := Lib.hid oF; have DU := Lib.hid dU
        obtain ⟨fa, fc, rfl, _⟩ := ownN_formn oF
        have hfk : fn ≤ k := by rw [← hfn]; exact hRw F (by simp)
        obtain ⟨g2, c2, hrv, hg2B, hg2l, _, _, hc2⟩ := own_at OW1.out (Nat.succ_pos m)
        subst hrv
        have y0 := hc2 m (.slice fa fn fc) (by rw [List.getElem?_append_right (by omega), hvl, Nat.sub_self]; rfl)
        have m0 : (0 : Int) ≤ (m : Int) := by omega
        have m1 : (m : Int) < ((m + 1 : Nat) : Int) := by omega
        have m4 : (m : Int) < (m : Int) + 1 := by omega
        have m3 : IntKind.i64.wrap (m : Int) = (m : Int) := IntWalk.i64_in _ (by omega)
        clear hN hN2 hm hfn hc2 dU oF hvl e1 TR hRw
        go_wp2_with (at_builtin; refine wpList_pushS2 (.tmp 62) (.tmp 63) U ⟨#[]⟩ _ fn F OF.out hU (by omega) rfl (by rfl) (by rfl) (wr.heap.size + 1) (by simp) (by rfl) ?_; intro v5 w5 o5 g5 b5; obtain ⟨⟨yy, hyy⟩, hff, TR6⟩ := TrI.turn (F' := F ++ [⟨#[]⟩]) TR1.out HM.out DU.out OF.out HFN.out g5 (by rw [List.length_append, HFN.out]; exact o5); have TR7 := Lib.hid TR6; obtain ⟨a5, c5, hv5, _⟩ := ownN_formn o5; subst hv5; clear o5 g5 b5 TR6)
        go_roundw
        case rel => exact ⟨k + 1, _, R' ++ [F ++ [(⟨#[]⟩ : ByteArray)]], by omega, by go_num, HR1.out, hW1, hW2, HS1.out, TR7.out⟩
        case measure => simp [intOf]; omega
      · obtain ⟨rfl, hN, hN2⟩ := h
        obtain rfl : z = 2 := by omega
        clear hz
        have hn := tr_no hN; have hn2 := td_no hN2
        rw [step_no R (by intro ⟨_, e⟩; exact hN e) (by intro ⟨_, e⟩; exact hN2 e) (by simp)] at HR1
        obtain ⟨ra, rc, rfl, _⟩ := ownN_formn TR1.out.r
        clear hN hN2
        go_wp2
        go_roundw
        case rel => exact ⟨k + 1, vs, R, by omega, by go_num, HR1.out, by first | exact Nat.le_trans hRl (Nat.le_succ _) | omega, by intro r hr; exact Nat.le_trans (hRw r hr) (Nat.le_succ _), HRS.out, TR1.out⟩
        case measure => simp [intOf]; omega
      · obtain ⟨rfl, rfl⟩ := h
        obtain rfl : z = 1 := by omega
        clear hz
        rw [step_nil (by intro ⟨e, _⟩; simp at e)] at HR1
        obtain ⟨ra, rc, rfl, _⟩ := ownN_formn TR1.out.r
        go_wp2
        go_roundw
        case rel => exact ⟨k + 1, vs, [], by omega, by go_num, HR1.out, by first | exact Nat.le_trans hRl (Nat.le_succ _) | omega, by intro r hr; exact Nat.le_trans (hRw r hr) (Nat.le_succ _), HRS.out, TR1.out⟩
        case measure => simp [intOf]; omega
      · obtain ⟨rfl, R', rfl⟩ := h
        obtain rfl : z = 1 := by omega
        clear hz
        rw [step_txt0 R' rfl] at HR1
        obtain ⟨m, hm⟩ : ∃ m, R'.length = m := ⟨_, rfl⟩
        have HM := Lib.hid hm
        have e1 : (R' ++ [[]]).length = m + 1 := by rw [List.length_append, hm]; rfl
        have OW1 := Lib.hid (own_len_eq TR1.out.r e1 rfl)
        rw [e1] at hRl hRl60
        obtain ⟨vs', fv, rfl⟩ : ∃ vs' fv, vs = vs' ++ [fv] := by
          rcases nil_or_snoc vs with h | h
          · have := OwnLs.len _ _ _ TR1.out.d; rw [h, e1] at this; simp at this
          · exact h
        have hvl : vs'.length = m := by have := OwnLs.len _ _ _ TR1.out.d; rw [e1, List.length_append] at this; simpa using this
        have D1 := Lib.hid TR1.out.d
        obtain ⟨U, hU, dU, oF⟩ := OwnLs.unsnoc vs' R' _ TR1.out.b.size D1.out
        obtain ⟨fa, fc, rfl, _⟩ := ownN_formn oF
        obtain ⟨g2, c2, hrv, hg2B, hg2l, _, _, hc2⟩ := own_at OW1.out (Nat.succ_pos m)
        subst hrv
        have m0 : (0 : Int) ≤ (m : Int) := by omega
        have m1 : (m : Int) < ((m + 1 : Nat) : Int) := by omega
        have m4 : (m : Int) < (m : Int) + 1 := by omega
        have m3 : IntKind.i64.wrap (m : Int) = (m : Int) := IntWalk.i64_in _ (by omega)
        have y0 := hc2 m (.slice fa 0 fc) (by rw [List.getElem?_append_right (by omega), hvl, Nat.sub_self]; rfl)
        clear hm hc2 dU oF hvl e1 TR
        go_wp2
        go_roundw
        case rel => exact ⟨k + 1, _, R' ++ [[]], by omega, by go_num, HR1.out, by rw [List.length_append, HM.out]; exact Nat.le_trans hRl (Nat.le_succ _), by intro r hr; exact Nat.le_trans (hRw r hr) (Nat.le_succ _), HRS.out, TR1.out⟩
        case measure => simp [intOf]; omega
      · obtain ⟨rfl, R', F, x, rfl⟩ := h
        obtain rfl : z = 1 := by omega
        clear hz
        rw [step_txt R' F x rfl] at HR1 HS1 hW1 hW2
        obtain ⟨m, hm⟩ : ∃ m, R'.length = m := ⟨_, rfl⟩
        have HM := Lib.hid hm
        have e1 : (R' ++ [F ++ [x]]).length = m + 1 := by rw [List.length_append, hm]; rfl
        have OW1 := Lib.hid (own_len_eq TR1.out.r e1 rfl)
        rw [e1] at hRl hRl60
        obtain ⟨vs', fv, rfl⟩ : ∃ vs' fv, vs = vs' ++ [fv] := by
          rcases nil_or_snoc vs with h | h
          · have := OwnLs.len _ _ _ TR1.out.d; rw [h, e1] at this; simp at this
          · exact h
        have hvl : vs'.length = m := by have := OwnLs.len _ _ _ TR1.out.d; rw [e1, List.length_append] at this; simpa using this
        have D1 := Lib.hid TR1.out.d
        obtain ⟨fn, hfn⟩ : ∃ fn, F.length = fn := ⟨_, rfl⟩
        have HFN := Lib.hid hfn
        have f1 : (F ++ [x]).length = fn + 1 := by rw [List.length_append, hfn]; rfl
        obtain ⟨U, hU, dU, oF⟩ := OwnLs.unsnoc vs' R' _ TR1.out.b.size D1.out
        rw [f1] at oF
        have hfk : fn + 1 ≤ k := by rw [← f1]; exact hRw _ (by simp)
        obtain ⟨g3, c3, hfv, hg3B, hg3l, hfc, hfc2, _⟩ := own_at oF (Nat.succ_pos fn)
        subst hfv
        have OF := Lib.hid oF; have DU := Lib.hid dU
        obtain ⟨g2, c2, hrv, hg2B, hg2l, _, _, hc2⟩ := own_at OW1.out (Nat.succ_pos m)
        subst hrv
        have m0 : (0 : Int) ≤ (m : Int) := by omega
        have m1 : (m : Int) < ((m + 1 : Nat) : Int) := by omega
        have m4 : (m : Int) < (m : Int) + 1 := by omega
        have m3 : IntKind.i64.wrap (m : Int) = (m : Int) := IntWalk.i64_in _ (by omega)
        have y0 := hc2 m (.slice (some ⟨g3, 0, none⟩) (fn + 1) c3) (by rw [List.getElem?_append_right (by omega), hvl, Nat.sub_self]; rfl)
        obtain ⟨⟨yy, hyy⟩, hff, TR6⟩ := TrI.put (y := tV) TR1.out HM.out DU.out OF.out HFN.out
        have TR7 := Lib.hid TR6
        have n0 : (0 : Int) ≤ (fn : Int) := by omega
        have n1 : (fn : Int) < ((fn + 1 : Nat) : Int) := by omega
        have n4 : (fn : Int) < (fn : Int) + 1 := by omega
        have n3 : IntKind.i64.wrap (fn : Int) = (fn : Int) := IntWalk.i64_in _ (by omega)
        have n5 : (0 : Int) < (fn : Int) + 1 := by omega
        clear hm hfn f1 hc2 dU oF hvl e1 TR TR6 hRw
        go_wp2
        go_region
        go_wp2
        go_roundw
        case rel => exact ⟨k + 1, _, R' ++ [F ++ [tV]], by omega, by go_num, HR1.out, hW1, hW2, HS1.out, by first | exact TR7.out | exact TR7.out.below (Below.refl _ _).drew⟩
        case measure => simp [intOf]; omega
      · obtain ⟨h1, h2⟩ := h
        have k1 : (z == 1) = false := by simp; omega
        have k2 : (z == 2) = false := by simp; omega
        rw [step_no R (by intro ⟨e, _⟩; exact h2 e) (by intro ⟨e, _⟩; exact h2 e) h1] at HR1
        obtain ⟨ra, rc, rfl, _⟩ := ownN_formn TR1.out.r
        clear h1 h2 hz
        go_wp2
        go_roundw
        case rel => exact ⟨k + 1, vs, R, by omega, by go_num, HR1.out, by first | exact Nat.le_trans hRl (Nat.le_succ _) | omega, by intro r hr; exact Nat.le_trans (hRw r hr) (Nat.le_succ _), HRS.out, TR1.out⟩
        case measure => simp [intOf]; omega
    · have hkn2 : n = k := by omega
      subst hkn2
      rw [List.take_of_length_le (by rw [HN.out]; exact Nat.le_refl _)] at HR
      obtain ⟨m, hm⟩ : ∃ m, R.length = m := ⟨_, rfl⟩
      obtain ⟨ra, rc, rfl, _, hat⟩ := tabs_own (own_len_eq TR.out.r hm rfl) TR.out.d hm
      have hm60 : m ≤ 60 := by omega
      have CI := Lib.hid (spec_TableTokens ra m rc R wr (hat.2.mono (Nat.zero_le _)) hm (by omega) ⟨by omega, fun r hr => ⟨by have := hRw r hr; omega, fun t ht => HRS.out r hr t ht⟩⟩)
      have hws := TR.out.b.size
      have HXT : Hid (tabB R = true → tokR R = tabToks R) := tokR_yes
      have HXF : Hid (tabB R = false → tokR R = []) := tokR_no
      clear hat hm hRl hRw HRS HVS
      obtain ⟨X, hX⟩ : ∃ X, tokR R = X := ⟨_, rfl⟩
      rw [hX] at CI HXT HXF
      have hx60 : X.length ≤ 60 := by rw [← hX]; exact tokR_len R
      obtain ⟨x, hx⟩ : ∃ x, X.length = x := ⟨_, rfl⟩
      rw [hx] at hx60
      have HXL := Lib.hid hx
      clear hX hx
      go_wp2_with fail
      refine CI.out.mono ?_
      rintro e w2 ⟨v, rfl, o2, b2⟩
      rw [HXL.out] at o2
      obtain ⟨xa, xc, rfl, hxc, hxc2, hxat, _⟩ := toks_own o2 HXL.out
      have HXA := Lib.hid hxat
      have TR2 := Lib.hid (TR.out.below b2)
      have hw2 := TR2.out.b.size
      clear o2 b2 hxat TR CI
      have HRT : Hid (ResOk L → tabB R = true ∧ L.map TokP.core = tabToks R) := by
        intro hr
        obtain ⟨r1, r2, _⟩ := hr
        rw [HR.out] at r1 r2
        exact ⟨r1, r2⟩
      by_cases hnx : x = n
      · subst hnx
        have hneq : ((x : Int) != (x : Int)) = false := by simp
        by_cases hx0 : x = 0
        · have HNR : Hid (¬ ResOk L) := by
            intro hr
            have h2 := congrArg List.length (HRT.out hr).2
            rw [List.length_map, HN.out, hx0] at h2
            unfold tabToks at h2
            simp at h2
          subst hx0
          go_wp2
          exact bodyPost_ret (v := .tuple #[.slice (some ⟨_, 0, none⟩) 0 0, .bool false]) (by simp [results, Try.results16, go_sem]; rfl) rfl ⟨L, HG.out, TR2.out.b.alloc hw2 _, .inr ⟨HNR.out, _, rfl, _, _, rfl⟩⟩
        · have hz0 : ((x : Int) == 0) = false := by simp; omega
          have HB : Hid (tabB R = true) := by
            show _ = _
            rcases hb : tabB R with _ | _
            · have := HXF.out hb
              have h2 := HXL.out
              rw [this] at h2
              exact absurd h2.symm hx0
            · rfl
          have HX : Hid (tabToks R = X) := (HXT.out HB.out).symm
          clear hx0
          go_wp2
          go_loopw [11] (fun t wr => ∃ k : Nat, k ≤ x ∧ t = .int .i64 (k : Int) ∧ Hid (∀ i (h : i < L.length) (h2 : i < X.length), i < k → L[i].core = X[i] ∧ L[i].p = 0) ∧ Hid (Below w2.heap.size w2 wr)) (fun t _ => x - (intOf t).toNat)
          case atStart => exact ⟨0, Nat.zero_le _, rfl, fun i _ _ h => absurd h (Nat.not_lt_zero _), Below.refl _ _⟩
          case round =>
            obtain ⟨k, hk, rfl, HK, BW⟩ := hrel
            have hwr := BW.out.size
            by_cases hkx : k < x
            · have hkL : k < L.length := by rw [HN.out]; exact hkx
              have hkX : k < X.length := by rw [HXL.out]; exact hkx
              have TR3 := Lib.hid (TR2.out.below BW.out)
              obtain ⟨g, c, hlv, hgB, hgl, _, _, _, hcell⟩ := tokP_at TR3.out.t HN.out (by omega)
              injection hlv with hla _ hlc
              subst hla; subst hlc
              obtain ⟨x0, x1, x2, x3⟩ := hcell k hkL
              obtain ⟨b, off, pa, pc, had, hbl, y0, y1, y2, _⟩ := (HXA.out.below BW.out) k hkX
              subst had
              have HK1 : Hid (L[k].core = X[k] → L[k].p = 0 → ∀ i (h : i < L.length) (h2 : i < X.length), i < k + 1 → L[i].core = X[i] ∧ L[i].p = 0) := by
                intro h1 h2 i hi hi2 hik
                by_cases e : i = k
                · subst e; exact ⟨h1, h2⟩
                · exact HK.out i hi hi2 (by omega)
              have HNo : Hid (¬ (L[k].core = X[k] ∧ L[k].p = 0) → ¬ ResOk L) := by
                intro h1 h2
                refine h1 ⟨?_, h2.2.2 _ (List.getElem_mem hkL)⟩
                have e := h2.2.1
                rw [HR.out, HX.out] at e
                have e2 := List.getElem_of_eq e (i := k) (by rw [List.length_map]; exact hkL)
                rw [List.getElem_map] at e2
                exact e2
              clear hcell HK
              generalize L[k] = t at *
              generalize X[k] = u at *
              obtain ⟨tK, tN, tV, ta, tp, tc⟩ := t
              obtain ⟨uK, uN, uV⟩ := u
              simp only [TokP.core, Tok.mk.injEq] at x0 x1 x2 x3 y0 y1 y2 HK1 HNo
              have k0 : (0 : Int) ≤ (k : Int) := by omega
              have k1 : (k : Int) < (x : Int) := by omega
              have BA : Hid (Below w.heap.size w wr) := TR3.out.b
              by_cases hK : tK = uK
              · subst hK
                by_cases hN : tN = uN
                · subst hN
                  by_cases hV : tV = uV
                  · subst hV
                    by_cases hp : tp = 0
                    · subst hp
                      have HK2 := Lib.hid (HK1.out ⟨rfl, rfl, rfl⟩ rfl)
                      clear HK1 HNo
                      go_wp2
                      go_quiet (fail)
                      go_wp2
                      go_roundw
                      case rel => exact ⟨k + 1, by omega, by go_num, HK2.out, below_drewN BW.out _⟩
                      case measure => simp [intOf]; omega
                    · have HNR := Lib.hid (HNo.out (fun h => hp h.2))
                      have q1 : (0 : Int) < (tp : Int) := by omega
                      have q2 : decide ((0 : Int) < (tp : Int)) = true := decide_eq_true q1
                      clear HK1 HNo hp
                      go_wp2
                      go_quiet (fail)
                      go_wp2
                      exact bodyPost_ret (v := .tuple #[.slice (some ⟨_, 0, none⟩) 0 0, .bool false]) (by simp [results, Try.results16, go_sem]; rfl) rfl ⟨L, HG.out, (below_drewN BA.out _).alloc BA.out.size _, .inr ⟨HNR.out, _, rfl, _, _, rfl⟩⟩
                  · have HNR := Lib.hid (HNo.out (fun h => hV h.1.2.2))
                    have q1 : (uV.toList == tV.toList) = false := tl_no (Ne.symm hV)
                    have q2 : (uV.toList != tV.toList) = true := by simp [bne, q1]
                    clear HK1 HNo hV
                    go_wp2
                    go_quiet (fail)
                    go_wp2
                    exact bodyPost_ret (v := .tuple #[.slice (some ⟨_, 0, none⟩) 0 0, .bool false]) (by simp [results, Try.results16, go_sem]; rfl) rfl ⟨L, HG.out, (below_drewN BA.out _).alloc BA.out.size _, .inr ⟨HNR.out, _, rfl, _, _, rfl⟩⟩
                · have HNR := Lib.hid (HNo.out (fun h => hN h.1.2.1))
                  have q1 : (uN.toList == tN.toList) = false := tl_no (Ne.symm hN)
                  have q2 : (uN.toList != tN.toList) = true := by simp [bne, q1]
                  clear HK1 HNo hN
                  go_wp2
                  go_quiet (fail)
                  go_wp2
                  exact bodyPost_ret (v := .tuple #[.slice (some ⟨_, 0, none⟩) 0 0, .bool false]) (by simp [results, Try.results16, go_sem]; rfl) rfl ⟨L, HG.out, (below_drewN BA.out _).alloc BA.out.size _, .inr ⟨HNR.out, _, rfl, _, _, rfl⟩⟩
              · have HNR := Lib.hid (HNo.out (fun h => hK h.1.1))
                have q1 : ((uK : Int) == (tK : Int)) = false := by simp; omega
                have q2 : ((uK : Int) != (tK : Int)) = true := by simp; omega
                clear HK1 HNo hK
                go_wp2
                go_quiet (fail)
                go_wp2
                exact bodyPost_ret (v := .tuple #[.slice (some ⟨_, 0, none⟩) 0 0, .bool false]) (by simp [results, Try.results16, go_sem]; rfl) rfl ⟨L, HG.out, (below_drewN BA.out _).alloc BA.out.size _, .inr ⟨HNR.out, _, rfl, _, _, rfl⟩⟩
            · have e : x = k := by omega
              subst e
              have TR3 := Lib.hid (TR2.out.below BW.out)
              have HRO : Hid (ResOk L) := by
                refine ⟨by rw [HR.out]; exact HB.out, ?_, fun t ht => ?_⟩
                · rw [HR.out, HX.out]
                  refine List.ext_getElem (by rw [List.length_map, HN.out, HXL.out]) (fun i h1 h2 => ?_)
                  rw [List.getElem_map]
                  exact (HK.out i (by simpa using h1) h2 (by rw [← HXL.out]; exact h2)).1
                · obtain ⟨i, hi, rfl⟩ := List.getElem_of_mem ht
                  exact (HK.out i hi (by rw [HXL.out, ← HN.out]; exact hi) (by rw [← HN.out]; exact hi)).2
              have HRW := Lib.hid TR3.out.r
              clear HK
              go_wp2
              exact bodyPost_ret (v := .tuple #[.slice ra m rc, .bool true]) (by simp [results, Try.results16, go_sem]) rfl ⟨L, HG.out, TR3.out.b, .inl ⟨HRO.out, _, vs, rfl, by rw [HR.out]; exact HRW.out, by rw [HR.out]; exact TR3.out.d⟩⟩
      · have hneq : ((x : Int) != (n : Int)) = true := by simp; omega
        have HNX := Lib.hid hnx
        have HNR : Hid (¬ ResOk L) := fun hr => by
          obtain ⟨h1, h2⟩ := HRT.out hr
          rw [← HXT.out h1] at h2
          exact HNX.out (by rw [← HXL.out, ← h2, List.length_map, HN.out])
        go_wp2
        exact bodyPost_ret (v := .tuple #[.slice (some ⟨_, 0, none⟩) 0 0, .bool false]) (by simp [results, Try.results16, go_sem]; rfl) rfl ⟨L, HG.out, TR2.out.b.alloc hw2 _, .inr ⟨HNR.out, _, rfl, _, _, rfl⟩⟩
end Go.Proofs.Ytdoomfckdjjlaaa

/-! Tables written over with marks, which are there afterwards. -/
namespace Go.Proofs.Ytdoomfckdjjlaaa
open Go.RowKit

def marksL (k n : Nat) : List ByteArray := (List.range n).map fun i => markT (k + i)
theorem marksL_len (k n : Nat) : (marksL k n).length = n := by simp [marksL]
theorem marksL_strV (k n : Nat) : (marksL k n).map strV = markS k n := by unfold marksL markS; rw [List.map_map]; rfl
def marksT (k : Nat) (T : List (List ByteArray)) : List (List ByteArray) := (List.range T.length).map fun i => marksL (cAt k T i) (T.getD i []).length
theorem marksT_len (k : Nat) (T : List (List ByteArray)) : (marksT k T).length = T.length := by simp [marksT]
theorem marksT_get {k i : Nat} {T : List (List ByteArray)} (h : i < T.length) : (marksT k T)[i]'(by rw [marksT_len]; exact h) = marksL (cAt k T i) T[i].length := by
  unfold marksT
  rw [List.getElem_map, List.getElem_range, getD_at h]
theorem marksT_take {k i : Nat} {T : List (List ByteArray)} (h : i < T.length) : (marksT k T).take (i + 1) = (marksT k T).take i ++ [marksL (cAt k T i) T[i].length] := by
  rw [List.take_succ_eq_append_getElem (by rw [marksT_len]; exact h), marksT_get h]
theorem OwnLsU.snocU {w : World} {U V : Nat} {v : Value} {F : List ByteArray} (hv : w.ownsRow U 9 1 v F.length (F.map strV)) (hq : ∀ q, v.ownBlock = some q → q < V) (hUV : U ≤ V) : ∀ (vs : List Value) (T : List (List ByteArray)) (B : Nat), OwnLsU w U B vs T → OwnLsU w V B (vs ++ [v]) (T ++ [F]) := by
  intro vs
  induction vs with
  | nil => intro T B h; cases T with
    | nil =>
      have h : B ≤ U := h
      exact ⟨V, by omega, ownN_mono hv h, hq, Nat.le_refl V⟩
    | cons G T => exact h.elim
  | cons u vs ih => intro T B h; cases T with
    | nil => exact h.elim
    | cons G T =>
      obtain ⟨U', h0, h1, h2, h3⟩ := h
      exact ⟨U', h0, h1, h2, ih T U' h3⟩
theorem OwnLsU.ls {w : World} {U : Nat} : ∀ (vs : List Value) (T : List (List ByteArray)) (B : Nat), OwnLsU w U B vs T → OwnLs w B vs T := by
  intro vs
  induction vs with
  | nil => intro T B h; cases T with
    | nil => exact True.intro
    | cons F T => exact h.elim
  | cons v vs ih => intro T B h; cases T with
    | nil => exact h.elim
    | cons F T =>
      obtain ⟨U', h0, h1, h2, h3⟩ := h
      exact ⟨U', h0, h1, h2, ih T U' h3⟩
set_option maxRecDepth 100000 in
set_option maxHeartbeats 1600000 in
theorem markStringSS2 (v : Value) (B n k : Nat) (vs : List Value) (T : List (List ByteArray)) (w : World) (own : w.ownsRow B 31 1 v n vs) (hd : OwnLs w B vs T) (hn : T.length = n) (h0 : 0 < k) (hk : ∀ i, i ≤ n → cAt k T i ≤ 4611686018427387904) (hB : B ≤ w.heap.size) :
    Calls Try.prog 25 #[v, .int .i64 (k : Int)] w fun e w' => e = .returned (.int .i64 ((cAt k T n : Nat) : Int)) ∧ w'.ownsRow B 31 1 v n vs ∧ OwnLs w' B vs (marksT k T) ∧ Below B w w' := by
  have hvl : vs.length = n := by rw [OwnLs.len vs T B hd, hn]
  have OS := Lib.hid own; have HD := Lib.hid hd; have HN := Lib.hid hn; have HK := Lib.hid hk; have HVL := Lib.hid hvl
  obtain ⟨a, c, rfl, _, hc, hc', _, _⟩ := ownN_formn own
  clear own hd hn hk hvl
  go_enter Try.func25, Try.ntmps25
  go_wp2
  go_loopw [1, 5] (fun q t wr => ∃ (j U : Nat), j ≤ n ∧ t = .int .i64 (j : Int) ∧ q = .int .i64 ((cAt k T j : Nat) : Int) ∧ B ≤ U ∧ wr.ownsRow B 31 1 (.slice a n c) n vs ∧ Hid (OwnLs wr U (vs.drop j) (T.drop j)) ∧ Hid (OwnLsU wr U B (vs.take j) ((marksT k T).take j)) ∧ Below B w wr) (fun _ t _ => n - (intOf t).toNat)
  case atStart => exact ⟨0, B, Nat.zero_le _, rfl, by rw [cAt_zero], Nat.le_refl _, OS.out, HD.out, Nat.le_refl B, Below.refl _ _⟩
  case round =>
    obtain ⟨j, U, hj, rfl, rfl, hU, ow, HL, HU, hb⟩ := hrel
    clear OS HD
    have OW := Lib.hid ow
    have BW := Lib.hid hb
    have hws := hb.size
    clear ow hb
    by_cases hjl : j < n
    · have hjT : j < T.length := by rw [HN.out]; exact hjl
      have hjV : j < vs.length := by rw [HVL.out]; exact hjl
      have hl := HL.out
      rw [List.drop_eq_getElem_cons hjV, List.drop_eq_getElem_cons hjT] at hl
      obtain ⟨V, hUV, h1, h2, h3⟩ := hl
      have hk1 := HK.out (j + 1) (by omega)
      have HKS := Lib.hid (cAt_succ (k := k) hjT)
      have HMT := Lib.hid (marksT_take (k := k) hjT)
      have HVT : Hid (vs.take (j + 1) = vs.take j ++ [vs[j]]) := List.take_succ_eq_append_getElem hjV
      rw [cAt_succ hjT] at hk1
      have hkpos : 0 < cAt k T j := by unfold cAt; omega
      obtain ⟨b, off, ha, hlt, hc0⟩ := (own_formn_row OW.out) j hjV
      subst ha
      obtain ⟨fa, fc, hfv, _⟩ := ownN_formn h1
      rw [hfv] at hc0 h1 h2 HVT
      obtain ⟨kk, hkk⟩ : ∃ kk, cAt k T j = kk := ⟨_, rfl⟩
      rw [hkk] at hk1 hkpos HKS HMT ⊢
      have HM := Lib.hid (markStringS_any (.slice fa T[j].length fc) U (T[j].map strV) T[j].length kk wr h1 (by simp) hkpos (by omega))
      have H1 := Lib.hid h1; have H2 := Lib.hid h2; have H3 := Lib.hid h3
      clear h1 h2 h3 HL hfv
      generalize T[j].length = fl at *
      go_wp2_with fail
      refine HM.out.mono ?_
      rintro e w1 ⟨rfl, om, g1⟩
      have OW1 := Lib.hid (ownN_other OW.out g1 (fun q hq e => ownN_types_ne H1.out OW.out (by decide) q e hq))
      have HL1 : Hid (OwnLs w1 V (vs.drop (j + 1)) (T.drop (j + 1))) := OwnLs.keepU _ _ V H3.out (KeepFrom.of_grown g1 H2.out)
      have HU1 : Hid (OwnLsU w1 V B (vs.take (j + 1)) ((marksT k T).take (j + 1))) := by
        show OwnLsU _ _ _ _ _
        rw [HMT.out, HVT.out]
        refine OwnLsU.snocU (by rw [marksL_len, marksL_strV]; exact om) H2.out hUV _ _ _ (OwnLsU.keep (fun B' v' F' hq h' => ownN_other h' g1 (fun q hq1 e => ?_)) _ _ _ HU.out)
        have := hq q hq1
        have := (ownN_ge H1.out q e).1
        omega
      have B1 := Lib.hid (BW.out.grown g1 (by omega) (fun q hq => Nat.le_trans hU (ownN_ge H1.out q hq).1))
      clear g1 om
      go_wp2
      go_roundw
      case rel => exact ⟨j + 1, V, by omega, by go_num, by rw [HKS.out]; rfl, by omega, OW1.out, HL1, HU1, B1.out⟩
      case measure => simp [intOf]; omega
    · obtain rfl : j = n := by omega
      have HE : Hid (OwnLs wr B vs (marksT k T)) := by
        have := OwnLsU.ls _ _ _ HU.out
        rwa [List.take_of_length_le (by rw [HVL.out]; exact Nat.le_refl _), List.take_of_length_le (by rw [marksT_len, HN.out]; exact Nat.le_refl _)] at this
      clear HU HL
      go_wp2
      go_ret
      exact ⟨rfl, OW.out, HE.out, BW.out⟩
set_option maxRecDepth 100000 in
set_option maxHeartbeats 800000 in
theorem heldStringSS_any (a : Option Addr) (n c k : Nat) (T : List (List ByteArray)) (w : World) (h : TabsAt w 0 a (marksT k T)) (hn : T.length = n) (hn6 : n ≤ 1048576) (h0 : 0 < k) (hk : ∀ i, i ≤ n → cAt k T i ≤ 4611686018427387904) :
    Calls Try.prog 31 #[.slice a n c, .int .i64 (k : Int)] w fun e w' => e = .returned (.int .i64 ((cAt k T n : Nat) : Int)) ∧ Below w.heap.size w w' := by
  have H := Lib.hid h; have HN := Lib.hid hn; have HK := Lib.hid hk
  clear h hn hk
  go_enter Try.func31, Try.ntmps31
  go_wp2
  go_loopw [1, 5] (fun q t wr => ∃ j : Nat, j ≤ n ∧ t = .int .i64 (j : Int) ∧ q = .int .i64 ((cAt k T j : Nat) : Int) ∧ Hid (Below w.heap.size w wr)) (fun _ t _ => n - (intOf t).toNat)
  case atStart => exact ⟨0, Nat.zero_le _, rfl, by rw [cAt_zero], Below.refl _ _⟩
  case round =>
    obtain ⟨j, hj, rfl, rfl, BW⟩ := hrel
    have hws := BW.out.size
    by_cases hjl : j < n
    · have hjT : j < T.length := by rw [HN.out]; exact hjl
      obtain ⟨b, off, v, rfl, hlt, x0, x1⟩ := (H.out.below BW.out) j (by rw [marksT_len]; exact hjT)
      obtain ⟨fa, fc, rfl, hrow, hf1, hf2, _⟩ := x1
      have hk1 := HK.out (j + 1) (by omega)
      have HKS := Lib.hid (cAt_succ (k := k) hjT)
      rw [cAt_succ hjT] at hk1
      have hkpos : 0 < cAt k T j := by unfold cAt; omega
      rw [marksT_get hjT, marksL_strV] at hrow
      rw [marksT_get hjT, marksL_len] at x0
      obtain ⟨kk, hkk⟩ : ∃ kk, cAt k T j = kk := ⟨_, rfl⟩
      rw [hkk] at hk1 hkpos HKS hrow ⊢
      have CH := Lib.hid (heldStringS_any fa T[j].length fc kk wr hrow hkpos (by omega))
      clear hrow hf1
      generalize T[j].length = fl at *
      have k0 : (0 : Int) ≤ (j : Int) := by omega
      have k1 : (j : Int) < (n : Int) := by omega
      go_wp2_with fail
      refine CH.out.mono ?_
      rintro e w1 ⟨rfl, b1⟩
      have B1 := Lib.hid (BW.out.trans (b1.mono hws))
      have q0 : ¬ (((kk + fl : Nat) : Int) < 0) := by omega
      clear b1
      go_wp2
      go_roundw
      case rel => exact ⟨j + 1, by omega, by go_num, by rw [HKS.out]; rfl, B1.out⟩
      case measure => simp [intOf]; omega
    · obtain rfl : j = n := by omega
      go_wp2
      go_ret
      exact ⟨rfl, BW.out⟩
theorem markStringSS0 (a : Option Addr) (c : Nat) (k : Int) (w : World) : Calls Try.prog 25 #[.slice a 0 c, .int .i64 k] w fun e w' => e = .returned (.int .i64 k) ∧ w = w' := by
  go_enter Try.func25, Try.ntmps25
  go_wp2
  go_loop [1, 5] (fun q t => q = .int .i64 k ∧ t = .int .i64 0) (fun _ _ => 0)
  case atStart => exact ⟨rfl, rfl⟩
  case round =>
    obtain ⟨rfl, rfl⟩ := hrel
    go_wp2
    go_ret
    exact ⟨rfl, rfl⟩
theorem heldStringSS0 (a : Option Addr) (c : Nat) (k : Int) (w : World) : Calls Try.prog 31 #[.slice a 0 c, .int .i64 k] w fun e w' => e = .returned (.int .i64 k) ∧ w = w' := by
  go_enter Try.func31, Try.ntmps31
  go_wp2
  go_loop [1, 5] (fun q t => q = .int .i64 k ∧ t = .int .i64 0) (fun _ _ => 0)
  case atStart => exact ⟨rfl, rfl⟩
  case round =>
    obtain ⟨rfl, rfl⟩ := hrel
    go_wp2
    go_ret
    exact ⟨rfl, rfl⟩
theorem eqStringSS0 (a a2 : Option Addr) (c c2 : Nat) (w : World) : Calls Try.prog 24 #[.slice a 0 c, .slice a2 0 c2] w fun e w' => e = .returned (.bool true) ∧ Below w.heap.size w w' :=
  eqStringSS_any a a2 0 c c2 [] w (fun i h => by simp at h) (fun i h => by simp at h) rfl (by omega) ⟨Nat.zero_le _, fun r hr => by cases hr⟩
end Go.Proofs.Ytdoomfckdjjlaaa
