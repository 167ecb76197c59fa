/- Tokens without attributes: rows of them; what the tables' tokens are. -/
import Derived.Test.YtdoomfckdjjlaaaTbl
import Derived.Test.YtdoomfckdjjlaaaReg
import Derived.Test.YtdoomfckdjjlaaaPush2
import Derived.Maps.AppendAt
namespace Go.Proofs.Ytdoomfckdjjlaaa
open Go.RowKit

structure Tok where
  K : Nat
  N : ByteArray
  V : ByteArray
def tokV (t : Tok) : List Value := [.int .i64 (t.K : Int), .string t.N, .string t.V, .slice none 0 0]
/-- The cells of a row of tokens. -/
def tokC (l : List Tok) : List Value := l.flatMap tokV
theorem tokC_len (l : List Tok) : (tokC l).length = l.length * 4 := by
  induction l with
  | nil => rfl
  | cons a l ih => rw [tokC, List.flatMap_cons, List.length_append, ← tokC, ih]; simp [tokV]; omega
theorem tokC_app (a b : List Tok) : tokC (a ++ b) = tokC a ++ tokC b := by simp [tokC]
theorem tokC_one (l : List Tok) : ∀ u ∈ tokC l, u.oneCell' = true := by
  intro u hu
  obtain ⟨t, _, ht⟩ := List.mem_flatMap.1 hu
  simp only [tokV, List.mem_cons, List.not_mem_nil, or_false] at ht
  rcases ht with rfl | rfl | rfl | rfl <;> rfl
theorem tokC_get (l : List Tok) (i j : Nat) (h : i < l.length) (hj : j < 4) : (tokC l)[i * 4 + j]? = (tokV l[i])[j]? := by
  induction l generalizing i with
  | nil => simp at h
  | cons a l ih =>
    have e : tokC (a :: l) = tokV a ++ tokC l := rfl
    have h4 : (tokV a).length = 4 := rfl
    rw [e]
    rcases i with _ | i
    · rw [List.getElem?_append_left (by omega), Nat.zero_mul, Nat.zero_add]; rfl
    · rw [List.getElem?_append_right (by omega), show (i + 1) * 4 + j - (tokV a).length = i * 4 + j by omega, ih i (by simpa using h)]
      rfl
theorem info_tok : (Try.prog.info? 53).map (fun i => (i.zero, i.size, i.bytes)) = some (some (.agg #[.int .i64 0, .string ⟨#[]⟩, .string ⟨#[]⟩, .slice none 0 0]), 4, 64) := by kernel_rfl
/-- A row of tokens without attributes. -/
def TokAt (w : World) (a : Option Addr) (T : List Tok) : Prop :=
  ∀ i (h : i < T.length), ∃ b off pa pc, a = some ⟨b, off, none⟩ ∧ b < w.heap.size ∧ w.cell? ⟨b, off + i * 4, none⟩ = some (.int .i64 (T[i].K : Int)) ∧ w.cell? ⟨b, off + i * 4 + 1, none⟩ = some (.string T[i].N) ∧ w.cell? ⟨b, off + i * 4 + 2, none⟩ = some (.string T[i].V) ∧ w.cell? ⟨b, off + i * 4 + 3, none⟩ = some (.slice pa 0 pc)
theorem TokAt.below {w w' : World} {a : Option Addr} {T : List Tok} (h : TokAt w a T) (hb : Below w.heap.size w w') : TokAt w' a T := fun i hi => by
  obtain ⟨b, off, pa, pc, h1, h2, h3, h4, h5, h6⟩ := h i hi
  exact ⟨b, off, pa, pc, h1, Nat.lt_of_lt_of_le h2 hb.size, (hb.cell (p := ⟨b, off + i * 4, none⟩) h2).trans h3, (hb.cell (p := ⟨b, off + i * 4 + 1, none⟩) h2).trans h4, (hb.cell (p := ⟨b, off + i * 4 + 2, none⟩) h2).trans h5, (hb.cell (p := ⟨b, off + i * 4 + 3, none⟩) h2).trans h6⟩
theorem TokAt.keep {w w' : World} {a : Option Addr} {T : List Tok} {B : Nat} (h : TokAt w a T) (hb : Below B w w') (ha : ∀ x : Addr, a = some x → x.block < B) : TokAt w' a T := fun i hi => by
  obtain ⟨b, off, pa, pc, h1, h2, h3, h4, h5, h6⟩ := h i hi
  have hB : b < B := ha _ h1
  exact ⟨b, off, pa, pc, h1, Nat.lt_of_lt_of_le h2 hb.size, (hb.cell (p := ⟨b, off + i * 4, none⟩) hB).trans h3, (hb.cell (p := ⟨b, off + i * 4 + 1, none⟩) hB).trans h4, (hb.cell (p := ⟨b, off + i * 4 + 2, none⟩) hB).trans h5, (hb.cell (p := ⟨b, off + i * 4 + 3, none⟩) hB).trans h6⟩
theorem toks_own {w : World} {B nn : Nat} {v : Value} {T : List Tok} (ho : w.ownsRow B 53 4 v nn (tokC T)) (hn : T.length = nn) : ∃ a c, v = .slice a nn c ∧ nn ≤ c ∧ c ≤ 9223372036854775807 ∧ TokAt w a T ∧ ∀ x : Addr, a = some x → B ≤ x.block ∧ x.block < w.heap.size := by
  obtain ⟨a, c, rfl, hr, hc, hc', _, hB⟩ := ownN_formn ho
  refine ⟨a, c, rfl, hc, hc', fun i hi => ?_, hB⟩
  have hl := tokC_len T
  have key : ∀ j, j < 4 → ∃ b off, a = some ⟨b, off, none⟩ ∧ b < w.heap.size ∧ w.cell? ⟨b, off + (i * 4 + j), none⟩ = (tokV T[i])[j]? := fun j hj => by
    obtain ⟨b, off, h1, h2, h3⟩ := hr (i * 4 + j) (by omega)
    refine ⟨b, off, h1, h2, ?_⟩
    rw [h3, ← tokC_get T i j hi hj, List.getElem?_eq_getElem (by omega)]
  obtain ⟨b, off, rfl, hlt, k0⟩ := key 0 (by omega)
  have same : ∀ j, j < 4 → w.cell? ⟨b, off + (i * 4 + j), none⟩ = (tokV T[i])[j]? := fun j hj => by
    obtain ⟨b', off', e, _, h⟩ := key j hj
    injection e with e
    injection e with e1 e2
    subst e1; subst e2
    exact h
  refine ⟨b, off, none, 0, rfl, hlt, k0, ?_, ?_, ?_⟩
  · rw [Nat.add_assoc]; exact same 1 (by omega)
  · rw [Nat.add_assoc]; exact same 2 (by omega)
  · rw [Nat.add_assoc]; exact same 3 (by omega)
/-- One token more behind an owned row of tokens. -/
theorem wpList_pushTok {wr : World} {ops : Array Oper} {rest : List Oper} {o : Oper} {a : Act} {Q : Exit → Act → World → Prop} (s x : Operand) (B : Nat) (t : Tok) (v : Value) (n : Nat) (acc : List Tok)
    (own : wr.ownsRow B 53 4 v n (tokC acc)) (hB : B ≤ wr.heap.size) (hsz : n ≤ 1099511627776) (hgd : o.guard = none)
    (ho : o.op = .call { callee := .builtin .append, args := #[s, x], argTypes := #[34, 34] }) (hs : a.eval s = v) (H : Nat) (hH : wr.heap.size = H) (hx : a.eval x = .slice (some ⟨H, 0, none⟩) 1 1)
    (h : ∀ v' w', w'.ownsRow B 53 4 v' (n + 1) (tokC (acc ++ [t])) → Below B wr w' → wpList Try.prog ops Q rest (a.put o.dst v') w') :
    wpList Try.prog ops Q (o :: rest) a (wr.alloc (.cells #[.int .i64 (t.K : Int), .string t.N, .string t.V, .slice none 0 0] 53 (0, 0))) := by
  subst hH
  obtain ⟨i0, hi, hz0, hz1, hz2⟩ := info_parts info_tok
  have hal : Below wr.heap.size wr (wr.alloc (.cells #[.int .i64 (t.K : Int), .string t.N, .string t.V, .slice none 0 0] 53 (0, 0))) := (Below.refl _ _).alloc (Nat.le_refl _) _
  refine wpList_append_own_at _ hgd s x _ ho B 53 i0 _ 4 64 Try.underlying34 hi hz0 hz1 hz2 rfl (by omega) v n (tokC acc) hs (ownN_below own hal) ⟨wr.heap.size, 0, none⟩ 1 1 (tokC [t]) hx rfl (fun j u hu => ?_) (tokC_one [t]) (by simp only [maxLen]; omega) (by omega) (by simp; omega) ?_
  · have e : (⟨wr.heap.size, 0, none⟩ : Addr).add j = ⟨wr.heap.size, j, none⟩ := by unfold Addr.add; split <;> simp_all
    rw [e, World.cell?_alloc_mark]
    rw [← hu]
    rcases j with _ | _ | _ | _ | j <;> rfl
  · intro v' w' o' g' _ _
    refine h v' w' (by rw [tokC_app]; exact o') ?_
    exact (((Below.refl B wr).alloc hB _)).grown g' (by simp; omega) (fun q hq => (ownN_ge own q hq).1)
def trS : ByteArray := ⟨#[116, 114]⟩
def tdS : ByteArray := ⟨#[116, 100]⟩
def tableS : ByteArray := ⟨#[116, 97, 98, 108, 101]⟩
def cellB (s : ByteArray) : Bool := textB (bl s) && decide (s.size ≤ 30)
def cellToks (s : ByteArray) : List Tok := [⟨2, tdS, ⟨#[]⟩⟩] ++ (if s = ⟨#[]⟩ then [] else [⟨1, ⟨#[]⟩, s⟩]) ++ [⟨3, tdS, ⟨#[]⟩⟩]
def rowToks (r : List ByteArray) : List Tok := [⟨2, trS, ⟨#[]⟩⟩] ++ r.flatMap cellToks ++ [⟨3, trS, ⟨#[]⟩⟩]
def tabToks (T : List (List ByteArray)) : List Tok := [⟨2, tableS, ⟨#[]⟩⟩] ++ T.flatMap rowToks ++ [⟨3, tableS, ⟨#[]⟩⟩]
def rowB (r : List ByteArray) : Bool := decide (r.length ≤ 6) && r.all cellB
def tabB (T : List (List ByteArray)) : Bool := decide (T.length ≤ 4) && T.all rowB && decide ((tabToks T).length ≤ 60)
/-- The tokens of a table. -/
def tokR (T : List (List ByteArray)) : List Tok := if tabB T = true then tabToks T else []
theorem tokR_yes {T : List (List ByteArray)} (h : tabB T = true) : tokR T = tabToks T := by rw [tokR, if_pos h]
theorem tokR_no {T : List (List ByteArray)} (h : tabB T = false) : tokR T = [] := by rw [tokR, if_neg (by rw [h]; simp)]
theorem tab_long {T : List (List ByteArray)} (h : 4 < T.length) : tabB T = false := by rw [tabB, decide_eq_false (by omega)]; rfl
theorem tab_bad {T : List (List ByteArray)} {r : List ByteArray} (hr : r ∈ T) (h : rowB r = false) : tabB T = false := by
  have : T.all rowB = false := by
    rw [Bool.eq_false_iff]
    intro e
    rw [List.all_eq_true] at e
    rw [e r hr] at h
    cases h
  rw [tabB, this, Bool.and_false]; rfl
theorem row_long {r : List ByteArray} (h : 6 < r.length) : rowB r = false := by rw [rowB, decide_eq_false (by omega)]; rfl
theorem row_bad {r : List ByteArray} {s : ByteArray} (hs : s ∈ r) (h : cellB s = false) : rowB r = false := by
  have : r.all cellB = false := by
    rw [Bool.eq_false_iff]
    intro e
    rw [List.all_eq_true] at e
    rw [e s hs] at h
    cases h
  rw [rowB, this, Bool.and_false]
theorem cellToks_len (s : ByteArray) : 2 ≤ (cellToks s).length ∧ (cellToks s).length ≤ 3 := by
  unfold cellToks; split <;> simp
theorem flat_len {α : Type} (f : α → List Tok) (m : Nat) : ∀ l : List α, (∀ x ∈ l, (f x).length ≤ m) → (l.flatMap f).length ≤ l.length * m := by
  intro l
  induction l with
  | nil => intro _; simp
  | cons a l ih =>
    intro h
    have h1 := h a (by simp)
    have h2 := ih (fun x hx => h x (by simp [hx]))
    rw [List.flatMap_cons, List.length_append, List.length_cons, Nat.add_mul]
    omega
theorem rowToks_len {r : List ByteArray} (h : r.length ≤ 6) : (rowToks r).length ≤ 20 := by
  have := flat_len cellToks 3 r (fun x _ => (cellToks_len x).2)
  unfold rowToks
  simp only [List.length_append, List.length_cons, List.length_nil]
  omega
end Go.Proofs.Ytdoomfckdjjlaaa
