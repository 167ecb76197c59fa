/- Reading the markup of a table: the plain reader, and what the program's memory holds meanwhile. -/
import Derived.Test.YtdoomfckdjjlaaaSteps
import Derived.Test.YtdoomfckdjjlaaaUne
import Derived.Test.YtdoomfckdjjlaaaTok
import Derived.Test.YtdoomfckdjjlaaaPush2
namespace Go.Proofs.Ytdoomfckdjjlaaa
open Go.RowKit

structure Cf where
  out : List Tok
  M : Nat
  T : List UInt8
  raw : List UInt8
def flushC (c : Cf) : List Tok := if c.raw = [] then c.out else c.out ++ [⟨1, ⟨#[]⟩, mkS (unescR c.raw)⟩]
def nameGo (c : Cf) (b : UInt8) : Option Cf := if letB b = true ∧ nameB (c.T ++ [lowC b]) = true then some ⟨c.out, c.M, c.T ++ [lowC b], c.raw⟩ else none
/-- One byte more of a table's markup. -/
def stepC (c : Cf) (b : UInt8) : Option Cf :=
  if c.M = 0 then (if b = 60 then some ⟨flushC c, 1, [], []⟩ else some ⟨c.out, 0, [], c.raw ++ [b]⟩)
  else if c.M = 1 then (if letB b = true ∧ nameB [lowC b] = true then some ⟨c.out, 2, [lowC b], c.raw⟩ else if b = 47 then some ⟨c.out, 9, [], c.raw⟩ else none)
  else if c.M = 2 then (if b = 62 then (if c.T = scriptL then none else some ⟨c.out ++ [⟨2, mkS c.T, ⟨#[]⟩⟩], 0, [], c.raw⟩) else nameGo c b)
  else if c.M = 9 then (if b = 62 then (if c.T = [] then none else some ⟨c.out ++ [⟨3, mkS c.T, ⟨#[]⟩⟩], 0, [], c.raw⟩) else nameGo c b)
  else none
def runC : Cf → List UInt8 → Option Cf
  | c, [] => some c
  | c, b :: r => (stepC c b).bind fun c' => runC c' r
theorem runC_app : ∀ (A B : List UInt8) (c : Cf), runC c (A ++ B) = (runC c A).bind fun c' => runC c' B := by
  intro A
  induction A with
  | nil => intro B c; rfl
  | cons a A ih =>
    intro B c
    rw [List.cons_append, runC, runC]
    cases stepC c a with
    | none => rfl
    | some c' => exact ih B c'
def cf0 : Cf := ⟨[], 0, [], []⟩
theorem run_next {s : ByteArray} {z c : Cf} {k : Nat} (hz : runC cf0 (bl s) = some z) (hk : k < s.size) (hs : runC cf0 ((bl s).take k) = some c) : ∃ c', stepC c s[k] = some c' ∧ runC cf0 ((bl s).take (k + 1)) = some c' := by
  have e1 : bl s = (bl s).take (k + 1) ++ (bl s).drop (k + 1) := (List.take_append_drop _ _).symm
  have e2 : runC cf0 ((bl s).take (k + 1)) = (stepC c s[k]).bind fun c' => some c' := by
    rw [bl_take s k hk, runC_app, hs, Option.bind_some]
    rfl
  cases hst : stepC c s[k] with
  | none =>
    rw [hst] at e2
    rw [e1, runC_app, e2] at hz
    simp at hz
  | some c' =>
    rw [hst] at e2
    exact ⟨c', rfl, e2⟩
/-- What holds between the steps. -/
def CfOk (c : Cf) : Prop := (c.M = 0 ∧ c.T = []) ∨ (c.M = 1 ∧ c.T = [] ∧ c.raw = []) ∨ (c.M = 2 ∧ nameB c.T = true ∧ c.raw = []) ∨ (c.M = 9 ∧ (c.T = [] ∨ nameB c.T = true) ∧ c.raw = [])
theorem long_name {M : Nat} {T : List UInt8} {b : UInt8} (h : nameB (T ++ [lowC b]) = true) : longT ⟨M, T, [], false⟩ b = ⟨M, T ++ [lowC b], [], false⟩ := by
  unfold longT
  rw [if_neg (by have := nameB_len h; simp only; omega)]
theorem step_cases {c c' : Cf} {b : UInt8} (hk : CfOk c) (h : stepC c b = some c') :
    (c.M = 0 ∧ c.T = [] ∧ b ≠ 60 ∧ c' = ⟨c.out, 0, [], c.raw ++ [b]⟩) ∨
    (c.M = 0 ∧ c.T = [] ∧ b = 60 ∧ c' = ⟨flushC c, 1, [], []⟩) ∨
    (c.M = 1 ∧ c.T = [] ∧ c.raw = [] ∧ letB b = true ∧ nameB [lowC b] = true ∧ c' = ⟨c.out, 2, [lowC b], []⟩) ∨
    (c.M = 1 ∧ c.T = [] ∧ c.raw = [] ∧ b = 47 ∧ c' = ⟨c.out, 9, [], []⟩) ∨
    (c.M = 2 ∧ nameB c.T = true ∧ c.raw = [] ∧ b = 62 ∧ c.T ≠ scriptL ∧ c' = ⟨c.out ++ [⟨2, mkS c.T, ⟨#[]⟩⟩], 0, [], []⟩) ∨
    (c.M = 2 ∧ nameB c.T = true ∧ c.raw = [] ∧ letB b = true ∧ nameB (c.T ++ [lowC b]) = true ∧ c' = ⟨c.out, 2, c.T ++ [lowC b], []⟩) ∨
    (c.M = 9 ∧ (c.T = [] ∨ nameB c.T = true) ∧ c.raw = [] ∧ b = 62 ∧ c.T ≠ [] ∧ c' = ⟨c.out ++ [⟨3, mkS c.T, ⟨#[]⟩⟩], 0, [], []⟩) ∨
    (c.M = 9 ∧ (c.T = [] ∨ nameB c.T = true) ∧ c.raw = [] ∧ letB b = true ∧ nameB (c.T ++ [lowC b]) = true ∧ c' = ⟨c.out, 9, c.T ++ [lowC b], []⟩) := by
  obtain ⟨out, M, T, raw⟩ := c
  unfold CfOk at hk
  unfold stepC at h
  simp only at hk h ⊢
  rcases hk with ⟨rfl, rfl⟩ | ⟨rfl, rfl, rfl⟩ | ⟨rfl, h1, rfl⟩ | ⟨rfl, h1, rfl⟩
  · rw [if_pos rfl] at h
    split at h
    · rename_i hb; injection h with h; exact .inr (.inl ⟨rfl, rfl, hb, h.symm⟩)
    · rename_i hb; injection h with h; exact .inl ⟨rfl, rfl, hb, h.symm⟩
  · rw [if_neg (by omega), if_pos rfl] at h
    split at h
    · rename_i hb; injection h with h; exact .inr (.inr (.inl ⟨rfl, rfl, rfl, hb.1, hb.2, h.symm⟩))
    · split at h
      · rename_i hb; injection h with h; exact .inr (.inr (.inr (.inl ⟨rfl, rfl, rfl, hb, h.symm⟩)))
      · cases h
  · rw [if_neg (by omega), if_neg (by omega), if_pos rfl] at h
    split at h
    · rename_i hb
      split at h
      · cases h
      · rename_i hs; injection h with h; exact .inr (.inr (.inr (.inr (.inl ⟨rfl, h1, rfl, hb, hs, h.symm⟩))))
    · unfold nameGo at h
      simp only at h
      split at h
      · rename_i hb; injection h with h; exact .inr (.inr (.inr (.inr (.inr (.inl ⟨rfl, h1, rfl, hb.1, hb.2, h.symm⟩)))))
      · cases h
  · rw [if_neg (by omega), if_neg (by omega), if_neg (by omega), if_pos rfl] at h
    split at h
    · rename_i hb
      split at h
      · cases h
      · rename_i hs; injection h with h; exact .inr (.inr (.inr (.inr (.inr (.inr (.inl ⟨rfl, h1, rfl, hb, hs, h.symm⟩))))))
    · unfold nameGo at h
      simp only at h
      split at h
      · rename_i hb; injection h with h; exact .inr (.inr (.inr (.inr (.inr (.inr (.inr ⟨rfl, h1, rfl, hb.1, hb.2, h.symm⟩))))))
      · cases h
/-! What the memory holds. -/
theorem own_ne {W : World} {B k n i : Nat} {e t : TypeId} {v : Value} {l : List Value} {C : Array Value} {fr : Nat × Nat} (own : W.ownsRow B e k v n l) (h : W.heap[i]? = some (.cells C t fr)) (hne : e ≠ t) : v.ownBlock ≠ some i := by
  intro e1
  rcases own.2 with ⟨hv, _⟩ | ⟨g, cap, cur, hv, _, hh, _⟩
  · rw [hv] at e1; cases e1
  · rw [hv] at e1
    injection e1 with e1
    simp only at e1
    subst e1
    rw [hh] at h
    injection h with h
    injection h with _ ht
    exact hne ht
def nowC (M : Nat) : Array Value := #[.int .i64 (if M = 2 then 2 else 0), .string ⟨#[]⟩, .string ⟨#[]⟩, .slice none 0 0]
/-- The reader's memory: the tokens, the bytes, the state, the token that is begun, and one state more. -/
structure TkI (w : World) (out raw : Value) (o : List Tok) (r : List UInt8) (s : St) (now : Array Value) (nb : Nat) (s2 : St) (W : World) : Prop where
  o : W.ownsRow w.heap.size 53 4 out o.length (tokC o)
  on : out.ownBlock ≠ some (w.heap.size + 1 + 1 + 1)
  r : W.ownsRow w.heap.size 5 1 raw r.length (r.map byteV)
  s : W.heap[w.heap.size + 1]? = some (.cells (stC s) 57 (0, 0))
  n : W.heap[w.heap.size + 1 + 1 + 1]? = some (.cells now 53 (0, 0))
  m : W.heap[nb]? = some (.cells (stC s2) 57 (0, 0))
  b : Below w.heap.size w W
section
variable {w W W' : World} {out raw : Value} {o : List Tok} {r : List UInt8} {s s2 : St} {now : Array Value} {nb : Nat}
theorem TkI.below (h : TkI w out raw o r s now nb s2 W) (hb : Below W.heap.size W W') : TkI w out raw o r s now nb s2 W' :=
  ⟨ownN_below h.o hb, h.on, own_below h.r hb, (hb.block _ (bld_ltS h.s)).trans h.s, (hb.block _ (bld_ltS h.n)).trans h.n, (hb.block _ (bld_ltS h.m)).trans h.m, h.b.trans (hb.mono h.b.size)⟩
/-- Another state at hand. -/
theorem TkI.fresh (h : TkI w out raw o r s now nb s2 W) (s3 : St) : TkI w out raw o r s now W.heap.size s3 (W.alloc (.cells (stC s3) 57 (0, 0))) := by
  have := h.below ((Below.refl W.heap.size W).alloc (Nat.le_refl _) (.cells (stC s3) 57 (0, 0)))
  exact ⟨this.o, this.on, this.r, this.s, this.n, heap_alloc_new _ _, this.b⟩
theorem TkI.cells (h : TkI w out raw o r s now nb s2 W) : (W.cell? ⟨w.heap.size + 1, 0, none⟩ = some (.int .i64 (s.M : Int)) ∧ W.cell? ⟨w.heap.size + 1, 1, none⟩ = some (.string (mkS s.T)) ∧ W.cell? ⟨w.heap.size + 1, 2, none⟩ = some (.string (mkS s.A)) ∧ W.cell? ⟨w.heap.size + 1, 3, none⟩ = some (.bool s.E)) ∧
    (W.cell? ⟨nb, 0, none⟩ = some (.int .i64 (s2.M : Int)) ∧ W.cell? ⟨nb, 1, none⟩ = some (.string (mkS s2.T)) ∧ W.cell? ⟨nb, 2, none⟩ = some (.string (mkS s2.A)) ∧ W.cell? ⟨nb, 3, none⟩ = some (.bool s2.E)) ∧
    (W.frozen? ⟨w.heap.size + 1, 0, none⟩ = false ∧ W.frozen? ⟨w.heap.size + 1, 1, none⟩ = false ∧ W.frozen? ⟨w.heap.size + 1, 2, none⟩ = false ∧ W.frozen? ⟨w.heap.size + 1, 3, none⟩ = false) :=
  ⟨st_cells h.s, st_cells h.m, row_frozen h.s 0, row_frozen h.s 1, row_frozen h.s 2, row_frozen h.s 3⟩
theorem TkI.nows {x0 x1 x2 x3 : Value} (h : TkI w out raw o r s #[x0, x1, x2, x3] nb s2 W) : (W.cell? ⟨w.heap.size + 1 + 1 + 1, 0, none⟩ = some x0 ∧ W.cell? ⟨w.heap.size + 1 + 1 + 1, 1, none⟩ = some x1 ∧ W.cell? ⟨w.heap.size + 1 + 1 + 1, 2, none⟩ = some x2 ∧ W.cell? ⟨w.heap.size + 1 + 1 + 1, 3, none⟩ = some x3) ∧
    (W.frozen? ⟨w.heap.size + 1 + 1 + 1, 0, none⟩ = false ∧ W.frozen? ⟨w.heap.size + 1 + 1 + 1, 1, none⟩ = false ∧ W.frozen? ⟨w.heap.size + 1 + 1 + 1, 2, none⟩ = false ∧ W.frozen? ⟨w.heap.size + 1 + 1 + 1, 3, none⟩ = false) := by
  refine ⟨⟨?_, ?_, ?_, ?_⟩, row_frozen h.n 0, row_frozen h.n 1, row_frozen h.n 2, row_frozen h.n 3⟩ <;> (rw [cell_of_row W _ _ _ _ _ h.n]; rfl)
/-- The state is written. -/
theorem TkI.setS (h : TkI w out raw o r s now nb s2 W) (s3 : St) (hnb : nb ≠ w.heap.size + 1) :
    TkI w out raw o r s3 now nb s2 ((((W.setCell ⟨w.heap.size + 1, 0, none⟩ (.int .i64 (s3.M : Int))).setCell ⟨w.heap.size + 1, 1, none⟩ (.string (mkS s3.T))).setCell ⟨w.heap.size + 1, 2, none⟩ (.string (mkS s3.A))).setCell ⟨w.heap.size + 1, 3, none⟩ (.bool s3.E)) := by
  have hg := grown_setCell (grown_setCell (grown_setCell (grown_setCell (grown_refl W (some (w.heap.size + 1))) 0 (.int .i64 (s3.M : Int))) 1 (.string (mkS s3.T))) 2 (.string (mkS s3.A))) 3 (.bool s3.E)
  refine ⟨ownN_other h.o hg (fun q hq e => own_ne h.o h.s (by decide) (by rw [hq, e])), h.on, own_other h.r hg (fun q hq e => own_ne h.r h.s (by decide) (by rw [hq, e])), ?_, ?_, ?_, ?_⟩
  · exact heap_setCell_same _ _ 3 _ _ _ (heap_setCell_same _ _ 2 _ _ _ (heap_setCell_same _ _ 1 _ _ _ (heap_setCell_same _ _ 0 _ _ _ h.s)))
  · rw [hg.block _ (bld_ltS h.n) (by intro e; injection e with e; omega)]; exact h.n
  · rw [hg.block _ (bld_ltS h.m) (by intro e; injection e with e; exact hnb e)]; exact h.m
  · exact (((h.b.setCell (p := ⟨w.heap.size + 1, 0, none⟩) (Nat.le_succ _) _).setCell (p := ⟨w.heap.size + 1, 1, none⟩) (Nat.le_succ _) _).setCell (p := ⟨w.heap.size + 1, 2, none⟩) (Nat.le_succ _) _).setCell (p := ⟨w.heap.size + 1, 3, none⟩) (Nat.le_succ _) _
/-- A cell of the token that is begun is written. -/
theorem TkI.setN (h : TkI w out raw o r s now nb s2 W) (hnb : nb ≠ w.heap.size + 1 + 1 + 1) (i : Nat) (x : Value) : TkI w out raw o r s (now.setIfInBounds i x) nb s2 (W.setCell ⟨w.heap.size + 1 + 1 + 1, i, none⟩ x) := by
  have hg := grown_setCell (grown_refl W (some (w.heap.size + 1 + 1 + 1))) i x
  refine ⟨ownN_other h.o hg (fun q hq e => h.on (by rw [hq, e])), h.on, own_other h.r hg (fun q hq e => own_ne h.r h.n (by decide) (by rw [hq, e])), ?_, ?_, ?_, ?_⟩
  · rw [hg.block _ (bld_ltS h.s) (by intro e; injection e with e; omega)]; exact h.s
  · exact heap_setCell_same _ _ i _ _ _ h.n
  · rw [hg.block _ (bld_ltS h.m) (by intro e; injection e with e; exact hnb e)]; exact h.m
  · exact h.b.setCell (p := ⟨w.heap.size + 1 + 1 + 1, i, none⟩) (by show w.heap.size ≤ w.heap.size + 1 + 1 + 1; omega) _
/-- A row grows: the tokens. -/
theorem TkI.tok (h : TkI w out raw o r s now nb s2 W) {out' : Value} {t : Tok} (own : W'.ownsRow w.heap.size 53 4 out' (o.length + 1) (tokC (o ++ [t]))) (hg : W.grownBy W' out.ownBlock) (hat : out'.ownBlock = out.ownBlock ∨ ∃ k, out'.ownBlock = some k ∧ W.heap.size ≤ k) : TkI w out' raw (o ++ [t]) r s now nb s2 W' := by
  refine ⟨by rw [List.length_append]; exact own, ?_, own_other h.r hg (fun q hq e => ownN_types_ne (k := 1) (k' := 4) h.r h.o (by decide) q hq e), ?_, ?_, ?_, ?_⟩
  · rcases hat with e | ⟨k, e, hk⟩
    · rw [e]; exact h.on
    · rw [e]; intro e2; injection e2 with e2; have := bld_ltS h.n; omega
  · rw [hg.block _ (bld_ltS h.s) (fun e => own_ne h.o h.s (by decide) e.symm)]; exact h.s
  · rw [hg.block _ (bld_ltS h.n) (fun e => h.on e.symm)]; exact h.n
  · rw [hg.block _ (bld_ltS h.m) (fun e => own_ne h.o h.m (by decide) e.symm)]; exact h.m
  · exact h.b.grown hg h.b.size (fun q hq => (ownN_ge h.o q hq).1)
/-- A row grows: the bytes. -/
theorem TkI.byte (h : TkI w out raw o r s now nb s2 W) {raw' : Value} {b : UInt8} (own : W'.ownsRow w.heap.size 5 1 raw' (r.length + 1) ((r ++ [b]).map byteV)) (hg : W.grownBy W' raw.ownBlock) : TkI w out raw' o (r ++ [b]) s now nb s2 W' := by
  refine ⟨ownN_other h.o hg (fun q hq e => ownN_types_ne (k := 4) (k' := 1) h.o h.r (by decide) q hq e), h.on, by rw [List.length_append]; exact own, ?_, ?_, ?_, ?_⟩
  · rw [hg.block _ (bld_ltS h.s) (fun e => own_ne h.r h.s (by decide) e.symm)]; exact h.s
  · rw [hg.block _ (bld_ltS h.n) (fun e => own_ne h.r h.n (by decide) e.symm)]; exact h.n
  · rw [hg.block _ (bld_ltS h.m) (fun e => own_ne h.r h.m (by decide) e.symm)]; exact h.m
  · exact h.b.grown hg h.b.size (fun q hq => (own_ge h.r q hq).1)
/-- The bytes are dropped. -/
theorem TkI.drop (h : TkI w out raw o r s now nb s2 W) : TkI w out (.slice none 0 0) o [] s now nb s2 W := ⟨h.o, h.on, World.ownsRow_nil _ _ _ _, h.s, h.n, h.m, h.b⟩
end
/-- One token more, with all that its append tells. -/
theorem wpList_pushTokG {wr : World} {ops : Array Oper} {rest : List Oper} {o : Oper} {a : Act} {Q : Exit → Act → World → Prop} (s x : Operand) (B : Nat) (t : Tok) (v : Value) (n : Nat) (acc : List Tok)
    (own : wr.ownsRow B 53 4 v n (tokC acc)) (hB : B ≤ wr.heap.size) (hsz : n ≤ 1099511627776) (hgd : o.guard = none)
    (ho : o.op = .call { callee := .builtin .append, args := #[s, x], argTypes := #[34, 34] }) (hs : a.eval s = v) (H : Nat) (hH : wr.heap.size = H) (hx : a.eval x = .slice (some ⟨H, 0, none⟩) 1 1)
    (h : ∀ v' w', w'.ownsRow B 53 4 v' (n + 1) (tokC (acc ++ [t])) → wr.grownBy w' v.ownBlock → (v'.ownBlock = v.ownBlock ∨ ∃ k, v'.ownBlock = some k ∧ wr.heap.size ≤ k) → wpList Try.prog ops Q rest (a.put o.dst v') w') :
    wpList Try.prog ops Q (o :: rest) a (wr.alloc (.cells #[.int .i64 (t.K : Int), .string t.N, .string t.V, .slice none 0 0] 53 (0, 0))) := by
  subst hH
  obtain ⟨i0, hi, hz0, hz1, hz2⟩ := info_parts info_tok
  have hal : Below wr.heap.size wr (wr.alloc (.cells #[.int .i64 (t.K : Int), .string t.N, .string t.V, .slice none 0 0] 53 (0, 0))) := (Below.refl _ _).alloc (Nat.le_refl _) _
  refine wpList_append_own_at _ hgd s x _ ho B 53 i0 _ 4 64 Try.underlying34 hi hz0 hz1 hz2 rfl (by omega) v n (tokC acc) hs (ownN_below own hal) ⟨wr.heap.size, 0, none⟩ 1 1 (tokC [t]) hx rfl (fun j u hu => ?_) (tokC_one [t]) (by simp only [maxLen]; omega) (by omega) (by simp; omega) ?_
  · have e : (⟨wr.heap.size, 0, none⟩ : Addr).add j = ⟨wr.heap.size, j, none⟩ := by unfold Addr.add; split <;> simp_all
    rw [e, World.cell?_alloc_mark]
    rw [← hu]
    rcases j with _ | _ | _ | _ | j <;> rfl
  · intro v' w' o' g' _ hat
    refine h v' w' (by rw [tokC_app]; exact o') ((World.grownBy_alloc _ _ _).trans g') ?_
    rcases hat with e | e
    · exact .inl e
    · exact .inr ⟨_, e, by simp⟩
end Go.Proofs.Ytdoomfckdjjlaaa
