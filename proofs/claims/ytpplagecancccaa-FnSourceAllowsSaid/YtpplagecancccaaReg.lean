/- A drawn region without guards, all its orders at once, made handy: each operation by itself, with a budget for the reader and a relation that the world keeps. -/
import Derived.Test.YtpplagecancccaaAnyOrd2
import Derived.Test.YtpplagecancccaaDraw
namespace Go.Proofs.Ytpplagecancccaa
open Go

theorem sum_split (f g : Nat → Nat) (i : Nat) : ∀ n, i < n → (∀ j, j ≠ i → f j = g j) → ((List.range n).map f).sum + g i = ((List.range n).map g).sum + f i := by
  intro n
  induction n with
  | zero => intro h; omega
  | succ n ih =>
    intro h he
    rw [List.range_succ, List.map_append, List.map_append, List.sum_append, List.sum_append]
    simp only [List.map_cons, List.map_nil, List.sum_cons, List.sum_nil]
    by_cases hin : i = n
    · subst hin
      have : ((List.range i).map f) = ((List.range i).map g) := List.map_congr_left fun j hj => he j (by have := List.mem_range.1 hj; omega)
      rw [this]
      omega
    · have := ih (by omega) he
      have e := he n (by omega)
      omega
def leftW (wt : Nat → Nat) (listed : Array Bool) : Nat := ((List.range listed.size).map fun i => if listed.getD i true = true then 0 else wt i).sum
theorem getDset_eq {l : Array Bool} {i : Nat} : (l.setIfInBounds i true).getD i true = true := by
  rw [Array.getD_eq_getD_getElem?]
  by_cases h : i < l.size
  · rw [Array.getElem?_setIfInBounds_self, if_pos h]; rfl
  · rw [Array.getElem?_setIfInBounds_self, if_neg h]; rfl
theorem leftW_set {wt : Nat → Nat} {listed : Array Bool} {i : Nat} (hi : i < listed.size) (h0 : listed.getD i true = false) : leftW wt listed = leftW wt (listed.setIfInBounds i true) + wt i := by
  have := sum_split (fun j => if listed.getD j true = true then 0 else wt j) (fun j => if (listed.setIfInBounds i true).getD j true = true then 0 else wt j) i listed.size hi (fun j hj => by rw [getD_set_ne true (Ne.symm hj)])
  simp only [h0, getDset_eq, if_true, Bool.false_eq_true, if_false] at this
  unfold leftW
  rw [Array.size_setIfInBounds]
  omega
theorem leftW_start {wt : Nat → Nat} {n : Nat} : leftW wt (Array.replicate n false) = ((List.range n).map wt).sum := by
  unfold leftW
  rw [Array.size_replicate]
  congr 1
  refine List.map_congr_left fun i hi => ?_
  rw [Array.getD_eq_getD_getElem?, Array.getElem?_replicate, if_pos (List.mem_range.1 hi)]
  rfl
/-- Every operation has been taken. -/
theorem ready_all {md : Region.Mode} {ops : Array Oper} {listed : Array Bool} (hr : Region.ready md ops listed = []) (hs : listed.size = ops.size) (hB : ∀ (i : Nat) (o : Oper), ops[i]? = some o → ∀ e ∈ o.after, Region.binds md e = true → e.on < ops.size ∧ e.on < i) : ∀ (n i : Nat), i < n → ∀ o : Oper, ops[i]? = some o → listed.getD i true = true := by
  intro n
  induction n with
  | zero => intro i h; omega
  | succ n ih =>
    intro i hi o ho
    cases hx : listed.getD i true with
    | true => rfl
    | false =>
      have : i ∈ Region.ready md ops listed := mem_ready.2 ⟨hx, o, ho, fun e he hb => by
        obtain ⟨hlt, hrk⟩ := hB i o ho e he hb
        have h1 := ih e.on (by omega) (ops[e.on]'hlt) (Array.getElem?_eq_getElem hlt)
        rw [Array.getD_eq_getD_getElem?] at h1 ⊢
        rw [Array.getElem?_eq_getElem (by omega)] at h1 ⊢
        exact h1⟩
      rw [hr] at this
      cases this
def depsB (md : Region.Mode) (ops : Array Oper) : Bool := (List.range ops.size).all fun i => match ops[i]? with | none => true | some o => o.after.all fun e => !Region.binds md e || (decide (e.on < ops.size) && decide (e.on < i))
theorem depsB_spec {md : Region.Mode} {ops : Array Oper} (h : depsB md ops = true) : ∀ (i : Nat) (o : Oper), ops[i]? = some o → ∀ e ∈ o.after, Region.binds md e = true → e.on < ops.size ∧ e.on < i := by
  intro i o ho e he hb
  unfold depsB at h
  rw [List.all_eq_true] at h
  have hi : i < ops.size := (Array.getElem?_eq_some_iff.1 ho).1
  have := h i (List.mem_range.2 hi)
  rw [ho] at this
  simp only at this
  rw [Array.all_eq_true'] at this
  have h2 := this e he
  rw [hb] at h2
  simpa using h2
/-- What an operation may lean on: the slots that none writes, and those of the operations that it waits for. -/
def RDeps (md : Region.Mode) (ops : Array Oper) (Pr : Nat → World → Value → Prop) (o : Oper) (a a0 : Act) (w : World) : Prop :=
  (∀ t : Nat, (ops.toList.all fun o => o.dst != some t) = true → a.tmps[t]? = a0.tmps[t]?) ∧
  ∀ (j t : Nat) (oj : Oper), ops[j]? = some oj → oj.dst = some t → (o.after.any fun e => Region.binds md e && e.on == j) = true → ∃ v, a.tmps[t]? = some v ∧ Pr j w v
theorem RDeps.old {md : Region.Mode} {ops : Array Oper} {Pr : Nat → World → Value → Prop} {o : Oper} {a a0 : Act} {w : World} (h : RDeps md ops Pr o a a0 w) (t : Nat) (ht : (ops.toList.all fun o => o.dst != some t) = true) : a.tmps[t]? = a0.tmps[t]? := h.1 t ht
theorem RDeps.dep {md : Region.Mode} {ops : Array Oper} {Pr : Nat → World → Value → Prop} {o : Oper} {a a0 : Act} {w : World} (h : RDeps md ops Pr o a a0 w) (j t : Nat) {oj : Oper} (hj : ops[j]? = some oj) (ht : oj.dst = some t) (he : (o.after.any fun e => Region.binds md e && e.on == j) = true) : ∃ v, a.tmps[t]? = some v ∧ Pr j w v := h.2 j t oj hj ht he

theorem region_draw {P : Program} {md : Region.Mode} {ops : Array Oper} {Q : Exit → Act → World → Prop} {a0 : Act} {w0 : World} {fuel : Nat} {listed : Array Bool} (R k : Nat) (wt : Nat → Nat) (Pr : Nat → World → Value → Prop) (Rel : World → World → Prop) (n N : Nat)
    (hB : slotsB ops n = true) (hn : n ≤ a0.tmps.size) (hD : depsB md ops = true) (hN : ops.size = N) (hl : listed = Array.replicate N false) (hf : listed.toList.count false ≤ fuel)
    (hrefl : Rel w0 w0) (htrans : ∀ w w', Rel w0 w → Rel w w' → Rel w0 w')
    (hst : ∀ (j : Nat) (w w' : World) v, Rel w0 w → Rel w w' → Pr j w v → Pr j w' v)
    (hR : Rdr w0 R (k + ((List.range N).map wt).sum))
    (hstep : ∀ (i : Nat) (o : Oper), ops[i]? = some o → ∀ (w : World) (a : Act) (m : Nat), wt i ≤ m → Rel w0 w → Rdr w R m → RDeps md ops Pr o a a0 w →
      ∀ K : Act → World → Prop, (∀ v w', (o.dst = none ∨ Pr i w' v) → Rel w w' → Rdr w' R (m - wt i) → K (a.put o.dst v) w') → o.wp P a w K Q)
    (hdone : ∀ (a : Act) (w : World), a.defers = a0.defers → a.tmps.size = a0.tmps.size → (∀ t : Nat, (ops.toList.all fun o => o.dst != some t) = true → a.tmps[t]? = a0.tmps[t]?) →
      (∀ (i t : Nat) (o : Oper), ops[i]? = some o → o.dst = some t → ∃ v, a.tmps[t]? = some v ∧ Pr i w v) → Rel w0 w → Rdr w R k → Q .normal a w) :
    wpAny P md ops Q fuel listed a0 w0 := by
  subst hl
  have old : ∀ {listed : Array Bool} {a : Act} {w : World}, SlotsAt ops a0 Pr (fun listed w => Rel w0 w ∧ Rdr w R (k + leftW wt listed) ∧ listed.size = ops.size) listed a w → ∀ t : Nat, (ops.toList.all fun o => o.dst != some t) = true → a.tmps[t]? = a0.tmps[t]? := by
    intro listed a w hS t h
    refine hS.2.2.1 t (fun i o ho e => ?_)
    rw [List.all_eq_true] at h
    have := h o (Array.mem_toList_iff.2 (Array.mem_of_getElem? ho))
    rw [e] at this
    simp at this
  refine region_slots a0 Pr (fun listed w => Rel w0 w ∧ Rdr w R (k + leftW wt listed) ∧ listed.size = ops.size) (slotsB_guard hB) (slotsB_dst hB) (fun i o t ho ht => by have := slotsB_size hB i o t ho ht; omega) ?_ ?_ fuel _ a0 w0 hf ?_
  · intro listed a w i o hS ho hi K hK
    obtain ⟨hrel, hr, hsz⟩ := hS.2.2.2.2
    have hil : i < listed.size := by rw [hsz]; exact (Array.getElem?_eq_some_iff.1 ho).1
    have hls := leftW_set (wt := wt) hil (mem_ready.1 hi).1
    refine hstep i o ho w a (k + leftW wt listed) (by omega) hrel hr ⟨old hS, ?_⟩ K ?_
    · intro j t oj hj ht he
      rw [Array.any_eq_true'] at he
      obtain ⟨e, hm, hb⟩ := he
      rw [Bool.and_eq_true] at hb
      have h1 := dep_done hi ho e hm hb.1
      have : e.on = j := by simpa using hb.2
      rw [this] at h1
      exact hS.2.2.2.1 j oj t hj (getD_up h1) ht
    · intro v w' hv hg hr'
      refine hK v w' (fun t ht => ?_) (fun j u _ hp => hst j w w' u hrel hg hp) ⟨htrans w w' hrel hg, ?_, by rw [Array.size_setIfInBounds]; exact hsz⟩
      · rcases hv with hv | hv
        · rw [hv] at ht; cases ht
        · exact hv
      · have e : k + leftW wt (listed.setIfInBounds i true) = k + leftW wt listed - wt i := by omega
        rw [e]; exact hr'
  · intro listed a w hS hr
    obtain ⟨hrel, hrd, hsz⟩ := hS.2.2.2.2
    refine hdone a w hS.1 hS.2.1 (old hS) ?_ hrel (hrd.less (by omega))
    intro i t o ho ht
    exact hS.2.2.2.1 i o t ho (ready_all hr hsz (depsB_spec hD) (i + 1) i (by omega) o ho) ht
  · refine ⟨rfl, rfl, fun _ _ => rfl, ?_, hrefl, ?_, by rw [Array.size_replicate]; exact hN.symm⟩
    · intro i o t ho hl hd
      exfalso
      have hlt : i < N := by have := (Array.getElem?_eq_some_iff.1 ho).1; omega
      rw [Array.getD_eq_getD_getElem?, Array.getElem?_replicate, if_pos hlt] at hl
      cases hl
    · rw [leftW_start]; exact hR
/-- The same with an invariant G that knows which operations are done: for regions that write to rows. -/
theorem region_draw2 {P : Program} {md : Region.Mode} {ops : Array Oper} {Q : Exit → Act → World → Prop} {a0 : Act} {w0 : World} {fuel : Nat} {listed : Array Bool} (R k : Nat) (wt : Nat → Nat) (Pr : Nat → World → Value → Prop) (G : Array Bool → World → Prop) (n N : Nat)
    (hB : slotsB ops n = true) (hn : n ≤ a0.tmps.size) (hD : depsB md ops = true) (hN : ops.size = N) (hl : listed = Array.replicate N false) (hf : listed.toList.count false ≤ fuel)
    (hG : G (Array.replicate N false) w0)
    (hR : Rdr w0 R (k + ((List.range N).map wt).sum))
    (hstep : ∀ (i : Nat) (o : Oper), ops[i]? = some o → ∀ (listed : Array Bool) (w : World) (a : Act) (m : Nat), listed.size = N → listed.getD i true = false → (∀ j : Nat, (o.after.any fun e => Region.binds md e && e.on == j) = true → listed.getD j true = true) → wt i ≤ m → G listed w → Rdr w R m → RDeps md ops Pr o a a0 w →
      ∀ K : Act → World → Prop, (∀ v w', (o.dst = none ∨ Pr i w' v) → (∀ (j : Nat) u, j ≠ i → listed.getD j true = true → Pr j w u → Pr j w' u) → G (listed.setIfInBounds i true) w' → Rdr w' R (m - wt i) → K (a.put o.dst v) w') → o.wp P a w K Q)
    (hdone : ∀ (listed : Array Bool) (a : Act) (w : World), (∀ i : Nat, i < N → listed.getD i true = true) → a.defers = a0.defers → a.tmps.size = a0.tmps.size → (∀ t : Nat, (ops.toList.all fun o => o.dst != some t) = true → a.tmps[t]? = a0.tmps[t]?) →
      (∀ (i t : Nat) (o : Oper), ops[i]? = some o → o.dst = some t → ∃ v, a.tmps[t]? = some v ∧ Pr i w v) → G listed w → Rdr w R k → Q .normal a w) :
    wpAny P md ops Q fuel listed a0 w0 := by
  subst hl
  have old : ∀ {listed : Array Bool} {a : Act} {w : World}, SlotsAt ops a0 Pr (fun listed w => G listed w ∧ Rdr w R (k + leftW wt listed) ∧ listed.size = ops.size) listed a w → ∀ t : Nat, (ops.toList.all fun o => o.dst != some t) = true → a.tmps[t]? = a0.tmps[t]? := by
    intro listed a w hS t h
    refine hS.2.2.1 t (fun i o ho e => ?_)
    rw [List.all_eq_true] at h
    have := h o (Array.mem_toList_iff.2 (Array.mem_of_getElem? ho))
    rw [e] at this
    simp at this
  refine region_slots a0 Pr (fun listed w => G listed w ∧ Rdr w R (k + leftW wt listed) ∧ listed.size = ops.size) (slotsB_guard hB) (slotsB_dst hB) (fun i o t ho ht => by have := slotsB_size hB i o t ho ht; omega) ?_ ?_ fuel _ a0 w0 hf ?_
  · intro listed a w i o hS ho hi K hK
    obtain ⟨hg, hr, hsz⟩ := hS.2.2.2.2
    have hil : i < listed.size := by rw [hsz]; exact (Array.getElem?_eq_some_iff.1 ho).1
    have hls := leftW_set (wt := wt) hil (mem_ready.1 hi).1
    have hdep : ∀ j : Nat, (o.after.any fun e => Region.binds md e && e.on == j) = true → listed.getD j true = true := by
      intro j he
      rw [Array.any_eq_true'] at he
      obtain ⟨e, hm, hb⟩ := he
      rw [Bool.and_eq_true] at hb
      have h1 := dep_done hi ho e hm hb.1
      have : e.on = j := by simpa using hb.2
      rw [this] at h1
      exact getD_up h1
    refine hstep i o ho listed w a (k + leftW wt listed) (hsz.trans hN) (mem_ready.1 hi).1 hdep (by omega) hg hr ⟨old hS, fun j t oj hj ht he => hS.2.2.2.1 j oj t hj (hdep j he) ht⟩ K ?_
    intro v w' hv hkeep hg' hr'
    refine hK v w' (fun t ht => ?_) (fun j u hj hp => ?_) ⟨hg', ?_, by rw [Array.size_setIfInBounds]; exact hsz⟩
    · rcases hv with hv | hv
      · rw [hv] at ht; cases ht
      · exact hv
    · by_cases hji : j = i
      · subst hji
        rw [(mem_ready.1 hi).1] at hj
        cases hj
      · exact hkeep j u hji hj hp
    · have e : k + leftW wt (listed.setIfInBounds i true) = k + leftW wt listed - wt i := by omega
      rw [e]; exact hr'
  · intro listed a w hS hr
    obtain ⟨hg, hrd, hsz⟩ := hS.2.2.2.2
    have hall : ∀ i : Nat, i < N → listed.getD i true = true := fun i hi => ready_all hr hsz (depsB_spec hD) (i + 1) i (by omega) ops[i] (Array.getElem?_eq_getElem (by omega))
    refine hdone listed a w hall hS.1 hS.2.1 (old hS) ?_ hg (hrd.less (by omega))
    intro i t o ho ht
    exact hS.2.2.2.1 i o t ho (hall i (by have := (Array.getElem?_eq_some_iff.1 ho).1; omega)) ht
  · refine ⟨rfl, rfl, fun _ _ => rfl, ?_, hG, ?_, by rw [Array.size_replicate]; exact hN.symm⟩
    · intro i o t ho hl hd
      exfalso
      have hlt : i < N := by have := (Array.getElem?_eq_some_iff.1 ho).1; omega
      rw [Array.getD_eq_getD_getElem?, Array.getElem?_replicate, if_pos hlt] at hl
      cases hl
    · rw [leftW_start]; exact hR
theorem listed_keep {l : Array Bool} {i j : Nat} (h : i ≠ j) : (l.setIfInBounds i true).getD j true = l.getD j true := getD_set_ne true h
theorem foldl_set_get (t : Array Value) : ∀ (W : List Nat) (r : Array Value), r.size = t.size → ∀ i : Nat, (W.foldl (fun r i => r.setIfInBounds i (t.getD i undef)) r)[i]? = if i ∈ W then t[i]? else r[i]? := by
  intro W
  induction W with
  | nil => intro r _ i; simp
  | cons x W ih =>
    intro r hr i
    rw [List.foldl_cons, ih _ (by rw [Array.size_setIfInBounds]; exact hr)]
    by_cases h1 : i ∈ W
    · rw [if_pos h1, if_pos (List.mem_cons_of_mem _ h1)]
    · rw [if_neg h1]
      by_cases h2 : i = x
      · subst h2
        rw [if_pos (List.mem_cons_self ..)]
        by_cases h3 : i < t.size
        · rw [Array.getElem?_setIfInBounds_self, if_pos (by omega), Array.getD_eq_getD_getElem?, Array.getElem?_eq_getElem h3]; rfl
        · rw [Array.getElem?_setIfInBounds_self, if_neg (by omega), Array.getElem?_eq_none (by omega)]
      · rw [if_neg (by rw [List.mem_cons]; exact fun e => e.elim h2 h1), Array.getElem?_setIfInBounds_ne (Ne.symm h2)]
/-- The frame behind a region: the slots W were written, the others were not. -/
theorem act_frame {ops : Array Oper} {a a0 : Act} (W : List Nat) (hW : (ops.toList.all fun o => match o.dst with | some d => W.contains d | none => true) = true) (hd : a.defers = a0.defers) (hs : a.tmps.size = a0.tmps.size) (hold : ∀ t : Nat, (ops.toList.all fun o => o.dst != some t) = true → a.tmps[t]? = a0.tmps[t]?) :
    a = { tmps := W.foldl (fun r i => r.setIfInBounds i (a.tmps.getD i undef)) a0.tmps, defers := a0.defers } := by
  have ht : a.tmps = W.foldl (fun r i => r.setIfInBounds i (a.tmps.getD i undef)) a0.tmps := by
    apply Array.ext_getElem?
    intro i
    rw [foldl_set_get a.tmps W a0.tmps hs.symm i]
    by_cases h : i ∈ W
    · rw [if_pos h]
    · rw [if_neg h]
      refine hold i ?_
      rw [List.all_eq_true] at hW ⊢
      intro o ho
      have := hW o ho
      cases hod : o.dst with
      | none => rfl
      | some d =>
        rw [hod] at this
        have hd' : d ∈ W := by simpa using this
        have : d ≠ i := fun e => h (e ▸ hd')
        simp [this]
  obtain ⟨t, df⟩ := a
  simp only at ht hd ⊢
  rw [← ht, hd]
/-- The blocks from H on are as they were. -/
def KeepFrom (H : Nat) (w w' : World) : Prop := ∀ (b : Nat) (o : Obj), H ≤ b → w.heap[b]? = some o → w'.heap[b]? = some o
theorem KeepFrom.of_grown {H : Nat} {w w' : World} {row : Option Nat} (hg : w.grownBy w' row) (hr : ∀ j, row = some j → j < H) : KeepFrom H w w' := fun b o hb h =>
  (hg.block b (Array.getElem?_eq_some_iff.1 h).1 (by intro e; have := hr b e.symm; omega)).trans h
theorem KeepFrom.trans {H : Nat} {w w' w2 : World} (h : KeepFrom H w w') (h2 : KeepFrom H w' w2) : KeepFrom H w w2 := fun b o hb he => h2 b o hb (h b o hb he)
/-- A literal row that a region has laid. -/
def LitSl (H : Nat) (C : Array Value) (e : TypeId) (w : World) (v : Value) : Prop := ∃ b, H ≤ b ∧ v = .slice (some ⟨b, 0, none⟩) C.size C.size ∧ w.heap[b]? = some (.cells C e (0, 0))
def LitPt (H : Nat) (C : Array Value) (e : TypeId) (w : World) (v : Value) : Prop := ∃ b i, H ≤ b ∧ i < C.size ∧ v = .pointer (some ⟨b, i, none⟩) ∧ w.heap[b]? = some (.cells C e (0, 0))
theorem LitSl.kept {H : Nat} {C : Array Value} {e : TypeId} {w w' : World} {v : Value} (hg : KeepFrom H w w') (h : LitSl H C e w v) : LitSl H C e w' v := by
  obtain ⟨b, hb, hv, hc⟩ := h
  exact ⟨b, hb, hv, hg b _ hb hc⟩
theorem LitPt.kept {H : Nat} {C : Array Value} {e : TypeId} {w w' : World} {v : Value} (hg : KeepFrom H w w') (h : LitPt H C e w v) : LitPt H C e w' v := by
  obtain ⟨b, i, hb, hi, hv, hc⟩ := h
  exact ⟨b, i, hb, hi, hv, hg b _ hb hc⟩
theorem LitSl.new {H : Nat} (w : World) (C : Array Value) (e : TypeId) (m : Nat) (h : C.size = m) (hH : H ≤ w.heap.size) : LitSl H C e (w.alloc (.cells C e (0, 0))) (.slice (some ⟨w.heap.size, 0, none⟩) m m) := by
  subst h; exact ⟨w.heap.size, hH, rfl, heap_alloc_new _ _⟩
theorem heap_row_kept {R b : Nat} {w w' : World} {o : Obj} (hg : w.grownBy w' (some R)) (hb : b ≠ R) (h : w.heap[b]? = some o) : w'.heap[b]? = some o :=
  (hg.block b (Array.getElem?_eq_some_iff.1 h).1 (by intro e; injection e with e; exact hb e)).trans h
theorem grow_row {R : Nat} {w0 w w' : World} {row : Option Nat} (h : w0.grownBy w (some R)) (hg : w.grownBy w' row) (hr : ∀ q, row = some q → w0.heap.size ≤ q) : w0.grownBy w' (some R) :=
  ⟨hg.os.trans h.os, hg.tape.trans h.tape, hg.output.trans h.output, Nat.le_trans h.size hg.size, fun b hb hne => (hg.block b (Nat.lt_of_lt_of_le hb h.size) (by intro e; have := hr b e.symm; omega)).trans (h.block b hb hne)⟩
theorem cell_lit {w : World} {b i : Nat} {C : Array Value} {e : TypeId} (h : w.heap[b]? = some (.cells C e (0, 0))) (hi : i < C.size) : w.cell? ⟨b, i, none⟩ = some C[i] := by
  rw [cell_of_row w b i _ _ _ h, Array.getElem?_eq_getElem hi]
theorem load_lit {w : World} {b i : Nat} {C : Array Value} {e : TypeId} {Q : Value → Prop} (h : w.heap[b]? = some (.cells C e (0, 0))) (hi : i < C.size) (hq : ∀ x ∈ C.toList, Q x) : ∃ y, w.cell? ⟨b, i, none⟩ = some y ∧ Q y :=
  ⟨C[i], cell_lit h hi, hq _ (by simp)⟩
def PickIn (n : Nat) (v : Value) : Prop := ∃ x : Nat, x < n ∧ v = .int .i64 (x : Int)
end Go.Proofs.Ytpplagecancccaa
