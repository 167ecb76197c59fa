/- A drawn region without guards, all its orders at once, made handy: each operation by itself, with a budget for the reader and a relation that the world keeps. -/
import Derived.Test.YtdoomfckdjjlaaaAnyOrd2
import Derived.Test.YtdoomfckdjjlaaaDraw
namespace Go.Proofs.Ytdoomfckdjjlaaa
open Go

theorem sum_split (f g : Nat → Nat) (i : Nat) : ∀ n, i < n → (∀ j, j ≠ i → f j = g j) → ((List.range n).map f).sum + g i = ((List.range n).map g).sum + f i := by
  intro n
  induction n with
  | zero => intro h; omega
  | succ n ih =>
    intro h he
    rw [List.range_succ, List.map_append, List.map_append, List.sum_append, List.sum_append]
    simp only [List.map_cons, List.map_nil, List.sum_cons, List.sum_nil]
    by_cases hin : i = n
    · subst hin
      have : ((List.range i).map f) = ((List.range i).map g) := List.map_congr_left fun j hj => he j (by have := List.mem_range.1 hj; omega)
      rw [this]
      omega
    · have := ih (by omega) he
      have e := he n (by omega)
      omega
def leftW (wt : Nat → Nat) (listed : Array Bool) : Nat := ((List.range listed.size).map fun i => if listed.getD i true = true then 0 else wt i).sum
theorem getDset_eq {l : Array Bool} {i : Nat} : (l.setIfInBounds i true).getD i true = true := by
  rw [Array.getD_eq_getD_getElem?]
  by_cases h : i < l.size
  · rw [Array.getElem?_setIfInBounds_self, if_pos h]; rfl
  · rw [Array.getElem?_setIfInBounds_self, if_neg h]; rfl
theorem leftW_set {wt : Nat → Nat} {listed : Array Bool} {i : Nat} (hi : i < listed.size) (h0 : listed.getD i true = false) : leftW wt listed = leftW wt (listed.setIfInBounds i true) + wt i := by
  have := sum_split (fun j => if listed.getD j true = true then 0 else wt j) (fun j => if (listed.setIfInBounds i true).getD j true = true then 0 else wt j) i listed.size hi (fun j hj => by rw [getD_set_ne true (Ne.symm hj)])
  simp only [h0, getDset_eq, if_true, Bool.false_eq_true, if_false] at this
  unfold leftW
  rw [Array.size_setIfInBounds]
  omega
theorem leftW_start {wt : Nat → Nat} {n : Nat} : leftW wt (Array.replicate n false) = ((List.range n).map wt).sum := by
  unfold leftW
  rw [Array.size_replicate]
  congr 1
  refine List.map_congr_left fun i hi => ?_
  rw [Array.getD_eq_getD_getElem?, Array.getElem?_replicate, if_pos (List.mem_range.1 hi)]
  rfl
/-- Every operation has been taken. -/
theorem ready_all {md : Region.Mode} {ops : Array Oper} {listed : Array Bool} (hr : Region.ready md ops listed = []) (hs : listed.size = ops.size) (hB : ∀ (i : Nat) (o : Oper), ops[i]? = some o → ∀ e ∈ o.after, Region.binds md e = true → e.on < ops.size ∧ e.on < i) : ∀ (n i : Nat), i < n → ∀ o : Oper, ops[i]? = some o → listed.getD i true = true := by
  intro n
  induction n with
  | zero => intro i h; omega
  | succ n ih =>
    intro i hi o ho
    cases hx : listed.getD i true with
    | true => rfl
    | false =>
      have : i ∈ Region.ready md ops listed := mem_ready.2 ⟨hx, o, ho, fun e he hb => by
        obtain ⟨hlt, hrk⟩ := hB i o ho e he hb
        have h1 := ih e.on (by omega) (ops[e.on]'hlt) (Array.getElem?_eq_getElem hlt)
        rw [Array.getD_eq_getD_getElem?] at h1 ⊢
        rw [Array.getElem?_eq_getElem (by omega)] at h1 ⊢
        exact h1⟩
      rw [hr] at this
      cases this
def depsB (md : Region.Mode) (ops : Array Oper) : Bool := (List.range ops.size).all fun i => match ops[i]? with | none => true | some o => o.after.all fun e => !Region.binds md e || (decide (e.on < ops.size) && decide (e.on < i))
theorem depsB_spec {md : Region.Mode} {ops : Array Oper} (h : depsB md ops = true) : ∀ (i : Nat) (o : Oper), ops[i]? = some o → ∀ e ∈ o.after, Region.binds md e = true → e.on < ops.size ∧ e.on < i := by
  intro i o ho e he hb
  unfold depsB at h
  rw [List.all_eq_true] at h
  have hi : i < ops.size := (Array.getElem?_eq_some_iff.1 ho).1
  have := h i (List.mem_range.2 hi)
  rw [ho] at this
  simp only at this
  rw [Array.all_eq_true'] at this
  have h2 := this e he
  rw [hb] at h2
  simpa using h2
/-- Does j wait for i, at once or through others? -/
def reach (md : Region.Mode) (ops : Array Oper) : Nat → Nat → Nat → Bool
  | 0, _, _ => false
  | f + 1, j, i => match ops[j]? with
    | none => false
    | some o => o.after.any fun e => Region.binds md e && (e.on == i || reach md ops f e.on i)
def ClosedL (md : Region.Mode) (ops : Array Oper) (listed : Array Bool) : Prop := ∀ (j : Nat) (o : Oper), ops[j]? = some o → listed.getD j true = true → ∀ e ∈ o.after, Region.binds md e = true → listed.getD e.on true = true
theorem reach_no {md : Region.Mode} {ops : Array Oper} {listed : Array Bool} (hc : ClosedL md ops listed) {i : Nat} (hi : listed.getD i true = false) : ∀ f j, reach md ops f j i = true → listed.getD j true = false := by
  intro f
  induction f with
  | zero => intro j h; cases h
  | succ f ih =>
    intro j h
    unfold reach at h
    cases ho : ops[j]? with
    | none => rw [ho] at h; cases h
    | some o =>
      rw [ho] at h
      simp only at h
      rw [Array.any_eq_true'] at h
      obtain ⟨e, hm, hb⟩ := h
      rw [Bool.and_eq_true, Bool.or_eq_true] at hb
      obtain ⟨hb1, hb2⟩ := hb
      cases hj : listed.getD j true with
      | false => rfl
      | true =>
        have h1 := hc j o ho hj e hm hb1
        rcases hb2 with hb2 | hb2
        · have : e.on = i := by simpa using hb2
          rw [this, hi] at h1; cases h1
        · rw [ih _ hb2] at h1; cases h1
def SlotsAt2 (md : Region.Mode) (ops : Array Oper) (a0 : Act) (Pr : Nat → World → Value → Prop) (G : Array Bool → World → Prop) (listed : Array Bool) (a : Act) (w : World) : Prop :=
  a.defers = a0.defers ∧ a.tmps.size = a0.tmps.size ∧ (∀ t : Nat, (∀ (i : Nat) (o : Oper), ops[i]? = some o → o.dst = some t → listed.getD i true = false) → a.tmps[t]? = a0.tmps[t]?) ∧
  (∀ (i : Nat) (o : Oper) (t : Nat), ops[i]? = some o → listed.getD i true = true → o.dst = some t → ∃ v, a.tmps[t]? = some v ∧ Pr i w v) ∧ G listed w ∧ ClosedL md ops listed
theorem region_slots2 {P : Program} {md : Region.Mode} {ops : Array Oper} {Q : Exit → Act → World → Prop} (a0 : Act) (Pr : Nat → World → Value → Prop) (G : Array Bool → World → Prop)
    (hwant : ∀ (listed : Array Bool) (a : Act) (w : World) (i : Nat) (o : Oper), SlotsAt2 md ops a0 Pr G listed a w → ops[i]? = some o → i ∈ Region.ready md ops listed → Region.wanted o (yielded ops a.tmps) = true)
    (hdst : ∀ (i j : Nat) (o o' : Oper) (t : Nat), ops[i]? = some o → ops[j]? = some o' → o.dst = some t → o'.dst = some t → i = j)
    (hsz : ∀ (i : Nat) (o : Oper) (t : Nat), ops[i]? = some o → o.dst = some t → t < a0.tmps.size)
    (hstep : ∀ (listed : Array Bool) (a : Act) (w : World) (i : Nat) (o : Oper), SlotsAt2 md ops a0 Pr G listed a w → ops[i]? = some o → i ∈ Region.ready md ops listed →
      ∀ K : Act → World → Prop, (∀ v w', (∀ t, o.dst = some t → Pr i w' v) → (∀ (j : Nat) u, listed.getD j true = true → Pr j w u → Pr j w' u) → G (listed.setIfInBounds i true) w' → K (a.put o.dst v) w') → o.wp P a w K Q)
    (hdone : ∀ listed a w, SlotsAt2 md ops a0 Pr G listed a w → Region.ready md ops listed = [] → Q .normal a w)
    (fuel : Nat) (listed : Array Bool) (a : Act) (w : World) (hf : listed.toList.count false ≤ fuel) (h : SlotsAt2 md ops a0 Pr G listed a w) : wpAny P md ops Q fuel listed a w := by
  refine wpAny_inv (SlotsAt2 md ops a0 Pr G) ?_ hdone fuel listed a w hf h
  intro listed a w i h hi
  have hi' := hi
  rw [mem_ready] at hi'
  obtain ⟨h0, o, ho, _⟩ := hi'
  unfold wpOp
  rw [ho]
  have hw := hwant listed a w i o h ho hi
  simp only [hw, if_true]
  refine .inl (hstep listed a w i o h ho hi _ ?_)
  intro v w' hv hkeep hG
  obtain ⟨e1, e2, e3, e4, e5, e6⟩ := h
  have hcl : ClosedL md ops (listed.setIfInBounds i true) := by
    intro j oj hj hl e he hb
    by_cases hei : e.on = i
    · rw [hei]; exact getDset_eq
    · rw [getD_set_ne true (Ne.symm hei)]
      by_cases hji : j = i
      · subst hji
        rw [ho] at hj
        injection hj with hj
        subst hj
        exact getD_up (dep_done hi ho e he hb)
      · rw [getD_set_ne true (Ne.symm hji)] at hl
        exact e6 j oj hj hl e he hb
  have hun : ∀ (t : Nat), (∀ (j : Nat) (oj : Oper), ops[j]? = some oj → oj.dst = some t → (listed.setIfInBounds i true).getD j true = false) → (∀ (j : Nat) (oj : Oper), ops[j]? = some oj → oj.dst = some t → listed.getD j true = false) ∧ o.dst ≠ some t := by
    intro t ht
    refine ⟨fun j oj hj hjt => ?_, fun e => ?_⟩
    · have := ht j oj hj hjt
      by_cases hji : j = i
      · subst hji; exact h0
      · rwa [getD_set_ne true (Ne.symm hji)] at this
    · have := ht i o ho e
      rw [getDset_eq] at this
      cases this
  cases hd : o.dst with
  | none =>
    refine ⟨e1, e2, fun t ht => e3 t (hun t ht).1, ?_, hG, hcl⟩
    intro j oj t hj hl hjt
    by_cases hij : j = i
    · subst hij
      rw [ho] at hj
      injection hj with hj
      subst hj
      rw [hd] at hjt
      cases hjt
    · have hl' : listed.getD j true = true := by rwa [getD_set_ne true (Ne.symm hij)] at hl
      obtain ⟨u, hu, hp⟩ := e4 j oj t hj hl' hjt
      exact ⟨u, hu, hkeep j u hl' hp⟩
  | some d =>
    have hds := hsz i o d ho hd
    refine ⟨e1, by simpa [Act.put] using e2, ?_, ?_, hG, hcl⟩
    · intro t ht
      have hne : d ≠ t := fun e => (hun t ht).2 (by rw [hd, e])
      show (a.tmps.setIfInBounds d v)[t]? = _
      rw [Array.getElem?_setIfInBounds_ne hne]
      exact e3 t (hun t ht).1
    · intro j oj t hj hl hjt
      by_cases hij : j = i
      · subst hij
        rw [ho] at hj
        injection hj with hj
        subst hj
        rw [hd] at hjt
        injection hjt with hjt
        subst hjt
        refine ⟨v, ?_, hv _ hd⟩
        show (a.tmps.setIfInBounds d v)[d]? = _
        rw [Array.getElem?_setIfInBounds_self, if_pos (by omega)]
      · have hl' : listed.getD j true = true := by rwa [getD_set_ne true (Ne.symm hij)] at hl
        obtain ⟨u, hu, hp⟩ := e4 j oj t hj hl' hjt
        have hne : d ≠ t := fun e => hij (hdst j i oj o d hj ho (by rw [hjt, e]) hd)
        refine ⟨u, ?_, hkeep j u hl' hp⟩
        show (a.tmps.setIfInBounds d v)[t]? = _
        rw [Array.getElem?_setIfInBounds_ne hne]
        exact hu
/-- No operation but those behind i (and i itself) writes t. -/
def oldB (md : Region.Mode) (ops : Array Oper) (i t : Nat) : Bool := (List.range ops.size).all fun j => match ops[j]? with
  | none => true
  | some o => o.dst != some t || j == i || reach md ops ops.size j i
theorem oldB_spec {md : Region.Mode} {ops : Array Oper} {listed : Array Bool} {i t : Nat} (hc : ClosedL md ops listed) (hi : listed.getD i true = false) (h : oldB md ops i t = true) : ∀ (j : Nat) (o : Oper), ops[j]? = some o → o.dst = some t → listed.getD j true = false := by
  intro j o ho ht
  unfold oldB at h
  rw [List.all_eq_true] at h
  have := h j (List.mem_range.2 (Array.getElem?_eq_some_iff.1 ho).1)
  rw [ho] at this
  simp only [Bool.or_eq_true] at this
  rcases this with (h1 | h1) | h1
  · rw [ht] at h1; simp at h1
  · have : j = i := by simpa using h1
    rw [this]; exact hi
  · exact reach_no hc hi _ _ h1
/-- What an operation may lean on: the slots that none writes ahead of it, and those of the operations that it waits for. -/
def RDeps (md : Region.Mode) (ops : Array Oper) (Pr : Nat → World → Value → Prop) (i : Nat) (o : Oper) (a a0 : Act) (w : World) : Prop :=
  (∀ t : Nat, oldB md ops i t = true → a.tmps[t]? = a0.tmps[t]?) ∧
  ∀ (j t : Nat) (oj : Oper), ops[j]? = some oj → oj.dst = some t → (o.after.any fun e => Region.binds md e && e.on == j) = true → ∃ v, a.tmps[t]? = some v ∧ Pr j w v
theorem RDeps.old {md : Region.Mode} {ops : Array Oper} {Pr : Nat → World → Value → Prop} {i : Nat} {o : Oper} {a a0 : Act} {w : World} (h : RDeps md ops Pr i o a a0 w) (t : Nat) (ht : oldB md ops i t = true) : a.tmps[t]? = a0.tmps[t]? := h.1 t ht
theorem RDeps.dep {md : Region.Mode} {ops : Array Oper} {Pr : Nat → World → Value → Prop} {i : Nat} {o : Oper} {a a0 : Act} {w : World} (h : RDeps md ops Pr i o a a0 w) (j t : Nat) {oj : Oper} (hj : ops[j]? = some oj) (ht : oj.dst = some t) (he : (o.after.any fun e => Region.binds md e && e.on == j) = true) : ∃ v, a.tmps[t]? = some v ∧ Pr j w v := h.2 j t oj hj ht he
theorem old_all {md : Region.Mode} {ops : Array Oper} {a0 a : Act} {Pr : Nat → World → Value → Prop} {G : Array Bool → World → Prop} {listed : Array Bool} {w : World} (hS : SlotsAt2 md ops a0 Pr G listed a w) (t : Nat) (h : (ops.toList.all fun o => o.dst != some t) = true) : a.tmps[t]? = a0.tmps[t]? := by
  refine hS.2.2.1 t (fun i o ho e => ?_)
  rw [List.all_eq_true] at h
  have := h o (Array.mem_toList_iff.2 (Array.mem_of_getElem? ho))
  rw [e] at this
  simp at this
theorem closed_start {md : Region.Mode} {ops : Array Oper} {N : Nat} (hN : ops.size = N) : ClosedL md ops (Array.replicate N false) := by
  intro j o ho hl
  exfalso
  have hlt : j < N := by have := (Array.getElem?_eq_some_iff.1 ho).1; omega
  rw [Array.getD_eq_getD_getElem?, Array.getElem?_replicate, if_pos hlt] at hl
  cases hl

theorem region_draw {P : Program} {md : Region.Mode} {ops : Array Oper} {Q : Exit → Act → World → Prop} {a0 : Act} {w0 : World} {fuel : Nat} {listed : Array Bool} (R k : Nat) (wt : Nat → Nat) (Pr : Nat → World → Value → Prop) (Rel : World → World → Prop) (n N : Nat)
    (hB : slotsB ops n = true) (hn : n ≤ a0.tmps.size) (hD : depsB md ops = true) (hN : ops.size = N) (hl : listed = Array.replicate N false) (hf : listed.toList.count false ≤ fuel)
    (hrefl : Rel w0 w0) (htrans : ∀ w w', Rel w0 w → Rel w w' → Rel w0 w')
    (hst : ∀ (j : Nat) (w w' : World) v, Rel w0 w → Rel w w' → Pr j w v → Pr j w' v)
    (hR : Rdr w0 R (k + ((List.range N).map wt).sum))
    (hstep : ∀ (i : Nat) (o : Oper), ops[i]? = some o → ∀ (w : World) (a : Act) (m : Nat), wt i ≤ m → Rel w0 w → Rdr w R m → RDeps md ops Pr i o a a0 w →
      ∀ K : Act → World → Prop, (∀ v w', (o.dst = none ∨ Pr i w' v) → Rel w w' → Rdr w' R (m - wt i) → K (a.put o.dst v) w') → o.wp P a w K Q)
    (hdone : ∀ (a : Act) (w : World), a.defers = a0.defers → a.tmps.size = a0.tmps.size → (∀ t : Nat, (ops.toList.all fun o => o.dst != some t) = true → a.tmps[t]? = a0.tmps[t]?) →
      (∀ (i t : Nat) (o : Oper), ops[i]? = some o → o.dst = some t → ∃ v, a.tmps[t]? = some v ∧ Pr i w v) → Rel w0 w → Rdr w R k → Q .normal a w) :
    wpAny P md ops Q fuel listed a0 w0 := by
  subst hl
  refine region_slots2 a0 Pr (fun listed w => Rel w0 w ∧ Rdr w R (k + leftW wt listed) ∧ listed.size = ops.size) (fun _ _ _ _ _ _ ho _ => by simp [Region.wanted, slotsB_guard hB _ _ ho]) (slotsB_dst hB) (fun i o t ho ht => by have := slotsB_size hB i o t ho ht; omega) ?_ ?_ fuel _ a0 w0 hf ?_
  · intro listed a w i o hS ho hi K hK
    obtain ⟨hrel, hr, hsz⟩ := hS.2.2.2.2.1
    have hil : i < listed.size := by rw [hsz]; exact (Array.getElem?_eq_some_iff.1 ho).1
    have hls := leftW_set (wt := wt) hil (mem_ready.1 hi).1
    refine hstep i o ho w a (k + leftW wt listed) (by omega) hrel hr ⟨fun t ht => hS.2.2.1 t (oldB_spec hS.2.2.2.2.2 (mem_ready.1 hi).1 ht), ?_⟩ K ?_
    · intro j t oj hj ht he
      rw [Array.any_eq_true'] at he
      obtain ⟨e, hm, hb⟩ := he
      rw [Bool.and_eq_true] at hb
      have h1 := dep_done hi ho e hm hb.1
      have : e.on = j := by simpa using hb.2
      rw [this] at h1
      exact hS.2.2.2.1 j oj t hj (getD_up h1) ht
    · intro v w' hv hg hr'
      refine hK v w' (fun t ht => ?_) (fun j u _ hp => hst j w w' u hrel hg hp) ⟨htrans w w' hrel hg, ?_, by rw [Array.size_setIfInBounds]; exact hsz⟩
      · rcases hv with hv | hv
        · rw [hv] at ht; cases ht
        · exact hv
      · have e : k + leftW wt (listed.setIfInBounds i true) = k + leftW wt listed - wt i := by omega
        rw [e]; exact hr'
  · intro listed a w hS hr
    obtain ⟨hrel, hrd, hsz⟩ := hS.2.2.2.2.1
    refine hdone a w hS.1 hS.2.1 (old_all hS) ?_ hrel (hrd.less (by omega))
    intro i t o ho ht
    exact hS.2.2.2.1 i o t ho (ready_all hr hsz (depsB_spec hD) (i + 1) i (by omega) o ho) ht
  · refine ⟨rfl, rfl, fun _ _ => rfl, ?_, ⟨hrefl, ?_, by rw [Array.size_replicate]; exact hN.symm⟩, closed_start hN⟩
    · intro i o t ho hl hd
      exfalso
      have hlt : i < N := by have := (Array.getElem?_eq_some_iff.1 ho).1; omega
      rw [Array.getD_eq_getD_getElem?, Array.getElem?_replicate, if_pos hlt] at hl
      cases hl
    · rw [leftW_start]; exact hR
/-- The same with an invariant G that knows which operations are done: for regions that write to rows. -/
theorem region_draw2 {P : Program} {md : Region.Mode} {ops : Array Oper} {Q : Exit → Act → World → Prop} {a0 : Act} {w0 : World} {fuel : Nat} {listed : Array Bool} (R k : Nat) (wt : Nat → Nat) (Pr : Nat → World → Value → Prop) (G : Array Bool → World → Prop) (n N : Nat)
    (hB : slotsB ops n = true) (hn : n ≤ a0.tmps.size) (hD : depsB md ops = true) (hN : ops.size = N) (hl : listed = Array.replicate N false) (hf : listed.toList.count false ≤ fuel)
    (hG : G (Array.replicate N false) w0)
    (hR : Rdr w0 R (k + ((List.range N).map wt).sum))
    (hstep : ∀ (i : Nat) (o : Oper), ops[i]? = some o → ∀ (listed : Array Bool) (w : World) (a : Act) (m : Nat), listed.size = N → listed.getD i true = false → (∀ j : Nat, (o.after.any fun e => Region.binds md e && e.on == j) = true → listed.getD j true = true) → wt i ≤ m → G listed w → Rdr w R m → RDeps md ops Pr i o a a0 w →
      ∀ K : Act → World → Prop, (∀ v w', (o.dst = none ∨ Pr i w' v) → (∀ (j : Nat) u, j ≠ i → listed.getD j true = true → Pr j w u → Pr j w' u) → G (listed.setIfInBounds i true) w' → Rdr w' R (m - wt i) → K (a.put o.dst v) w') → o.wp P a w K Q)
    (hdone : ∀ (listed : Array Bool) (a : Act) (w : World), (∀ i : Nat, i < N → listed.getD i true = true) → a.defers = a0.defers → a.tmps.size = a0.tmps.size → (∀ t : Nat, (ops.toList.all fun o => o.dst != some t) = true → a.tmps[t]? = a0.tmps[t]?) →
      (∀ (i t : Nat) (o : Oper), ops[i]? = some o → o.dst = some t → ∃ v, a.tmps[t]? = some v ∧ Pr i w v) → G listed w → Rdr w R k → Q .normal a w) :
    wpAny P md ops Q fuel listed a0 w0 := by
  subst hl
  refine region_slots2 a0 Pr (fun listed w => G listed w ∧ Rdr w R (k + leftW wt listed) ∧ listed.size = ops.size) (fun _ _ _ _ _ _ ho _ => by simp [Region.wanted, slotsB_guard hB _ _ ho]) (slotsB_dst hB) (fun i o t ho ht => by have := slotsB_size hB i o t ho ht; omega) ?_ ?_ fuel _ a0 w0 hf ?_
  · intro listed a w i o hS ho hi K hK
    obtain ⟨hg, hr, hsz⟩ := hS.2.2.2.2.1
    have hil : i < listed.size := by rw [hsz]; exact (Array.getElem?_eq_some_iff.1 ho).1
    have hls := leftW_set (wt := wt) hil (mem_ready.1 hi).1
    have hdep : ∀ j : Nat, (o.after.any fun e => Region.binds md e && e.on == j) = true → listed.getD j true = true := by
      intro j he
      rw [Array.any_eq_true'] at he
      obtain ⟨e, hm, hb⟩ := he
      rw [Bool.and_eq_true] at hb
      have h1 := dep_done hi ho e hm hb.1
      have : e.on = j := by simpa using hb.2
      rw [this] at h1
      exact getD_up h1
    refine hstep i o ho listed w a (k + leftW wt listed) (hsz.trans hN) (mem_ready.1 hi).1 hdep (by omega) hg hr ⟨fun t ht => hS.2.2.1 t (oldB_spec hS.2.2.2.2.2 (mem_ready.1 hi).1 ht), fun j t oj hj ht he => hS.2.2.2.1 j oj t hj (hdep j he) ht⟩ K ?_
    intro v w' hv hkeep hg' hr'
    refine hK v w' (fun t ht => ?_) (fun j u hj hp => ?_) ⟨hg', ?_, by rw [Array.size_setIfInBounds]; exact hsz⟩
    · rcases hv with hv | hv
      · rw [hv] at ht; cases ht
      · exact hv
    · by_cases hji : j = i
      · subst hji
        rw [(mem_ready.1 hi).1] at hj
        cases hj
      · exact hkeep j u hji hj hp
    · have e : k + leftW wt (listed.setIfInBounds i true) = k + leftW wt listed - wt i := by omega
      rw [e]; exact hr'
  · intro listed a w hS hr
    obtain ⟨hg, hrd, hsz⟩ := hS.2.2.2.2.1
    have hall : ∀ i : Nat, i < N → listed.getD i true = true := fun i hi => ready_all hr hsz (depsB_spec hD) (i + 1) i (by omega) ops[i] (Array.getElem?_eq_getElem (by omega))
    refine hdone listed a w hall hS.1 hS.2.1 (old_all hS) ?_ hg (hrd.less (by omega))
    intro i t o ho ht
    exact hS.2.2.2.1 i o t ho (hall i (by have := (Array.getElem?_eq_some_iff.1 ho).1; omega)) ht
  · refine ⟨rfl, rfl, fun _ _ => rfl, ?_, ⟨hG, ?_, by rw [Array.size_replicate]; exact hN.symm⟩, closed_start hN⟩
    · intro i o t ho hl hd
      exfalso
      have hlt : i < N := by have := (Array.getElem?_eq_some_iff.1 ho).1; omega
      rw [Array.getD_eq_getD_getElem?, Array.getElem?_replicate, if_pos hlt] at hl
      cases hl
    · rw [leftW_start]; exact hR
/-- The same without a reader. -/
theorem region_free {P : Program} {md : Region.Mode} {ops : Array Oper} {Q : Exit → Act → World → Prop} {a0 : Act} {w0 : World} {fuel : Nat} {listed : Array Bool} (Pr : Nat → World → Value → Prop) (G : Array Bool → World → Prop) (n N : Nat)
    (hB : slotsB ops n = true) (hn : n ≤ a0.tmps.size) (hD : depsB md ops = true) (hN : ops.size = N) (hl : listed = Array.replicate N false) (hf : listed.toList.count false ≤ fuel)
    (hG : G (Array.replicate N false) w0)
    (hstep : ∀ (i : Nat) (o : Oper), ops[i]? = some o → ∀ (listed : Array Bool) (w : World) (a : Act), listed.size = N → listed.getD i true = false → (∀ j : Nat, (o.after.any fun e => Region.binds md e && e.on == j) = true → listed.getD j true = true) → G listed w → RDeps md ops Pr i o a a0 w →
      ∀ K : Act → World → Prop, (∀ v w', (o.dst = none ∨ Pr i w' v) → (∀ (j : Nat) u, j ≠ i → listed.getD j true = true → Pr j w u → Pr j w' u) → G (listed.setIfInBounds i true) w' → K (a.put o.dst v) w') → o.wp P a w K Q)
    (hdone : ∀ (listed : Array Bool) (a : Act) (w : World), (∀ i : Nat, i < N → listed.getD i true = true) → a.defers = a0.defers → a.tmps.size = a0.tmps.size → (∀ t : Nat, (ops.toList.all fun o => o.dst != some t) = true → a.tmps[t]? = a0.tmps[t]?) →
      (∀ (i t : Nat) (o : Oper), ops[i]? = some o → o.dst = some t → ∃ v, a.tmps[t]? = some v ∧ Pr i w v) → G listed w → Q .normal a w) :
    wpAny P md ops Q fuel listed a0 w0 := by
  subst hl
  refine region_slots2 a0 Pr (fun listed w => G listed w ∧ listed.size = ops.size) (fun _ _ _ _ _ _ ho _ => by simp [Region.wanted, slotsB_guard hB _ _ ho]) (slotsB_dst hB) (fun i o t ho ht => by have := slotsB_size hB i o t ho ht; omega) ?_ ?_ fuel _ a0 w0 hf ?_
  · intro listed a w i o hS ho hi K hK
    obtain ⟨hg, hsz⟩ := hS.2.2.2.2.1
    have hdep : ∀ j : Nat, (o.after.any fun e => Region.binds md e && e.on == j) = true → listed.getD j true = true := by
      intro j he
      rw [Array.any_eq_true'] at he
      obtain ⟨e, hm, hb⟩ := he
      rw [Bool.and_eq_true] at hb
      have h1 := dep_done hi ho e hm hb.1
      have : e.on = j := by simpa using hb.2
      rw [this] at h1
      exact getD_up h1
    refine hstep i o ho listed w a (hsz.trans hN) (mem_ready.1 hi).1 hdep hg ⟨fun t ht => hS.2.2.1 t (oldB_spec hS.2.2.2.2.2 (mem_ready.1 hi).1 ht), fun j t oj hj ht he => hS.2.2.2.1 j oj t hj (hdep j he) ht⟩ K ?_
    intro v w' hv hkeep hg'
    refine hK v w' (fun t ht => ?_) (fun j u hj hp => ?_) ⟨hg', by rw [Array.size_setIfInBounds]; exact hsz⟩
    · rcases hv with hv | hv
      · rw [hv] at ht; cases ht
      · exact hv
    · by_cases hji : j = i
      · subst hji
        rw [(mem_ready.1 hi).1] at hj
        cases hj
      · exact hkeep j u hji hj hp
  · intro listed a w hS hr
    obtain ⟨hg, hsz⟩ := hS.2.2.2.2.1
    have hall : ∀ i : Nat, i < N → listed.getD i true = true := fun i hi => ready_all hr hsz (depsB_spec hD) (i + 1) i (by omega) ops[i] (Array.getElem?_eq_getElem (by omega))
    refine hdone listed a w hall hS.1 hS.2.1 (old_all hS) ?_ hg
    intro i t o ho ht
    exact hS.2.2.2.1 i o t ho (hall i (by have := (Array.getElem?_eq_some_iff.1 ho).1; omega)) ht
  · refine ⟨rfl, rfl, fun _ _ => rfl, ?_, ⟨hG, by rw [Array.size_replicate]; exact hN.symm⟩, closed_start hN⟩
    intro i o t ho hl hd
    exfalso
    have hlt : i < N := by have := (Array.getElem?_eq_some_iff.1 ho).1; omega
    rw [Array.getD_eq_getD_getElem?, Array.getElem?_replicate, if_pos hlt] at hl
    cases hl
def slotsB2 (ops : Array Oper) (n : Nat) : Bool := ops.toList.all (fun o => (match o.dst with | some t => decide (t < n) | none => true)) && decide ((ops.toList.filterMap (·.dst)).Nodup)
theorem slotsB2_size {ops : Array Oper} {n : Nat} (h : slotsB2 ops n = true) (i : Nat) (o : Oper) (t : Nat) (ho : ops[i]? = some o) (ht : o.dst = some t) : t < n := by
  unfold slotsB2 at h
  rw [Bool.and_eq_true, List.all_eq_true] at h
  have := h.1 o (Array.mem_toList_iff.2 (Array.mem_of_getElem? ho))
  rw [ht] at this
  simpa using this
theorem slotsB2_dst {ops : Array Oper} {n : Nat} (h : slotsB2 ops n = true) (i j : Nat) (o o' : Oper) (t : Nat) (ho : ops[i]? = some o) (ho' : ops[j]? = some o') (ht : o.dst = some t) (ht' : o'.dst = some t) : i = j := by
  unfold slotsB2 at h
  rw [Bool.and_eq_true, decide_eq_true_iff] at h
  have hn := h.2
  unfold List.Nodup at hn
  rw [List.pairwise_filterMap, List.pairwise_iff_getElem] at hn
  obtain ⟨hi, e1⟩ := Array.getElem?_eq_some_iff.1 ho
  obtain ⟨hj, e2⟩ := Array.getElem?_eq_some_iff.1 ho'
  rcases Nat.lt_trichotomy i j with hij | hij | hij
  · exact absurd rfl (hn i j (by simpa using hi) (by simpa using hj) hij t (by simpa [e1] using ht) t (by simpa [e2] using ht'))
  · exact hij
  · exact absurd rfl (hn j i (by simpa using hj) (by simpa using hi) hij t (by simpa [e2] using ht') t (by simpa [e1] using ht))
/-- Each guard asks an operation that is waited for and has a slot. -/
def guardB (md : Region.Mode) (ops : Array Oper) : Bool := ops.toList.all fun o => match o.guard with
  | none => true
  | some (j, _) => (o.after.any fun e => Region.binds md e && e.on == j) && (match ops[j]? with | some oj => oj.dst.isSome | none => false)
theorem wanted_guard {md : Region.Mode} {ops : Array Oper} {a0 a : Act} {Pr : Nat → World → Value → Prop} {G : Array Bool → World → Prop} {listed : Array Bool} {w : World} {i : Nat} {o : Oper} (hGB : guardB md ops = true)
    (hgd : ∀ (i : Nat) (o : Oper) (j : Nat) (b : Bool), ops[i]? = some o → o.guard = some (j, b) → ∀ w v, Pr j w v → v = .bool b)
    (hS : SlotsAt2 md ops a0 Pr G listed a w) (ho : ops[i]? = some o) (hi : i ∈ Region.ready md ops listed) : Region.wanted o (yielded ops a.tmps) = true := by
  unfold guardB at hGB
  rw [List.all_eq_true] at hGB
  have hg := hGB o (Array.mem_toList_iff.2 (Array.mem_of_getElem? ho))
  unfold Region.wanted
  cases hgu : o.guard with
  | none => rfl
  | some jb =>
    obtain ⟨j, b⟩ := jb
    rw [hgu] at hg
    simp only [Bool.and_eq_true] at hg
    obtain ⟨h1, h2⟩ := hg
    cases hoj : ops[j]? with
    | none => rw [hoj] at h2; cases h2
    | some oj =>
      rw [hoj] at h2
      simp only at h2
      obtain ⟨t, ht⟩ := Option.isSome_iff_exists.1 h2
      rw [Array.any_eq_true'] at h1
      obtain ⟨e, hm, hb⟩ := h1
      rw [Bool.and_eq_true] at hb
      have hl := dep_done hi ho e hm hb.1
      have hej : e.on = j := by simpa using hb.2
      rw [hej] at hl
      obtain ⟨v, hv, hp⟩ := hS.2.2.2.1 j oj t hoj (getD_up hl) ht
      have hvb := hgd i o j b ho hgu w v hp
      subst hvb
      show (yielded ops a.tmps j == some b) = true
      unfold yielded
      rw [hoj]
      simp only [Option.bind_some, ht, hv]
      simp
/-- The same, with guards that all hold. -/
theorem region_guard {P : Program} {md : Region.Mode} {ops : Array Oper} {Q : Exit → Act → World → Prop} {a0 : Act} {w0 : World} {fuel : Nat} {listed : Array Bool} (Pr : Nat → World → Value → Prop) (G : Array Bool → World → Prop) (n N : Nat)
    (hB : slotsB2 ops n = true) (hGB : guardB md ops = true) (hgd : ∀ (i : Nat) (o : Oper) (j : Nat) (b : Bool), ops[i]? = some o → o.guard = some (j, b) → ∀ w v, Pr j w v → v = .bool b) (hn : n ≤ a0.tmps.size) (hD : depsB md ops = true) (hN : ops.size = N) (hl : listed = Array.replicate N false) (hf : listed.toList.count false ≤ fuel)
    (hG : G (Array.replicate N false) w0)
    (hstep : ∀ (i : Nat) (o : Oper), ops[i]? = some o → ∀ (listed : Array Bool) (w : World) (a : Act), listed.size = N → listed.getD i true = false → (∀ j : Nat, (o.after.any fun e => Region.binds md e && e.on == j) = true → listed.getD j true = true) → G listed w → RDeps md ops Pr i o a a0 w →
      ∀ K : Act → World → Prop, (∀ v w', (o.dst = none ∨ Pr i w' v) → (∀ (j : Nat) u, j ≠ i → listed.getD j true = true → Pr j w u → Pr j w' u) → G (listed.setIfInBounds i true) w' → K (a.put o.dst v) w') → o.wp P a w K Q)
    (hdone : ∀ (listed : Array Bool) (a : Act) (w : World), (∀ i : Nat, i < N → listed.getD i true = true) → a.defers = a0.defers → a.tmps.size = a0.tmps.size → (∀ t : Nat, (ops.toList.all fun o => o.dst != some t) = true → a.tmps[t]? = a0.tmps[t]?) →
      (∀ (i t : Nat) (o : Oper), ops[i]? = some o → o.dst = some t → ∃ v, a.tmps[t]? = some v ∧ Pr i w v) → G listed w → Q .normal a w) :
    wpAny P md ops Q fuel listed a0 w0 := by
  subst hl
  refine region_slots2 a0 Pr (fun listed w => G listed w ∧ listed.size = ops.size) (fun _ _ _ _ _ hS ho hi => wanted_guard hGB hgd hS ho hi) (slotsB2_dst hB) (fun i o t ho ht => by have := slotsB2_size hB i o t ho ht; omega) ?_ ?_ fuel _ a0 w0 hf ?_
  · intro listed a w i o hS ho hi K hK
    obtain ⟨hg, hsz⟩ := hS.2.2.2.2.1
    have hdep : ∀ j : Nat, (o.after.any fun e => Region.binds md e && e.on == j) = true → listed.getD j true = true := by
      intro j he
      rw [Array.any_eq_true'] at he
      obtain ⟨e, hm, hb⟩ := he
      rw [Bool.and_eq_true] at hb
      have h1 := dep_done hi ho e hm hb.1
      have : e.on = j := by simpa using hb.2
      rw [this] at h1
      exact getD_up h1
    refine hstep i o ho listed w a (hsz.trans hN) (mem_ready.1 hi).1 hdep hg ⟨fun t ht => hS.2.2.1 t (oldB_spec hS.2.2.2.2.2 (mem_ready.1 hi).1 ht), fun j t oj hj ht he => hS.2.2.2.1 j oj t hj (hdep j he) ht⟩ K ?_
    intro v w' hv hkeep hg'
    refine hK v w' (fun t ht => ?_) (fun j u hj hp => ?_) ⟨hg', by rw [Array.size_setIfInBounds]; exact hsz⟩
    · rcases hv with hv | hv
      · rw [hv] at ht; cases ht
      · exact hv
    · by_cases hji : j = i
      · subst hji
        rw [(mem_ready.1 hi).1] at hj
        cases hj
      · exact hkeep j u hji hj hp
  · intro listed a w hS hr
    obtain ⟨hg, hsz⟩ := hS.2.2.2.2.1
    have hall : ∀ i : Nat, i < N → listed.getD i true = true := fun i hi => ready_all hr hsz (depsB_spec hD) (i + 1) i (by omega) ops[i] (Array.getElem?_eq_getElem (by omega))
    refine hdone listed a w hall hS.1 hS.2.1 (old_all hS) ?_ hg
    intro i t o ho ht
    exact hS.2.2.2.1 i o t ho (hall i (by have := (Array.getElem?_eq_some_iff.1 ho).1; omega)) ht
  · refine ⟨rfl, rfl, fun _ _ => rfl, ?_, ⟨hG, by rw [Array.size_replicate]; exact hN.symm⟩, closed_start hN⟩
    intro i o t ho hl hd
    exfalso
    have hlt : i < N := by have := (Array.getElem?_eq_some_iff.1 ho).1; omega
    rw [Array.getD_eq_getD_getElem?, Array.getElem?_replicate, if_pos hlt] at hl
    cases hl
theorem listed_keep {l : Array Bool} {i j : Nat} (h : i ≠ j) : (l.setIfInBounds i true).getD j true = l.getD j true := getD_set_ne true h
theorem foldl_set_get (t : Array Value) : ∀ (W : List Nat) (r : Array Value), r.size = t.size → ∀ i : Nat, (W.foldl (fun r i => r.setIfInBounds i (t.getD i undef)) r)[i]? = if i ∈ W then t[i]? else r[i]? := by
  intro W
  induction W with
  | nil => intro r _ i; simp
  | cons x W ih =>
    intro r hr i
    rw [List.foldl_cons, ih _ (by rw [Array.size_setIfInBounds]; exact hr)]
    by_cases h1 : i ∈ W
    · rw [if_pos h1, if_pos (List.mem_cons_of_mem _ h1)]
    · rw [if_neg h1]
      by_cases h2 : i = x
      · subst h2
        rw [if_pos (List.mem_cons_self ..)]
        by_cases h3 : i < t.size
        · rw [Array.getElem?_setIfInBounds_self, if_pos (by omega), Array.getD_eq_getD_getElem?, Array.getElem?_eq_getElem h3]; rfl
        · rw [Array.getElem?_setIfInBounds_self, if_neg (by omega), Array.getElem?_eq_none (by omega)]
      · rw [if_neg (by rw [List.mem_cons]; exact fun e => e.elim h2 h1), Array.getElem?_setIfInBounds_ne (Ne.symm h2)]
/-- The frame behind a region: the slots W were written, the others were not. -/
theorem act_frame {ops : Array Oper} {a a0 : Act} (W : List Nat) (hW : (ops.toList.all fun o => match o.dst with | some d => W.contains d | none => true) = true) (hd : a.defers = a0.defers) (hs : a.tmps.size = a0.tmps.size) (hold : ∀ t : Nat, (ops.toList.all fun o => o.dst != some t) = true → a.tmps[t]? = a0.tmps[t]?) :
    a = { tmps := W.foldl (fun r i => r.setIfInBounds i (a.tmps.getD i undef)) a0.tmps, defers := a0.defers } := by
  have ht : a.tmps = W.foldl (fun r i => r.setIfInBounds i (a.tmps.getD i undef)) a0.tmps := by
    apply Array.ext_getElem?
    intro i
    rw [foldl_set_get a.tmps W a0.tmps hs.symm i]
    by_cases h : i ∈ W
    · rw [if_pos h]
    · rw [if_neg h]
      refine hold i ?_
      rw [List.all_eq_true] at hW ⊢
      intro o ho
      have := hW o ho
      cases hod : o.dst with
      | none => rfl
      | some d =>
        rw [hod] at this
        have hd' : d ∈ W := by simpa using this
        have : d ≠ i := fun e => h (e ▸ hd')
        simp [this]
  obtain ⟨t, df⟩ := a
  simp only at ht hd ⊢
  rw [← ht, hd]
theorem frame_ofFn (t : Array Value) (n : Nat) (h : t.size = n) : t = (List.ofFn fun i : Fin n => t.getD i undef).toArray := by
  subst h
  apply Array.ext
  · simp
  · intro i h1 h2
    simp [Array.getD]
theorem getD_of {t t0 : Array Value} {i : Nat} (h : t[i]? = t0[i]?) : t.getD i undef = t0.getD i undef := by
  rw [Array.getD_eq_getD_getElem?, Array.getD_eq_getD_getElem?, h]
/-- The blocks from H on are as they were. -/
def KeepFrom (H : Nat) (w w' : World) : Prop := ∀ (b : Nat) (o : Obj), H ≤ b → w.heap[b]? = some o → w'.heap[b]? = some o
theorem KeepFrom.of_grown {H : Nat} {w w' : World} {row : Option Nat} (hg : w.grownBy w' row) (hr : ∀ j, row = some j → j < H) : KeepFrom H w w' := fun b o hb h =>
  (hg.block b (Array.getElem?_eq_some_iff.1 h).1 (by intro e; have := hr b e.symm; omega)).trans h
theorem KeepFrom.trans {H : Nat} {w w' w2 : World} (h : KeepFrom H w w') (h2 : KeepFrom H w' w2) : KeepFrom H w w2 := fun b o hb he => h2 b o hb (h b o hb he)
/-- A literal row that a region has laid. -/
def LitSl (H : Nat) (C : Array Value) (e : TypeId) (w : World) (v : Value) : Prop := ∃ b, H ≤ b ∧ v = .slice (some ⟨b, 0, none⟩) C.size C.size ∧ w.heap[b]? = some (.cells C e (0, 0))
def LitPt (H : Nat) (C : Array Value) (e : TypeId) (w : World) (v : Value) : Prop := ∃ b i, H ≤ b ∧ i < C.size ∧ v = .pointer (some ⟨b, i, none⟩) ∧ w.heap[b]? = some (.cells C e (0, 0))
theorem LitSl.kept {H : Nat} {C : Array Value} {e : TypeId} {w w' : World} {v : Value} (hg : KeepFrom H w w') (h : LitSl H C e w v) : LitSl H C e w' v := by
  obtain ⟨b, hb, hv, hc⟩ := h
  exact ⟨b, hb, hv, hg b _ hb hc⟩
theorem LitPt.kept {H : Nat} {C : Array Value} {e : TypeId} {w w' : World} {v : Value} (hg : KeepFrom H w w') (h : LitPt H C e w v) : LitPt H C e w' v := by
  obtain ⟨b, i, hb, hi, hv, hc⟩ := h
  exact ⟨b, i, hb, hi, hv, hg b _ hb hc⟩
theorem LitSl.new {H : Nat} (w : World) (C : Array Value) (e : TypeId) (m : Nat) (h : C.size = m) (hH : H ≤ w.heap.size) : LitSl H C e (w.alloc (.cells C e (0, 0))) (.slice (some ⟨w.heap.size, 0, none⟩) m m) := by
  subst h; exact ⟨w.heap.size, hH, rfl, heap_alloc_new _ _⟩
theorem heap_row_kept {R b : Nat} {w w' : World} {o : Obj} (hg : w.grownBy w' (some R)) (hb : b ≠ R) (h : w.heap[b]? = some o) : w'.heap[b]? = some o :=
  (hg.block b (Array.getElem?_eq_some_iff.1 h).1 (by intro e; injection e with e; exact hb e)).trans h
theorem grow_row {R : Nat} {w0 w w' : World} {row : Option Nat} (h : w0.grownBy w (some R)) (hg : w.grownBy w' row) (hr : ∀ q, row = some q → w0.heap.size ≤ q) : w0.grownBy w' (some R) :=
  ⟨hg.os.trans h.os, hg.tape.trans h.tape, hg.output.trans h.output, Nat.le_trans h.size hg.size, fun b hb hne => (hg.block b (Nat.lt_of_lt_of_le hb h.size) (by intro e; have := hr b e.symm; omega)).trans (h.block b hb hne)⟩
theorem cell_lit {w : World} {b i : Nat} {C : Array Value} {e : TypeId} (h : w.heap[b]? = some (.cells C e (0, 0))) (hi : i < C.size) : w.cell? ⟨b, i, none⟩ = some C[i] := by
  rw [cell_of_row w b i _ _ _ h, Array.getElem?_eq_getElem hi]
theorem load_lit {w : World} {b i : Nat} {C : Array Value} {e : TypeId} {Q : Value → Prop} (h : w.heap[b]? = some (.cells C e (0, 0))) (hi : i < C.size) (hq : ∀ x ∈ C.toList, Q x) : ∃ y, w.cell? ⟨b, i, none⟩ = some y ∧ Q y :=
  ⟨C[i], cell_lit h hi, hq _ (by simp)⟩
def PickIn (n : Nat) (v : Value) : Prop := ∃ x : Nat, x < n ∧ v = .int .i64 (x : Int)
end Go.Proofs.Ytdoomfckdjjlaaa
