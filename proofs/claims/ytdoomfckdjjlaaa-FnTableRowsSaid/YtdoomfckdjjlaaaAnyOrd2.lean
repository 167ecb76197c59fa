/- A drawn region without guards, all its orders at once: what each operation leaves in its slot, whatever has run besides. -/
import Derived.Test.YtdoomfckdjjlaaaAnyOrd
namespace Go.Proofs.Ytdoomfckdjjlaaa
open Go

/-- What is known on the way: of each operation that is done, what its slot holds; the slots that no operation writes are as they were; and G of the world. -/
def SlotsAt (ops : Array Oper) (a0 : Act) (Pr : Nat → World → Value → Prop) (G : Array Bool → World → Prop) (listed : Array Bool) (a : Act) (w : World) : Prop :=
  a.defers = a0.defers ∧ a.tmps.size = a0.tmps.size ∧ (∀ t : Nat, (∀ (i : Nat) (o : Oper), ops[i]? = some o → o.dst ≠ some t) → a.tmps[t]? = a0.tmps[t]?) ∧
  (∀ (i : Nat) (o : Oper) (t : Nat), ops[i]? = some o → listed.getD i true = true → o.dst = some t → ∃ v, a.tmps[t]? = some v ∧ Pr i w v) ∧ G listed w

theorem region_slots {P : Program} {md : Region.Mode} {ops : Array Oper} {Q : Exit → Act → World → Prop} (a0 : Act) (Pr : Nat → World → Value → Prop) (G : Array Bool → World → Prop)
    (hguard : ∀ (i : Nat) (o : Oper), ops[i]? = some o → o.guard = none)
    (hdst : ∀ (i j : Nat) (o o' : Oper) (t : Nat), ops[i]? = some o → ops[j]? = some o' → o.dst = some t → o'.dst = some t → i = j)
    (hsz : ∀ (i : Nat) (o : Oper) (t : Nat), ops[i]? = some o → o.dst = some t → t < a0.tmps.size)
    (hstep : ∀ (listed : Array Bool) (a : Act) (w : World) (i : Nat) (o : Oper), SlotsAt ops a0 Pr G listed a w → ops[i]? = some o → i ∈ Region.ready md ops listed →
      ∀ K : Act → World → Prop, (∀ v w', (∀ t, o.dst = some t → Pr i w' v) → (∀ (j : Nat) u, listed.getD j true = true → Pr j w u → Pr j w' u) → G (listed.setIfInBounds i true) w' → K (a.put o.dst v) w') → o.wp P a w K Q)
    (hdone : ∀ listed a w, SlotsAt ops a0 Pr G listed a w → Region.ready md ops listed = [] → Q .normal a w)
    (fuel : Nat) (listed : Array Bool) (a : Act) (w : World) (hf : listed.toList.count false ≤ fuel) (h : SlotsAt ops a0 Pr G listed a w) : wpAny P md ops Q fuel listed a w := by
  refine wpAny_inv (SlotsAt ops a0 Pr G) ?_ hdone fuel listed a w hf h
  intro listed a w i h hi
  have hi' := hi
  rw [mem_ready] at hi'
  obtain ⟨h0, o, ho, _⟩ := hi'
  unfold wpOp
  rw [ho]
  have hg := hguard i o ho
  have hw : Region.wanted o (yielded ops a.tmps) = true := by simp [Region.wanted, hg]
  simp only [hw, if_true]
  refine .inl (hstep listed a w i o h ho hi _ ?_)
  intro v w' hv hkeep hG
  obtain ⟨e1, e2, e3, e4, e5⟩ := h
  cases hd : o.dst with
  | none =>
    refine ⟨e1, e2, e3, ?_, hG⟩
    intro j oj t hj hl hjt
    by_cases hij : j = i
    · subst hij
      rw [ho] at hj
      injection hj with hj
      subst hj
      rw [hd] at hjt
      cases hjt
    · have hl' : listed.getD j true = true := by rwa [getD_set_ne true (Ne.symm hij)] at hl
      obtain ⟨u, hu, hp⟩ := e4 j oj t hj hl' hjt
      exact ⟨u, hu, hkeep j u hl' hp⟩
  | some d =>
    have hds := hsz i o d ho hd
    refine ⟨e1, by simpa [Act.put] using e2, ?_, ?_, hG⟩
    · intro t ht
      have hne : d ≠ t := fun e => ht i o ho (by rw [hd, e])
      show (a.tmps.setIfInBounds d v)[t]? = _
      rw [Array.getElem?_setIfInBounds_ne hne]
      exact e3 t ht
    · intro j oj t hj hl hjt
      by_cases hij : j = i
      · subst hij
        rw [ho] at hj
        injection hj with hj
        subst hj
        rw [hd] at hjt
        injection hjt with hjt
        subst hjt
        refine ⟨v, ?_, hv _ hd⟩
        show (a.tmps.setIfInBounds d v)[d]? = _
        rw [Array.getElem?_setIfInBounds_self, if_pos (by omega)]
      · have hl' : listed.getD j true = true := by rwa [getD_set_ne true (Ne.symm hij)] at hl
        obtain ⟨u, hu, hp⟩ := e4 j oj t hj hl' hjt
        have hne : d ≠ t := fun e => hij (hdst j i oj o d hj ho (by rw [hjt, e]) hd)
        refine ⟨u, ?_, hkeep j u hl' hp⟩
        show (a.tmps.setIfInBounds d v)[t]? = _
        rw [Array.getElem?_setIfInBounds_ne hne]
        exact hu
/-- No guard; every slot below n; no slot twice: by reckoning. -/
def slotsB (ops : Array Oper) (n : Nat) : Bool := ops.toList.all (fun o => o.guard.isNone && (match o.dst with | some t => decide (t < n) | none => true)) && decide ((ops.toList.filterMap (·.dst)).Nodup)
theorem slotsB_guard {ops : Array Oper} {n : Nat} (h : slotsB ops n = true) (i : Nat) (o : Oper) (ho : ops[i]? = some o) : o.guard = none := by
  unfold slotsB at h
  rw [Bool.and_eq_true, List.all_eq_true] at h
  have := h.1 o (Array.mem_toList_iff.2 (Array.mem_of_getElem? ho))
  rw [Bool.and_eq_true] at this
  simpa using this.1
theorem slotsB_size {ops : Array Oper} {n : Nat} (h : slotsB ops n = true) (i : Nat) (o : Oper) (t : Nat) (ho : ops[i]? = some o) (ht : o.dst = some t) : t < n := by
  unfold slotsB at h
  rw [Bool.and_eq_true, List.all_eq_true] at h
  have := h.1 o (Array.mem_toList_iff.2 (Array.mem_of_getElem? ho))
  rw [Bool.and_eq_true, ht] at this
  simpa using this.2
theorem slotsB_dst {ops : Array Oper} {n : Nat} (h : slotsB ops n = true) (i j : Nat) (o o' : Oper) (t : Nat) (ho : ops[i]? = some o) (ho' : ops[j]? = some o') (ht : o.dst = some t) (ht' : o'.dst = some t) : i = j := by
  unfold slotsB at h
  rw [Bool.and_eq_true, decide_eq_true_iff] at h
  have hn := h.2
  unfold List.Nodup at hn
  rw [List.pairwise_filterMap, List.pairwise_iff_getElem] at hn
  obtain ⟨hi, e1⟩ := Array.getElem?_eq_some_iff.1 ho
  obtain ⟨hj, e2⟩ := Array.getElem?_eq_some_iff.1 ho'
  rcases Nat.lt_trichotomy i j with hij | hij | hij
  · exact absurd rfl (hn i j (by simpa using hi) (by simpa using hj) hij t (by simpa [e1] using ht) t (by simpa [e2] using ht'))
  · exact hij
  · exact absurd rfl (hn j i (by simpa using hj) (by simpa using hi) hij t (by simpa [e2] using ht') t (by simpa [e1] using ht))
theorem dep_done {md : Region.Mode} {ops : Array Oper} {listed : Array Bool} {i : Nat} {o : Oper} (hi : i ∈ Region.ready md ops listed) (ho : ops[i]? = some o) : ∀ e ∈ o.after, Region.binds md e = true → listed.getD e.on false = true := by
  rw [mem_ready] at hi
  obtain ⟨_, o', ho', h⟩ := hi
  rw [ho] at ho'
  injection ho' with ho'
  subst ho'
  exact h
theorem getD_up {l : Array Bool} {i : Nat} (h : l.getD i false = true) : l.getD i true = true := by
  rw [Array.getD_eq_getD_getElem?] at h ⊢
  cases hx : l[i]? with
  | none => rfl
  | some b => rw [hx] at h; exact h
end Go.Proofs.Ytdoomfckdjjlaaa
