/- The drawn number and sign (printed by gen_grpdraw.py). -/
import Derived.Test.YtfidcfjmmhghjaaDoorUng2
import Derived.Test.YtfidcfjmmhghjaaDoorDraw
import Derived.Test.YtfidcfjmmhghjaaDoorDrawS
import Derived.Test.YtfidcfjmmhghjaaDoorAnyOrd2
import Derived.Test.YtfidcfjmmhghjaaDoorAlive
namespace Go.Proofs.YtfidcfjmmhghjaaDoor
open Go.RowKit

def VIn (w : World) (b : Nat) : Prop := ∃ x y : Int, (-2000000 ≤ x ∧ x ≤ 2000000 ∧ -2000000 ≤ y ∧ y ≤ 2000000) ∧ w.heap[b]? = some (.cells #[.int .i64 x, .int .i64 y, .int .i64 999999, .int .i64 (-999999), .int .i64 1000000] 3 (0, 0))
def P7 (w : World) (b : Nat) : Prop := w.heap[b]? = some (.cells #[.int .i64 0, .int .i64 1, .int .i64 1, .int .i64 1, .int .i64 2, .int .i64 3, .int .i64 4] 3 (0, 0))
def P6 (w : World) (b : Nat) : Prop := w.heap[b]? = some (.cells #[.int .i64 0, .int .i64 0, .int .i64 1, .int .i64 2, .int .i64 3, .int .i64 4] 3 (0, 0))
def Q5 (w : World) (b : Nat) : Prop := w.heap[b]? = some (.cells #[.int .u8 44, .int .u8 32, .int .u8 95, .int .u8 7, .int .u8 127] 5 (0, 0))
def numSlot (R : Nat) : Nat → World → Value → Prop
  | 0, _, v => v = .pointer (some ⟨R, 0, none⟩)
  | 1, _, v => ∃ x : Nat, x ≤ 255 ∧ v = .int .i64 (x : Int)
  | 2, _, v => ∃ x : Int, (-200 ≤ x ∧ x ≤ 200) ∧ v = .int .i64 x
  | 3, _, v => v = .pointer (some ⟨R, 0, none⟩)
  | 4, _, v => ∃ x : Nat, x ≤ 255 ∧ v = .int .i64 (x : Int)
  | 5, _, v => ∃ x : Int, (-200 ≤ x ∧ x ≤ 200) ∧ v = .int .i64 x
  | 6, _, v => ∃ x : Int, (-2000000 ≤ x ∧ x ≤ 2000000) ∧ v = .int .i64 x
  | 7, w, v => ∃ b, b ≠ R ∧ v = .slice (some ⟨b, 0, none⟩) 5 5 ∧ VIn w b
  | 8, w, v => ∃ b, b ≠ R ∧ v = .slice (some ⟨b, 0, none⟩) 7 7 ∧ P7 w b
  | 9, _, v => v = .pointer (some ⟨R, 0, none⟩)
  | 10, _, v => ∃ x : Nat, x ≤ 6 ∧ v = .int .i64 (x : Int)
  | 11, w, v => ∃ b i, b ≠ R ∧ i ≤ 6 ∧ v = .pointer (some ⟨b, i, none⟩) ∧ P7 w b
  | 12, _, v => ∃ x : Nat, x ≤ 4 ∧ v = .int .i64 (x : Int)
  | 13, w, v => ∃ b i, b ≠ R ∧ i ≤ 4 ∧ v = .pointer (some ⟨b, i, none⟩) ∧ VIn w b
  | 14, _, v => ∃ x : Int, (-2000000 ≤ x ∧ x ≤ 2000000) ∧ v = .int .i64 x
  | 15, w, v => ∃ b, b ≠ R ∧ v = .slice (some ⟨b, 0, none⟩) 5 5 ∧ Q5 w b
  | 16, w, v => ∃ b, b ≠ R ∧ v = .slice (some ⟨b, 0, none⟩) 6 6 ∧ P6 w b
  | 17, _, v => v = .pointer (some ⟨R, 0, none⟩)
  | 18, _, v => ∃ x : Nat, x ≤ 5 ∧ v = .int .i64 (x : Int)
  | 19, w, v => ∃ b i, b ≠ R ∧ i ≤ 5 ∧ v = .pointer (some ⟨b, i, none⟩) ∧ P6 w b
  | 20, _, v => ∃ x : Nat, x ≤ 4 ∧ v = .int .i64 (x : Int)
  | 21, w, v => ∃ b i, b ≠ R ∧ i ≤ 4 ∧ v = .pointer (some ⟨b, i, none⟩) ∧ Q5 w b
  | 22, _, v => ∃ c : UInt8, sgBad c = false ∧ v = .int .u8 (c.toNat : Int)
  | 23, _, v => ∃ x : Int, (-2000000 ≤ x ∧ x ≤ 2000000) ∧ v = .int .i64 x
  | 24, _, v => ∃ c : UInt8, sgBad c = false ∧ v = .int .u8 (c.toNat : Int)
  | _, _, _ => True
theorem num_kept {R : Nat} {w w' : World} (hg : w.grownBy w' (some R)) (j : Nat) (v : Value) (h : numSlot R j w v) : numSlot R j w' v := by
  have hk : ∀ b, b ≠ R → ∀ o, w.heap[b]? = some o → w'.heap[b]? = some o := fun b hb o ho => by
    have hlt : b < w.heap.size := (Array.getElem?_eq_some_iff.1 ho).1
    rw [hg.block b hlt (by intro e; injection e with e; exact hb e)]
    exact ho
  unfold numSlot at h ⊢
  split at h
  all_goals first
    | exact h
    | (obtain ⟨b, hb, hv, x, y, hx, hc⟩ := h; exact ⟨b, hb, hv, x, y, hx, hk b hb _ hc⟩)
    | (obtain ⟨b, i, hb, hi, hv, x, y, hx, hc⟩ := h; exact ⟨b, i, hb, hi, hv, x, y, hx, hk b hb _ hc⟩)
    | (obtain ⟨b, hb, hv, hc⟩ := h; exact ⟨b, hb, hv, hk b hb _ hc⟩)
    | (obtain ⟨b, i, hb, hi, hv, hc⟩ := h; exact ⟨b, i, hb, hi, hv, hk b hb _ hc⟩)
theorem v_cell {w : World} {b j : Nat} (hj : j ≤ 4) (h : VIn w b) : ∃ x : Int, (-2000000 ≤ x ∧ x ≤ 2000000) ∧ w.cell? ⟨b, j, none⟩ = some (.int .i64 x) := by
  obtain ⟨x, y, hx, h⟩ := h
  rcases (show j = 0 ∨ j = 1 ∨ j = 2 ∨ j = 3 ∨ j = 4 by omega) with rfl | rfl | rfl | rfl | rfl
  · exact ⟨x, by omega, by rw [cell_of_row _ _ _ _ _ _ h]; rfl⟩
  · exact ⟨y, by omega, by rw [cell_of_row _ _ _ _ _ _ h]; rfl⟩
  · exact ⟨999999, by omega, by rw [cell_of_row _ _ _ _ _ _ h]; rfl⟩
  · exact ⟨-999999, by omega, by rw [cell_of_row _ _ _ _ _ _ h]; rfl⟩
  · exact ⟨1000000, by omega, by rw [cell_of_row _ _ _ _ _ _ h]; rfl⟩
theorem p7_cell {w : World} {b j : Nat} (hj : j ≤ 6) (h : P7 w b) : ∃ x : Nat, x ≤ 4 ∧ w.cell? ⟨b, j, none⟩ = some (.int .i64 (x : Int)) := by
  unfold P7 at h
  rcases (show j = 0 ∨ j = 1 ∨ j = 2 ∨ j = 3 ∨ j = 4 ∨ j = 5 ∨ j = 6 by omega) with rfl | rfl | rfl | rfl | rfl | rfl | rfl
  · exact ⟨0, by omega, by rw [cell_of_row _ _ _ _ _ _ h]; rfl⟩
  · exact ⟨1, by omega, by rw [cell_of_row _ _ _ _ _ _ h]; rfl⟩
  · exact ⟨1, by omega, by rw [cell_of_row _ _ _ _ _ _ h]; rfl⟩
  · exact ⟨1, by omega, by rw [cell_of_row _ _ _ _ _ _ h]; rfl⟩
  · exact ⟨2, by omega, by rw [cell_of_row _ _ _ _ _ _ h]; rfl⟩
  · exact ⟨3, by omega, by rw [cell_of_row _ _ _ _ _ _ h]; rfl⟩
  · exact ⟨4, by omega, by rw [cell_of_row _ _ _ _ _ _ h]; rfl⟩
theorem p6_cell {w : World} {b j : Nat} (hj : j ≤ 5) (h : P6 w b) : ∃ x : Nat, x ≤ 4 ∧ w.cell? ⟨b, j, none⟩ = some (.int .i64 (x : Int)) := by
  unfold P6 at h
  rcases (show j = 0 ∨ j = 1 ∨ j = 2 ∨ j = 3 ∨ j = 4 ∨ j = 5 by omega) with rfl | rfl | rfl | rfl | rfl | rfl
  · exact ⟨0, by omega, by rw [cell_of_row _ _ _ _ _ _ h]; rfl⟩
  · exact ⟨0, by omega, by rw [cell_of_row _ _ _ _ _ _ h]; rfl⟩
  · exact ⟨1, by omega, by rw [cell_of_row _ _ _ _ _ _ h]; rfl⟩
  · exact ⟨2, by omega, by rw [cell_of_row _ _ _ _ _ _ h]; rfl⟩
  · exact ⟨3, by omega, by rw [cell_of_row _ _ _ _ _ _ h]; rfl⟩
  · exact ⟨4, by omega, by rw [cell_of_row _ _ _ _ _ _ h]; rfl⟩
theorem q5_cell {w : World} {b j : Nat} (hj : j ≤ 4) (h : Q5 w b) : ∃ c : UInt8, sgBad c = false ∧ w.cell? ⟨b, j, none⟩ = some (.int .u8 (c.toNat : Int)) := by
  unfold Q5 at h
  rcases (show j = 0 ∨ j = 1 ∨ j = 2 ∨ j = 3 ∨ j = 4 by omega) with rfl | rfl | rfl | rfl | rfl
  · exact ⟨44, by decide, by rw [cell_of_row _ _ _ _ _ _ h]; rfl⟩
  · exact ⟨32, by decide, by rw [cell_of_row _ _ _ _ _ _ h]; rfl⟩
  · exact ⟨95, by decide, by rw [cell_of_row _ _ _ _ _ _ h]; rfl⟩
  · exact ⟨7, by decide, by rw [cell_of_row _ _ _ _ _ _ h]; rfl⟩
  · exact ⟨127, by decide, by rw [cell_of_row _ _ _ _ _ _ h]; rfl⟩

def leftPicks (listed : Array Bool) : Nat := (if listed.getD 1 true then 0 else 1) + (if listed.getD 4 true then 0 else 1) + (if listed.getD 10 true then 0 else 1) + (if listed.getD 18 true then 0 else 1)
def numG (W0 : World) (R k : Nat) (listed : Array Bool) (w : World) : Prop := W0.grownBy w (some R) ∧ Rdr w R (k + leftPicks listed) ∧ listed.size = 25
theorem region_slots0 {P : Program} {md : Region.Mode} {ops : Array Oper} {Q : Exit → Act → World → Prop} {a0 : Act} {w0 : World} {fuel : Nat} {listed : Array Bool} (Pr : Nat → Nat → World → Value → Prop) (G : World → Array Bool → World → Prop) (n : Nat)
    (hB : slotsB ops n = true) (hn : n ≤ a0.tmps.size)
    (hstep : ∀ (listed : Array Bool) (a : Act) (w : World) (i : Nat) (o : Oper), SlotsAt ops a0 (Pr w0.heap.size) (G w0) listed a w → ops[i]? = some o → i ∈ Region.ready md ops listed →
      ∀ K : Act → World → Prop, (∀ v w', (∀ t, o.dst = some t → Pr w0.heap.size i w' v) → (∀ (j : Nat) u, listed.getD j true = true → Pr w0.heap.size j w u → Pr w0.heap.size j w' u) → G w0 (listed.setIfInBounds i true) w' → K (a.put o.dst v) w') → o.wp P a w K Q)
    (hdone : ∀ listed a w, SlotsAt ops a0 (Pr w0.heap.size) (G w0) listed a w → Region.ready md ops listed = [] → Q .normal a w)
    (hf : listed.toList.count false ≤ fuel) (h : SlotsAt ops a0 (Pr w0.heap.size) (G w0) listed a0 w0) : wpAny P md ops Q fuel listed a0 w0 :=
  region_slots a0 (Pr w0.heap.size) (G w0) (slotsB_guard hB) (slotsB_dst hB) (fun i o t ho ht => by have := slotsB_size hB i o t ho ht; omega) hstep hdone fuel listed a0 w0 hf h
theorem getD_set_eq {l : Array Bool} {i : Nat} : (l.setIfInBounds i true).getD i true = true := by
  rw [Array.getD_eq_getD_getElem?]
  by_cases h : i < l.size
  · rw [Array.getElem?_setIfInBounds_self, if_pos h]; rfl
  · rw [Array.getElem?_setIfInBounds_self, if_neg h]; rfl
theorem left_same {l : Array Bool} {i : Nat} (h : i ≠ 1 ∧ i ≠ 4 ∧ i ≠ 10 ∧ i ≠ 18) : leftPicks (l.setIfInBounds i true) = leftPicks l := by
  unfold leftPicks
  rw [getD_set_ne true h.1, getD_set_ne true h.2.1, getD_set_ne true h.2.2.1, getD_set_ne true h.2.2.2]
theorem left_pick {l : Array Bool} {i : Nat} (h : i = 1 ∨ i = 4 ∨ i = 10 ∨ i = 18) (hl : l.getD i true = false) : leftPicks l = leftPicks (l.setIfInBounds i true) + 1 := by
  unfold leftPicks
  rcases h with rfl | rfl | rfl | rfl
  all_goals
    rw [getD_set_eq, hl]
    repeat rw [getD_set_ne true (by decide)]
    simp only [if_true, Bool.false_eq_true, if_false]
    try omega
theorem G_keep {W0 : World} {R k : Nat} {l : Array Bool} {w w' : World} {i : Nat} (h : numG W0 R k l w) (hi : i ≠ 1 ∧ i ≠ 4 ∧ i ≠ 10 ∧ i ≠ 18) (hg : W0.grownBy w (some R) → W0.grownBy w' (some R)) (hr : ∀ k, Rdr w R k → Rdr w' R k) : numG W0 R k (l.setIfInBounds i true) w' :=
  ⟨hg h.1, by rw [left_same hi]; exact hr _ h.2.1, by rw [Array.size_setIfInBounds]; exact h.2.2⟩
theorem G_pick {W0 : World} {R k : Nat} {l : Array Bool} {w w' : World} {i : Nat} (h : numG W0 R k l w) (hi : i = 1 ∨ i = 4 ∨ i = 10 ∨ i = 18) (hl : l.getD i true = false) (hg : w.grownBy w' (some R)) (hr : Rdr w' R (k + leftPicks l - 1)) : numG W0 R k (l.setIfInBounds i true) w' :=
  ⟨h.1.trans hg, by have := left_pick hi hl; rw [this] at hr; exact hr, by rw [Array.size_setIfInBounds]; exact h.2.2⟩
theorem pick_left {l : Array Bool} {i : Nat} (h : i = 1 ∨ i = 4 ∨ i = 10 ∨ i = 18) (hl : l.getD i true = false) (k : Nat) : 1 ≤ k + leftPicks l := by have := left_pick h hl; omega
theorem slot_dep {ops : Array Oper} {a0 a : Act} {Pr : Nat → World → Value → Prop} {G : Array Bool → World → Prop} {listed : Array Bool} {w : World} {md : Region.Mode} {i : Nat} {o : Oper}
    (hS : SlotsAt ops a0 Pr G listed a w) (hi : i ∈ Region.ready md ops listed) (ho : ops[i]? = some o) (j t : Nat) (oj : Oper) (hj : ops[j]? = some oj) (ht : oj.dst = some t) (he : (o.after.any fun e => Region.binds md e && e.on == j) = true) : ∃ v, a.tmps[t]? = some v ∧ Pr j w v := by
  rw [Array.any_eq_true'] at he
  obtain ⟨e, hm, hb⟩ := he
  rw [Bool.and_eq_true] at hb
  have h1 := dep_done hi ho e hm hb.1
  have : e.on = j := by simpa using hb.2
  rw [this] at h1
  exact hS.2.2.2.1 j oj t hj (getD_up h1) ht
theorem slot_old {ops : Array Oper} {a0 a : Act} {Pr : Nat → World → Value → Prop} {G : Array Bool → World → Prop} {listed : Array Bool} {w : World}
    (hS : SlotsAt ops a0 Pr G listed a w) (t : Nat) (h : (ops.toList.all fun o => o.dst != some t) = true) : a.tmps[t]? = a0.tmps[t]? := by
  refine hS.2.2.1 t (fun i o ho e => ?_)
  rw [List.all_eq_true] at h
  have := h o (Array.mem_toList_iff.2 (Array.mem_of_getElem? ho))
  rw [e] at this
  simp at this
theorem ready_none {md : Region.Mode} {ops : Array Oper} {listed : Array Bool} (hr : Region.ready md ops listed = []) (i : Nat) (o : Oper) (ho : ops[i]? = some o) (ha : o.after = #[]) : listed.getD i true = true := by
  cases hx : listed.getD i true with
  | true => rfl
  | false =>
    have : i ∈ Region.ready md ops listed := mem_ready.2 ⟨hx, o, ho, by rw [ha]; intro e he; simp at he⟩
    rw [hr] at this
    cases this
/-- Every operation has been taken. -/
theorem ready_core {md : Region.Mode} {ops : Array Oper} {listed : Array Bool} (rk : Nat → Nat) (hr : Region.ready md ops listed = []) (hs : listed.size = ops.size) (hB : ∀ (i : Nat) (o : Oper), ops[i]? = some o → ∀ e ∈ o.after, Region.binds md e = true → e.on < ops.size ∧ rk e.on < rk i) : ∀ (n i : Nat), rk i < n → ∀ o : Oper, ops[i]? = some o → listed.getD i true = true := by
  intro n
  induction n with
  | zero => intro i h; omega
  | succ n ih =>
    intro i hi o ho
    cases hx : listed.getD i true with
    | true => rfl
    | false =>
      have : i ∈ Region.ready md ops listed := mem_ready.2 ⟨hx, o, ho, fun e he hb => by
        obtain ⟨hlt, hrk⟩ := hB i o ho e he hb
        have h1 := ih e.on (by omega) (ops[e.on]'hlt) (Array.getElem?_eq_getElem hlt)
        rw [Array.getD_eq_getD_getElem?] at h1 ⊢
        rw [Array.getElem?_eq_getElem (by omega)] at h1 ⊢
        exact h1⟩
      rw [hr] at this
      cases this
def depsR (md : Region.Mode) (rk : Nat → Nat) (ops : Array Oper) : Bool := (List.range ops.size).all fun i => match ops[i]? with | none => true | some o => o.after.all fun e => !Region.binds md e || (decide (e.on < ops.size) && decide (rk e.on < rk i))
theorem depsR_spec {md : Region.Mode} {rk : Nat → Nat} {ops : Array Oper} (h : depsR md rk ops = true) : ∀ (i : Nat) (o : Oper), ops[i]? = some o → ∀ e ∈ o.after, Region.binds md e = true → e.on < ops.size ∧ rk e.on < rk i := by
  intro i o ho e he hb
  unfold depsR at h
  rw [List.all_eq_true] at h
  have hi : i < ops.size := (Array.getElem?_eq_some_iff.1 ho).1
  have := h i (List.mem_range.2 hi)
  rw [ho] at this
  simp only at this
  rw [Array.all_eq_true'] at this
  have h2 := this e he
  rw [hb] at h2
  simpa using h2
theorem arr30 (a : Array Value) (h : a.size = 30) : ∃ x0 x1 x2 x3 x4 x5 x6 x7 x8 x9 x10 x11 x12 x13 x14 x15 x16 x17 x18 x19 x20 x21 x22 x23 x24 x25 x26 x27 x28 x29 : Value, a = #[x0, x1, x2, x3, x4, x5, x6, x7, x8, x9, x10, x11, x12, x13, x14, x15, x16, x17, x18, x19, x20, x21, x22, x23, x24, x25, x26, x27, x28, x29] := by
  obtain ⟨l⟩ := a
  rw [List.size_toArray] at h
  rcases l with _ | ⟨x0, l⟩
  · simp at h
  rcases l with _ | ⟨x1, l⟩
  · simp at h
  rcases l with _ | ⟨x2, l⟩
  · simp at h
  rcases l with _ | ⟨x3, l⟩
  · simp at h
  rcases l with _ | ⟨x4, l⟩
  · simp at h
  rcases l with _ | ⟨x5, l⟩
  · simp at h
  rcases l with _ | ⟨x6, l⟩
  · simp at h
  rcases l with _ | ⟨x7, l⟩
  · simp at h
  rcases l with _ | ⟨x8, l⟩
  · simp at h
  rcases l with _ | ⟨x9, l⟩
  · simp at h
  rcases l with _ | ⟨x10, l⟩
  · simp at h
  rcases l with _ | ⟨x11, l⟩
  · simp at h
  rcases l with _ | ⟨x12, l⟩
  · simp at h
  rcases l with _ | ⟨x13, l⟩
  · simp at h
  rcases l with _ | ⟨x14, l⟩
  · simp at h
  rcases l with _ | ⟨x15, l⟩
  · simp at h
  rcases l with _ | ⟨x16, l⟩
  · simp at h
  rcases l with _ | ⟨x17, l⟩
  · simp at h
  rcases l with _ | ⟨x18, l⟩
  · simp at h
  rcases l with _ | ⟨x19, l⟩
  · simp at h
  rcases l with _ | ⟨x20, l⟩
  · simp at h
  rcases l with _ | ⟨x21, l⟩
  · simp at h
  rcases l with _ | ⟨x22, l⟩
  · simp at h
  rcases l with _ | ⟨x23, l⟩
  · simp at h
  rcases l with _ | ⟨x24, l⟩
  · simp at h
  rcases l with _ | ⟨x25, l⟩
  · simp at h
  rcases l with _ | ⟨x26, l⟩
  · simp at h
  rcases l with _ | ⟨x27, l⟩
  · simp at h
  rcases l with _ | ⟨x28, l⟩
  · simp at h
  rcases l with _ | ⟨x29, l⟩
  · simp at h
  rcases l with _ | ⟨y, l⟩
  · exact ⟨x0, x1, x2, x3, x4, x5, x6, x7, x8, x9, x10, x11, x12, x13, x14, x15, x16, x17, x18, x19, x20, x21, x22, x23, x24, x25, x26, x27, x28, x29, rfl⟩
  · simp at h
def DrawNum (w : World) (e : Ending) (w' : World) : Prop :=
  ∃ (n : Int) (sg : UInt8), e = .returned (.tuple #[.int .i64 n, .int .u8 (sg.toNat : Int)]) ∧ (-2000000 ≤ n ∧ n ≤ 2000000) ∧ sgBad sg = false ∧ Below w.heap.size w w'
set_option maxRecDepth 100000 in
set_option maxHeartbeats 1600000 in
theorem draw_GroupNumber (w : World) (a : Option Addr) (n c : Nat) (f : Nat → UInt8) (hb : BytesAt w a n f) (hc : n ≤ c) (hc' : c ≤ 9223372036854775807) :
    Calls Tryd.prog 11 #[.slice a n c] w (DrawNum w) := by
  have HB := Lib.hid hb; clear hb
  go_enter Tryd.func11, Tryd.ntmps11
  go_wp2_with fail
  refine (open_any _ _ _ _ _ HB.out hc hc').mono ?_
  rintro e w1 ⟨rfl, hb1, hr1⟩
  have hR1 := hr1.lt
  have HR1 := Lib.hid (hr1.less (k' := 1000 + 4) (by omega))
  have HB1 := Lib.hid hb1
  clear hb1 HB hr1
  generalize hRR : w.heap.size = R at *
  go_wp2
  refine wp_region_any (by kernel_rfl) ?_
  rename_i KK hKK
  refine region_slots0 (fun _ => numSlot R) (fun W0 => numG W0 R 1000) 30 (by kernel_rfl) (Nat.le_refl 30) ?step ?done (by decide) ?start
  case step =>
    intro listed a wx i o hS ho hi K hK
    have hlt : i < 25 := by have := (Array.getElem?_eq_some_iff.1 ho).1; simpa using this
    have h4 := slot_old hS 4 (by kernel_rfl)
    have hG : numG _ R 1000 listed wx := hS.2.2.2.2
    have hl := (mem_ready.1 hi).1
    rcases (show i = 0 ∨ i = 1 ∨ i = 2 ∨ i = 3 ∨ i = 4 ∨ i = 5 ∨ i = 6 ∨ i = 7 ∨ i = 8 ∨ i = 9 ∨ i = 10 ∨ i = 11 ∨ i = 12 ∨ i = 13 ∨ i = 14 ∨ i = 15 ∨ i = 16 ∨ i = 17 ∨ i = 18 ∨ i = 19 ∨ i = 20 ∨ i = 21 ∨ i = 22 ∨ i = 23 ∨ i = 24 by omega) with rfl | rfl | rfl | rfl | rfl | rfl | rfl | rfl | rfl | rfl | rfl | rfl | rfl | rfl | rfl | rfl | rfl | rfl | rfl | rfl | rfl | rfl | rfl | rfl | rfl
    · obtain rfl := Option.some.inj ho
      clear hS
      unfold Oper.wp
      simp [execOp, Act.eval, h4]
      exact hK _ _ (fun _ _ => rfl) (fun _ _ _ h => h) (G_keep hG (by decide) id (fun _ h => h))
    · obtain ⟨v0, s0, rfl⟩ := slot_dep hS hi ho 0 7 _ rfl rfl (by obtain rfl := Option.some.inj ho; kernel_rfl)
      obtain rfl := Option.some.inj ho
      clear hS
      unfold Oper.wp
      simp [execOp]
      go_simp
      refine (pick_any _ _ _ _ hG.2.1 (pick_left (by decide) hl _) (by omega) (by omega)).mono ?_
      rintro e w1 ⟨v, rfl, hv, hg, hr⟩
      exact hK _ _ (fun _ _ => by show ∃ x : Nat, x ≤ 255 ∧ Value.int .i64 _ = Value.int .i64 (x : Int); exact ⟨v, by omega, rfl⟩) (fun j u _ h => num_kept hg j u h) (G_pick hG (by decide) hl hg hr)
    · obtain ⟨v1, s1, x1, hx1, rfl⟩ := slot_dep hS hi ho 1 8 _ rfl rfl (by obtain rfl := Option.some.inj ho; kernel_rfl)
      obtain rfl := Option.some.inj ho
      clear hS
      unfold Oper.wp
      simp [execOp, Act.eval, s1]
      go_simp
      exact hK _ _ (fun _ _ => by show ∃ x : Int, (-200 ≤ x ∧ x ≤ 200) ∧ Value.int .i64 _ = Value.int .i64 x; exact ⟨(x1 : Int) - 128, by omega, by rw [IntWalk.i64_in _ (by omega)]⟩) (fun _ _ _ h => h) (G_keep hG (by decide) id (fun _ h => h))
    · obtain rfl := Option.some.inj ho
      clear hS
      unfold Oper.wp
      simp [execOp, Act.eval, h4]
      exact hK _ _ (fun _ _ => rfl) (fun _ _ _ h => h) (G_keep hG (by decide) id (fun _ h => h))
    · obtain ⟨v3, s3, rfl⟩ := slot_dep hS hi ho 3 10 _ rfl rfl (by obtain rfl := Option.some.inj ho; kernel_rfl)
      obtain rfl := Option.some.inj ho
      clear hS
      unfold Oper.wp
      simp [execOp]
      go_simp
      refine (pick_any _ _ _ _ hG.2.1 (pick_left (by decide) hl _) (by omega) (by omega)).mono ?_
      rintro e w1 ⟨v, rfl, hv, hg, hr⟩
      exact hK _ _ (fun _ _ => by show ∃ x : Nat, x ≤ 255 ∧ Value.int .i64 _ = Value.int .i64 (x : Int); exact ⟨v, by omega, rfl⟩) (fun j u _ h => num_kept hg j u h) (G_pick hG (by decide) hl hg hr)
    · obtain ⟨v4, s4, x4, hx4, rfl⟩ := slot_dep hS hi ho 4 11 _ rfl rfl (by obtain rfl := Option.some.inj ho; kernel_rfl)
      obtain rfl := Option.some.inj ho
      clear hS
      unfold Oper.wp
      simp [execOp, Act.eval, s4]
      go_simp
      exact hK _ _ (fun _ _ => by show ∃ x : Int, (-200 ≤ x ∧ x ≤ 200) ∧ Value.int .i64 _ = Value.int .i64 x; exact ⟨(x4 : Int) - 128, by omega, by rw [IntWalk.i64_in _ (by omega)]⟩) (fun _ _ _ h => h) (G_keep hG (by decide) id (fun _ h => h))
    · obtain ⟨v5, s5, x5, hx5, rfl⟩ := slot_dep hS hi ho 5 12 _ rfl rfl (by obtain rfl := Option.some.inj ho; kernel_rfl)
      obtain rfl := Option.some.inj ho
      clear hS
      unfold Oper.wp
      simp [execOp, Act.eval, s5]
      go_simp
      exact hK _ _ (fun _ _ => by show ∃ x : Int, (-2000000 ≤ x ∧ x ≤ 2000000) ∧ Value.int .i64 _ = Value.int .i64 x; exact ⟨x5 * 7812, by omega, by rw [IntWalk.i64_in _ (by omega)]⟩) (fun _ _ _ h => h) (G_keep hG (by decide) id (fun _ h => h))
    · obtain ⟨v2, s2, x2, hx2, rfl⟩ := slot_dep hS hi ho 2 9 _ rfl rfl (by obtain rfl := Option.some.inj ho; kernel_rfl)
      obtain ⟨v6, s6, x6, hx6, rfl⟩ := slot_dep hS hi ho 6 13 _ rfl rfl (by obtain rfl := Option.some.inj ho; kernel_rfl)
      obtain rfl := Option.some.inj ho
      clear hS
      unfold Oper.wp
      simp [execOp, Act.eval, s2, s6]
      go_simp
      exact hK _ _ (fun _ _ => by show ∃ b, b ≠ R ∧ Value.slice _ 5 5 = .slice (some ⟨b, 0, none⟩) 5 5 ∧ VIn _ b; exact ⟨wx.heap.size, (by have := hG.2.1.lt; omega), rfl, ⟨x2, x6, by omega, heap_alloc_new _ _⟩⟩) (fun j u _ h => num_kept (World.grownBy_alloc _ _ _) j u h) (G_keep hG (by decide) (fun h => h.trans (World.grownBy_alloc _ _ _)) (fun _ h => h.kept (World.grownBy_alloc _ _ none) (by simp)))
    · obtain rfl := Option.some.inj ho
      clear hS
      unfold Oper.wp
      simp [execOp, Act.eval]
      go_simp
      exact hK _ _ (fun _ _ => by show ∃ b, b ≠ R ∧ Value.slice _ 7 7 = .slice (some ⟨b, 0, none⟩) 7 7 ∧ P7 _ b; exact ⟨wx.heap.size, (by have := hG.2.1.lt; omega), rfl, heap_alloc_new _ _⟩) (fun j u _ h => num_kept (World.grownBy_alloc _ _ _) j u h) (G_keep hG (by decide) (fun h => h.trans (World.grownBy_alloc _ _ _)) (fun _ h => h.kept (World.grownBy_alloc _ _ none) (by simp)))
    · obtain rfl := Option.some.inj ho
      clear hS
      unfold Oper.wp
      simp [execOp, Act.eval, h4]
      exact hK _ _ (fun _ _ => rfl) (fun _ _ _ h => h) (G_keep hG (by decide) id (fun _ h => h))
    · obtain ⟨v9, s9, rfl⟩ := slot_dep hS hi ho 9 16 _ rfl rfl (by obtain rfl := Option.some.inj ho; kernel_rfl)
      obtain rfl := Option.some.inj ho
      clear hS
      unfold Oper.wp
      simp [execOp]
      go_simp
      refine (pick_any _ _ _ _ hG.2.1 (pick_left (by decide) hl _) (by omega) (by omega)).mono ?_
      rintro e w1 ⟨v, rfl, hv, hg, hr⟩
      exact hK _ _ (fun _ _ => by show ∃ x : Nat, x ≤ 6 ∧ Value.int .i64 _ = Value.int .i64 (x : Int); exact ⟨v, by omega, rfl⟩) (fun j u _ h => num_kept hg j u h) (G_pick hG (by decide) hl hg hr)
    · obtain ⟨v8, s8, b8, hb8, rfl, hc8⟩ := slot_dep hS hi ho 8 15 _ rfl rfl (by obtain rfl := Option.some.inj ho; kernel_rfl)
      obtain ⟨v10, s10, x10, hx10, rfl⟩ := slot_dep hS hi ho 10 17 _ rfl rfl (by obtain rfl := Option.some.inj ho; kernel_rfl)
      obtain rfl := Option.some.inj ho
      clear hS
      unfold Oper.wp
      simp [execOp, Act.eval, s8, s10]
      go_simp
      rw [if_pos (by omega)]
      exact hK _ _ (fun _ _ => by show ∃ b i, b ≠ R ∧ i ≤ 6 ∧ Value.pointer _ = .pointer (some ⟨b, i, none⟩) ∧ P7 _ b; exact ⟨b8, x10, hb8, by omega, rfl, hc8⟩) (fun _ _ _ h => h) (G_keep hG (by decide) id (fun _ h => h))
    · obtain ⟨v11, s11, b11, j11, hb11, hj11, rfl, hc11⟩ := slot_dep hS hi ho 11 18 _ rfl rfl (by obtain rfl := Option.some.inj ho; kernel_rfl)
      obtain rfl := Option.some.inj ho
      clear hS
      obtain ⟨y, hy, hcy⟩ := p7_cell hj11 hc11
      unfold Oper.wp
      simp [execOp, Act.eval, s11]
      go_simp
      exact hK _ _ (fun _ _ => by show ∃ x : Nat, x ≤ 4 ∧ Value.int .i64 _ = Value.int .i64 (x : Int); exact ⟨y, hy, rfl⟩) (fun _ _ _ h => h) (G_keep hG (by decide) id (fun _ h => h))
    · obtain ⟨v7, s7, b7, hb7, rfl, hc7⟩ := slot_dep hS hi ho 7 14 _ rfl rfl (by obtain rfl := Option.some.inj ho; kernel_rfl)
      obtain ⟨v12, s12, x12, hx12, rfl⟩ := slot_dep hS hi ho 12 19 _ rfl rfl (by obtain rfl := Option.some.inj ho; kernel_rfl)
      obtain rfl := Option.some.inj ho
      clear hS
      unfold Oper.wp
      simp [execOp, Act.eval, s7, s12]
      go_simp
      rw [if_pos (by omega)]
      exact hK _ _ (fun _ _ => by show ∃ b i, b ≠ R ∧ i ≤ 4 ∧ Value.pointer _ = .pointer (some ⟨b, i, none⟩) ∧ VIn _ b; exact ⟨b7, x12, hb7, by omega, rfl, hc7⟩) (fun _ _ _ h => h) (G_keep hG (by decide) id (fun _ h => h))
    · obtain ⟨v13, s13, b13, j13, hb13, hj13, rfl, hc13⟩ := slot_dep hS hi ho 13 20 _ rfl rfl (by obtain rfl := Option.some.inj ho; kernel_rfl)
      obtain rfl := Option.some.inj ho
      clear hS
      obtain ⟨y, hy, hcy⟩ := v_cell hj13 hc13
      unfold Oper.wp
      simp [execOp, Act.eval, s13]
      go_simp
      exact hK _ _ (fun _ _ => by show ∃ x : Int, (-2000000 ≤ x ∧ x ≤ 2000000) ∧ Value.int .i64 _ = Value.int .i64 x; exact ⟨y, hy, rfl⟩) (fun _ _ _ h => h) (G_keep hG (by decide) id (fun _ h => h))
    · obtain rfl := Option.some.inj ho
      clear hS
      unfold Oper.wp
      simp [execOp, Act.eval]
      go_simp
      exact hK _ _ (fun _ _ => by show ∃ b, b ≠ R ∧ Value.slice _ 5 5 = .slice (some ⟨b, 0, none⟩) 5 5 ∧ Q5 _ b; exact ⟨wx.heap.size, (by have := hG.2.1.lt; omega), rfl, heap_alloc_new _ _⟩) (fun j u _ h => num_kept (World.grownBy_alloc _ _ _) j u h) (G_keep hG (by decide) (fun h => h.trans (World.grownBy_alloc _ _ _)) (fun _ h => h.kept (World.grownBy_alloc _ _ none) (by simp)))
    · obtain rfl := Option.some.inj ho
      clear hS
      unfold Oper.wp
      simp [execOp, Act.eval]
      go_simp
      exact hK _ _ (fun _ _ => by show ∃ b, b ≠ R ∧ Value.slice _ 6 6 = .slice (some ⟨b, 0, none⟩) 6 6 ∧ P6 _ b; exact ⟨wx.heap.size, (by have := hG.2.1.lt; omega), rfl, heap_alloc_new _ _⟩) (fun j u _ h => num_kept (World.grownBy_alloc _ _ _) j u h) (G_keep hG (by decide) (fun h => h.trans (World.grownBy_alloc _ _ _)) (fun _ h => h.kept (World.grownBy_alloc _ _ none) (by simp)))
    · obtain rfl := Option.some.inj ho
      clear hS
      unfold Oper.wp
      simp [execOp, Act.eval, h4]
      exact hK _ _ (fun _ _ => rfl) (fun _ _ _ h => h) (G_keep hG (by decide) id (fun _ h => h))
    · obtain ⟨v17, s17, rfl⟩ := slot_dep hS hi ho 17 24 _ rfl rfl (by obtain rfl := Option.some.inj ho; kernel_rfl)
      obtain rfl := Option.some.inj ho
      clear hS
      unfold Oper.wp
      simp [execOp]
      go_simp
      refine (pick_any _ _ _ _ hG.2.1 (pick_left (by decide) hl _) (by omega) (by omega)).mono ?_
      rintro e w1 ⟨v, rfl, hv, hg, hr⟩
      exact hK _ _ (fun _ _ => by show ∃ x : Nat, x ≤ 5 ∧ Value.int .i64 _ = Value.int .i64 (x : Int); exact ⟨v, by omega, rfl⟩) (fun j u _ h => num_kept hg j u h) (G_pick hG (by decide) hl hg hr)
    · obtain ⟨v16, s16, b16, hb16, rfl, hc16⟩ := slot_dep hS hi ho 16 23 _ rfl rfl (by obtain rfl := Option.some.inj ho; kernel_rfl)
      obtain ⟨v18, s18, x18, hx18, rfl⟩ := slot_dep hS hi ho 18 25 _ rfl rfl (by obtain rfl := Option.some.inj ho; kernel_rfl)
      obtain rfl := Option.some.inj ho
      clear hS
      unfold Oper.wp
      simp [execOp, Act.eval, s16, s18]
      go_simp
      rw [if_pos (by omega)]
      exact hK _ _ (fun _ _ => by show ∃ b i, b ≠ R ∧ i ≤ 5 ∧ Value.pointer _ = .pointer (some ⟨b, i, none⟩) ∧ P6 _ b; exact ⟨b16, x18, hb16, by omega, rfl, hc16⟩) (fun _ _ _ h => h) (G_keep hG (by decide) id (fun _ h => h))
    · obtain ⟨v19, s19, b19, j19, hb19, hj19, rfl, hc19⟩ := slot_dep hS hi ho 19 26 _ rfl rfl (by obtain rfl := Option.some.inj ho; kernel_rfl)
      obtain rfl := Option.some.inj ho
      clear hS
      obtain ⟨y, hy, hcy⟩ := p6_cell hj19 hc19
      unfold Oper.wp
      simp [execOp, Act.eval, s19]
      go_simp
      exact hK _ _ (fun _ _ => by show ∃ x : Nat, x ≤ 4 ∧ Value.int .i64 _ = Value.int .i64 (x : Int); exact ⟨y, hy, rfl⟩) (fun _ _ _ h => h) (G_keep hG (by decide) id (fun _ h => h))
    · obtain ⟨v15, s15, b15, hb15, rfl, hc15⟩ := slot_dep hS hi ho 15 22 _ rfl rfl (by obtain rfl := Option.some.inj ho; kernel_rfl)
      obtain ⟨v20, s20, x20, hx20, rfl⟩ := slot_dep hS hi ho 20 27 _ rfl rfl (by obtain rfl := Option.some.inj ho; kernel_rfl)
      obtain rfl := Option.some.inj ho
      clear hS
      unfold Oper.wp
      simp [execOp, Act.eval, s15, s20]
      go_simp
      rw [if_pos (by omega)]
      exact hK _ _ (fun _ _ => by show ∃ b i, b ≠ R ∧ i ≤ 4 ∧ Value.pointer _ = .pointer (some ⟨b, i, none⟩) ∧ Q5 _ b; exact ⟨b15, x20, hb15, by omega, rfl, hc15⟩) (fun _ _ _ h => h) (G_keep hG (by decide) id (fun _ h => h))
    · obtain ⟨v21, s21, b21, j21, hb21, hj21, rfl, hc21⟩ := slot_dep hS hi ho 21 28 _ rfl rfl (by obtain rfl := Option.some.inj ho; kernel_rfl)
      obtain rfl := Option.some.inj ho
      clear hS
      obtain ⟨y, hy, hcy⟩ := q5_cell hj21 hc21
      unfold Oper.wp
      simp [execOp, Act.eval, s21]
      go_simp
      exact hK _ _ (fun _ _ => by show ∃ c : UInt8, sgBad c = false ∧ Value.int .u8 _ = Value.int .u8 (c.toNat : Int); exact ⟨y, hy, rfl⟩) (fun _ _ _ h => h) (G_keep hG (by decide) id (fun _ h => h))
    · obtain ⟨v14, s14, x14, hx14, rfl⟩ := slot_dep hS hi ho 14 21 _ rfl rfl (by obtain rfl := Option.some.inj ho; kernel_rfl)
      obtain rfl := Option.some.inj ho
      clear hS
      unfold Oper.wp
      simp [execOp, Act.eval, s14]
      exact hK _ _ (fun _ _ => by show ∃ x : Int, (-2000000 ≤ x ∧ x ≤ 2000000) ∧ Value.int .i64 _ = Value.int .i64 x; exact ⟨x14, hx14, rfl⟩) (fun _ _ _ h => h) (G_keep hG (by decide) id (fun _ h => h))
    · obtain ⟨v22, s22, x22, hx22, rfl⟩ := slot_dep hS hi ho 22 29 _ rfl rfl (by obtain rfl := Option.some.inj ho; kernel_rfl)
      obtain rfl := Option.some.inj ho
      clear hS
      unfold Oper.wp
      simp [execOp, Act.eval, s22]
      exact hK _ _ (fun _ _ => by show ∃ c : UInt8, sgBad c = false ∧ Value.int .u8 _ = Value.int .u8 (c.toNat : Int); exact ⟨x22, hx22, rfl⟩) (fun _ _ _ h => h) (G_keep hG (by decide) id (fun _ h => h))
  case done =>
    intro listed a wx hS hr
    have hG : numG _ R 1000 listed wx := hS.2.2.2.2
    have hsz : a.tmps.size = 30 := hS.2.1
    have hd := hS.1
    obtain ⟨v23, h2, n23, hn23, rfl⟩ := hS.2.2.2.1 23 _ 2 rfl (ready_core id hr hG.2.2 (depsR_spec (by kernel_rfl)) 25 23 (by decide) _ rfl) rfl
    obtain ⟨v24, h3, c24, hc24, rfl⟩ := hS.2.2.2.1 24 _ 3 rfl (ready_core id hr hG.2.2 (depsR_spec (by kernel_rfl)) 25 24 (by decide) _ rfl) rfl
    clear hS hr
    obtain ⟨tm, df⟩ := a
    simp only at hsz hd h2 h3
    subst hd
    obtain ⟨x0, x1, x2, x3, x4, x5, x6, x7, x8, x9, x10, x11, x12, x13, x14, x15, x16, x17, x18, x19, x20, x21, x22, x23, x24, x25, x26, x27, x28, x29, rfl⟩ := arr30 tm hsz
    simp at h2 h3
    subst h2 h3
    refine hKK _ _ ?_
    have hG1 := hG.1
    have HBF := Lib.hid (HB1.out.drew.grown hG1 (by have := HB1.out.size; simp; omega) (by intro q hq; injection hq with hq; omega))
    clear hG hG1
    go_wp2
    go_ret2
    exact ⟨n23, c24, rfl, hn23, hc24, by rw [hRR]; exact HBF.out⟩
  case start =>
    refine ⟨rfl, rfl, fun _ _ => rfl, ?_, grown_refl _ _, ?_, rfl⟩
    · intro i o t ho hl hd
      exfalso
      have hlt : i < 25 := by have := (Array.getElem?_eq_some_iff.1 ho).1; simpa using this
      have hz : (Array.replicate 25 false).getD i true = true := hl
      rw [Array.getD_eq_getD_getElem?, Array.getElem?_replicate, if_pos hlt] at hz
      cases hz
    · exact (HR1.out.kept (grown_drewN (grown_refl _ none) 1) (by simp)).less (k' := 1000 + 4) (by omega)
end Go.Proofs.YtfidcfjmmhghjaaDoor
