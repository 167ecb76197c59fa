/- The drawn shapes: what the generator hands on, for every state of the reader and every order of its first region. -/
import Derived.Test.YtfidcfjmmhghjaaDraw
import Derived.Test.YtfidcfjmmhghjaaShape
import Derived.Test.YtfidcfjmmhghjaaAnyOrd2
namespace Go.Proofs.Ytfidcfjmmhghjaa
open Go.RowKit

def ShapePost (w : World) (R k K : Nat) (e : Ending) (w' : World) : Prop :=
  ∃ (W : Int) (b : UInt8) (L : Bool), e = .returned (.agg #[.int .i64 W, .int .u8 (b.toNat : Int), .bool L]) ∧ -1 ≤ W ∧ W ≤ 41 ∧ w.grownBy w' (some R) ∧ Rdr w' R (k - K)

/-- Block b holds a shape that is drawn or empty. -/
def ShapeIn (w : World) (b : Nat) : Prop := ∃ (W : Int) (c : UInt8) (L : Bool), w.heap[b]? = some (.cells #[.int .i64 W, .int .u8 (c.toNat : Int), .bool L] 32 (0, 0)) ∧ -1 ≤ W ∧ W ≤ 41
def IntsIn (w : World) (b : Nat) : Prop := ∃ x : Nat, x ≤ 40 ∧ w.heap[b]? = some (.cells #[.int .i64 (x : Int), .int .i64 40] 3 (0, 0))
def BytesIn (w : World) (b : Nat) : Prop := w.heap[b]? = some (.cells #[.int .u8 32, .int .u8 46, .int .u8 48] 5 (0, 0))

def shapeSlot (R B : Nat) : Nat → World → Value → Prop
  | 0, _, v => v = .pointer (some ⟨R, 0, none⟩)
  | 1, _, v => ∃ x : Nat, x ≤ 8 ∧ v = .int .i64 (x : Int)
  | 2, w, v => ∃ b, b ≠ R ∧ v = .slice (some ⟨b, 0, none⟩) 2 2 ∧ IntsIn w b
  | 3, _, v => v = .pointer (some ⟨R, 0, none⟩)
  | 4, _, v => ∃ x : Nat, x ≤ 8 ∧ v = .int .i64 (x : Int)
  | 5, _, v => ∃ x : Nat, x ≤ 1 ∧ v = .int .i64 (x : Int)
  | 6, w, v => ∃ b i, b ≠ R ∧ i ≤ 1 ∧ v = .pointer (some ⟨b, i, none⟩) ∧ IntsIn w b
  | 7, _, v => ∃ x : Nat, x ≤ 40 ∧ v = .int .i64 (x : Int)
  | 8, w, v => ∃ b, b ≠ R ∧ v = .slice (some ⟨b, 0, none⟩) 3 3 ∧ BytesIn w b
  | 9, _, v => v = .pointer (some ⟨R, 0, none⟩)
  | 10, _, v => ∃ x : Nat, x ≤ 2 ∧ v = .int .i64 (x : Int)
  | 11, w, v => ∃ b i, b ≠ R ∧ i ≤ 2 ∧ v = .pointer (some ⟨b, i, none⟩) ∧ BytesIn w b
  | 12, _, v => ∃ c : UInt8, v = .int .u8 (c.toNat : Int)
  | 13, _, v => v = .pointer (some ⟨R, 0, none⟩)
  | 14, _, v => ∃ x : Nat, x ≤ 1 ∧ v = .int .i64 (x : Int)
  | 15, _, v => ∃ L : Bool, v = .bool L
  | 16, _, v => ∃ (x : Nat) (c : UInt8) (L : Bool), x ≤ 40 ∧ v = .agg #[.int .i64 (x : Int), .int .u8 (c.toNat : Int), .bool L]
  | 17, w, v => ∃ b, b ≠ R ∧ B ≤ b ∧ v = .pointer (some ⟨b, 0, none⟩) ∧ ShapeIn w b
  | _, _, _ => True

/-- Every block but the reader's that stood stands as it was. -/
theorem slot_kept {R B : Nat} {w w' : World} (hg : w.grownBy w' (some R)) (j : Nat) (v : Value) (h : shapeSlot R B j w v) : shapeSlot R B j w' v := by
  have hk : ∀ b, b ≠ R → ∀ o, w.heap[b]? = some o → w'.heap[b]? = some o := fun b hb o ho => by
    have hlt : b < w.heap.size := (Array.getElem?_eq_some_iff.1 ho).1
    rw [hg.block b hlt (by intro e; injection e with e; exact hb e)]
    exact ho
  unfold shapeSlot at h ⊢
  split at h
  all_goals first
    | exact h
    | (obtain ⟨b, hb, hv, x, hx, hc⟩ := h; exact ⟨b, hb, hv, x, hx, hk b hb _ hc⟩)
    | (obtain ⟨b, i, hb, hi, hv, x, hx, hc⟩ := h; exact ⟨b, i, hb, hi, hv, x, hx, hk b hb _ hc⟩)
    | (obtain ⟨b, hb, hv, hc⟩ := h; exact ⟨b, hb, hv, hk b hb _ hc⟩)
    | (obtain ⟨b, i, hb, hi, hv, hc⟩ := h; exact ⟨b, i, hb, hi, hv, hk b hb _ hc⟩)
    | (obtain ⟨b, hb, hB, hv, W, c, L, hc, h1, h2⟩ := h; exact ⟨b, hb, hB, hv, W, c, L, hk b hb _ hc, h1, h2⟩)
theorem arr36 (a : Array Value) (h : a.size = 36) : ∃ x0 x1 x2 x3 x4 x5 x6 x7 x8 x9 x10 x11 x12 x13 x14 x15 x16 x17 x18 x19 x20 x21 x22 x23 x24 x25 x26 x27 x28 x29 x30 x31 x32 x33 x34 x35 : Value, a = #[x0, x1, x2, x3, x4, x5, x6, x7, x8, x9, x10, x11, x12, x13, x14, x15, x16, x17, x18, x19, x20, x21, x22, x23, x24, x25, x26, x27, x28, x29, x30, x31, x32, x33, x34, x35] := by
  obtain ⟨l⟩ := a
  rw [List.size_toArray] at h
  rcases l with _ | ⟨x0, l⟩
  · simp at h
  rcases l with _ | ⟨x1, l⟩
  · simp at h
  rcases l with _ | ⟨x2, l⟩
  · simp at h
  rcases l with _ | ⟨x3, l⟩
  · simp at h
  rcases l with _ | ⟨x4, l⟩
  · simp at h
  rcases l with _ | ⟨x5, l⟩
  · simp at h
  rcases l with _ | ⟨x6, l⟩
  · simp at h
  rcases l with _ | ⟨x7, l⟩
  · simp at h
  rcases l with _ | ⟨x8, l⟩
  · simp at h
  rcases l with _ | ⟨x9, l⟩
  · simp at h
  rcases l with _ | ⟨x10, l⟩
  · simp at h
  rcases l with _ | ⟨x11, l⟩
  · simp at h
  rcases l with _ | ⟨x12, l⟩
  · simp at h
  rcases l with _ | ⟨x13, l⟩
  · simp at h
  rcases l with _ | ⟨x14, l⟩
  · simp at h
  rcases l with _ | ⟨x15, l⟩
  · simp at h
  rcases l with _ | ⟨x16, l⟩
  · simp at h
  rcases l with _ | ⟨x17, l⟩
  · simp at h
  rcases l with _ | ⟨x18, l⟩
  · simp at h
  rcases l with _ | ⟨x19, l⟩
  · simp at h
  rcases l with _ | ⟨x20, l⟩
  · simp at h
  rcases l with _ | ⟨x21, l⟩
  · simp at h
  rcases l with _ | ⟨x22, l⟩
  · simp at h
  rcases l with _ | ⟨x23, l⟩
  · simp at h
  rcases l with _ | ⟨x24, l⟩
  · simp at h
  rcases l with _ | ⟨x25, l⟩
  · simp at h
  rcases l with _ | ⟨x26, l⟩
  · simp at h
  rcases l with _ | ⟨x27, l⟩
  · simp at h
  rcases l with _ | ⟨x28, l⟩
  · simp at h
  rcases l with _ | ⟨x29, l⟩
  · simp at h
  rcases l with _ | ⟨x30, l⟩
  · simp at h
  rcases l with _ | ⟨x31, l⟩
  · simp at h
  rcases l with _ | ⟨x32, l⟩
  · simp at h
  rcases l with _ | ⟨x33, l⟩
  · simp at h
  rcases l with _ | ⟨x34, l⟩
  · simp at h
  rcases l with _ | ⟨x35, l⟩
  · simp at h
  rcases l with _ | ⟨y, l⟩
  · exact ⟨x0, x1, x2, x3, x4, x5, x6, x7, x8, x9, x10, x11, x12, x13, x14, x15, x16, x17, x18, x19, x20, x21, x22, x23, x24, x25, x26, x27, x28, x29, x30, x31, x32, x33, x34, x35, rfl⟩
  · simp at h

/-- How many picks are not done. -/
def leftPicks (listed : Array Bool) : Nat := (if listed.getD 1 true then 0 else 1) + (if listed.getD 4 true then 0 else 1) + (if listed.getD 10 true then 0 else 1) + (if listed.getD 14 true then 0 else 1)
def shapeG (W0 : World) (R k : Nat) (listed : Array Bool) (w : World) : Prop := W0.grownBy w (some R) ∧ Rdr w R (k + leftPicks listed) ∧ listed.size = 19

theorem region_slots0 {P : Program} {md : Region.Mode} {ops : Array Oper} {Q : Exit → Act → World → Prop} {a0 : Act} {w0 : World} {fuel : Nat} {listed : Array Bool} (Pr : Nat → Nat → World → Value → Prop) (G : World → Array Bool → World → Prop) (n : Nat)
    (hB : slotsB ops n = true) (hn : n ≤ a0.tmps.size)
    (hstep : ∀ (listed : Array Bool) (a : Act) (w : World) (i : Nat) (o : Oper), SlotsAt ops a0 (Pr w0.heap.size) (G w0) listed a w → ops[i]? = some o → i ∈ Region.ready md ops listed →
      ∀ K : Act → World → Prop, (∀ v w', (∀ t, o.dst = some t → Pr w0.heap.size i w' v) → (∀ (j : Nat) u, listed.getD j true = true → Pr w0.heap.size j w u → Pr w0.heap.size j w' u) → G w0 (listed.setIfInBounds i true) w' → K (a.put o.dst v) w') → o.wp P a w K Q)
    (hdone : ∀ listed a w, SlotsAt ops a0 (Pr w0.heap.size) (G w0) listed a w → Region.ready md ops listed = [] → Q .normal a w)
    (hf : listed.toList.count false ≤ fuel) (h : SlotsAt ops a0 (Pr w0.heap.size) (G w0) listed a0 w0) : wpAny P md ops Q fuel listed a0 w0 :=
  region_slots a0 (Pr w0.heap.size) (G w0) (slotsB_guard hB) (slotsB_dst hB) (fun i o t ho ht => by have := slotsB_size hB i o t ho ht; omega) hstep hdone fuel listed a0 w0 hf h

theorem left_same {l : Array Bool} {i : Nat} (h : i ≠ 1 ∧ i ≠ 4 ∧ i ≠ 10 ∧ i ≠ 14) : leftPicks (l.setIfInBounds i true) = leftPicks l := by
  unfold leftPicks
  rw [getD_set_ne true h.1, getD_set_ne true h.2.1, getD_set_ne true h.2.2.1, getD_set_ne true h.2.2.2]
theorem getD_set_eq {l : Array Bool} {i : Nat} : (l.setIfInBounds i true).getD i true = true := by
  rw [Array.getD_eq_getD_getElem?]
  by_cases h : i < l.size
  · rw [Array.getElem?_setIfInBounds_self, if_pos h]; rfl
  · rw [Array.getElem?_setIfInBounds_self, if_neg h]; rfl
theorem left_pick {l : Array Bool} {i : Nat} (h : i = 1 ∨ i = 4 ∨ i = 10 ∨ i = 14) (hl : l.getD i true = false) : leftPicks l = leftPicks (l.setIfInBounds i true) + 1 := by
  unfold leftPicks
  rcases h with rfl | rfl | rfl | rfl
  all_goals
    rw [getD_set_eq, hl]
    repeat rw [getD_set_ne true (by decide)]
    simp only [if_true, Bool.false_eq_true, if_false]
    try omega
theorem G_keep {W0 : World} {R k : Nat} {l : Array Bool} {w w' : World} {i : Nat} (h : shapeG W0 R k l w) (hi : i ≠ 1 ∧ i ≠ 4 ∧ i ≠ 10 ∧ i ≠ 14) (hg : W0.grownBy w (some R) → W0.grownBy w' (some R)) (hr : ∀ k, Rdr w R k → Rdr w' R k) : shapeG W0 R k (l.setIfInBounds i true) w' :=
  ⟨hg h.1, by rw [left_same hi]; exact hr _ h.2.1, by rw [Array.size_setIfInBounds]; exact h.2.2⟩
theorem G_pick {W0 : World} {R k : Nat} {l : Array Bool} {w w' : World} {i : Nat} (h : shapeG W0 R k l w) (hi : i = 1 ∨ i = 4 ∨ i = 10 ∨ i = 14) (hl : l.getD i true = false) (hg : w.grownBy w' (some R)) (hr : Rdr w' R (k + leftPicks l - 1)) : shapeG W0 R k (l.setIfInBounds i true) w' :=
  ⟨h.1.trans hg, by have := left_pick hi hl; rw [this] at hr; exact hr, by rw [Array.size_setIfInBounds]; exact h.2.2⟩
theorem pick_left {l : Array Bool} {i : Nat} (h : i = 1 ∨ i = 4 ∨ i = 10 ∨ i = 14) (hl : l.getD i true = false) (k : Nat) : 1 ≤ k + leftPicks l := by have := left_pick h hl; omega

theorem slot_dep {ops : Array Oper} {a0 a : Act} {Pr : Nat → World → Value → Prop} {G : Array Bool → World → Prop} {listed : Array Bool} {w : World} {md : Region.Mode} {i : Nat} {o : Oper}
    (hS : SlotsAt ops a0 Pr G listed a w) (hi : i ∈ Region.ready md ops listed) (ho : ops[i]? = some o) (j t : Nat) (oj : Oper) (hj : ops[j]? = some oj) (ht : oj.dst = some t) (he : (o.after.any fun e => Region.binds md e && e.on == j) = true) : ∃ v, a.tmps[t]? = some v ∧ Pr j w v := by
  rw [Array.any_eq_true'] at he
  obtain ⟨e, hm, hb⟩ := he
  rw [Bool.and_eq_true] at hb
  have h1 := dep_done hi ho e hm hb.1
  have : e.on = j := by simpa using hb.2
  rw [this] at h1
  exact hS.2.2.2.1 j oj t hj (getD_up h1) ht
theorem slot_old {ops : Array Oper} {a0 a : Act} {Pr : Nat → World → Value → Prop} {G : Array Bool → World → Prop} {listed : Array Bool} {w : World}
    (hS : SlotsAt ops a0 Pr G listed a w) (t : Nat) (h : (ops.toList.all fun o => o.dst != some t) = true) : a.tmps[t]? = a0.tmps[t]? := by
  refine hS.2.2.1 t (fun i o ho e => ?_)
  rw [List.all_eq_true] at h
  have := h o (Array.mem_toList_iff.2 (Array.mem_of_getElem? ho))
  rw [e] at this
  simp at this

theorem ints_cell {w : World} {b j y : Nat} (hj : j ≤ 1) (hy : y ≤ 40) (h : w.heap[b]? = some (.cells #[.int .i64 (y : Int), .int .i64 40] 3 (0, 0))) : ∃ x : Nat, x ≤ 40 ∧ w.cell? ⟨b, j, none⟩ = some (.int .i64 (x : Int)) := by
  rcases (show j = 0 ∨ j = 1 by omega) with rfl | rfl
  · exact ⟨y, hy, by rw [cell_of_row _ _ _ _ _ _ h]; rfl⟩
  · exact ⟨40, by omega, by rw [cell_of_row _ _ _ _ _ _ h]; rfl⟩
theorem bytes_cell {w : World} {b j : Nat} (hj : j ≤ 2) (h : BytesIn w b) : ∃ c : UInt8, w.cell? ⟨b, j, none⟩ = some (.int .u8 (c.toNat : Int)) := by
  unfold BytesIn at h
  rcases (show j = 0 ∨ j = 1 ∨ j = 2 by omega) with rfl | rfl | rfl
  · exact ⟨32, by rw [cell_of_row _ _ _ _ _ _ h]; rfl⟩
  · exact ⟨46, by rw [cell_of_row _ _ _ _ _ _ h]; rfl⟩
  · exact ⟨48, by rw [cell_of_row _ _ _ _ _ _ h]; rfl⟩

theorem set_shape {w : World} {b : Nat} {W : Int} {c : UInt8} {L : Bool} (h : w.heap[b]? = some (.cells #[.int .i64 W, .int .u8 (c.toNat : Int), .bool L] 32 (0, 0))) (W' : Int) (c' : UInt8) (L' : Bool) :
    (((w.setCell ⟨b, 0, none⟩ (.int .i64 W')).setCell ⟨b, 1, none⟩ (.int .u8 (c'.toNat : Int))).setCell ⟨b, 2, none⟩ (.bool L')).heap[b]? = some (.cells #[.int .i64 W', .int .u8 (c'.toNat : Int), .bool L'] 32 (0, 0)) ∧
    w.grownBy (((w.setCell ⟨b, 0, none⟩ (.int .i64 W')).setCell ⟨b, 1, none⟩ (.int .u8 (c'.toNat : Int))).setCell ⟨b, 2, none⟩ (.bool L')) (some b) := by
  have h1 := heap_setCell_same w b 0 _ _ (.int .i64 W') h
  have h2 := heap_setCell_same _ b 1 _ _ (.int .u8 (c'.toNat : Int)) h1
  have h3 := heap_setCell_same _ b 2 _ _ (.bool L') h2
  exact ⟨h3, grown_setCell (grown_setCell (grown_setCell (grown_refl _ _) _ _) _ _) _ _⟩
theorem grown_set {W0 w w' : World} {R b : Nat} (h : W0.grownBy w (some R)) (hg : w.grownBy w' (some b)) (hb : W0.heap.size ≤ b) : W0.grownBy w' (some R) :=
  ⟨hg.os.trans h.os, hg.tape.trans h.tape, hg.output.trans h.output, Nat.le_trans h.size hg.size, fun i hi hn => (hg.block i (Nat.lt_of_lt_of_le hi h.size) (by intro e; injection e with e; omega)).trans (h.block i hi hn)⟩
theorem slot_set {R B b : Nat} {w w' : World} {C : Array Value} {W : Int} {c : UInt8} {L : Bool} (hb : w.heap[b]? = some (.cells C 32 (0, 0))) (hn : w'.heap[b]? = some (.cells #[.int .i64 W, .int .u8 (c.toNat : Int), .bool L] 32 (0, 0))) (h1 : -1 ≤ W) (h2 : W ≤ 41) (hg : w.grownBy w' (some b)) (j : Nat) (v : Value) (h : shapeSlot R B j w v) : shapeSlot R B j w' v := by
  have hk : ∀ d, d ≠ b → ∀ o, w.heap[d]? = some o → w'.heap[d]? = some o := fun d hd o ho => by
    have hlt : d < w.heap.size := (Array.getElem?_eq_some_iff.1 ho).1
    rw [hg.block d hlt (by intro e; injection e with e; exact hd e)]
    exact ho
  have ki : ∀ d, IntsIn w d → IntsIn w' d := fun d ⟨x, hx, hc⟩ => ⟨x, hx, hk d (by intro e; subst e; rw [hb] at hc; injection hc with hc; injection hc with _ hc; exact absurd hc (by decide)) _ hc⟩
  have kb : ∀ d, BytesIn w d → BytesIn w' d := fun d hc => hk d (by intro e; subst e; unfold BytesIn at hc; rw [hb] at hc; injection hc with hc; injection hc with _ hc; exact absurd hc (by decide)) _ hc
  have ks : ∀ d, ShapeIn w d → ShapeIn w' d := fun d ⟨W', c', L', hc, q1, q2⟩ => by
    by_cases e : d = b
    · subst e; exact ⟨W, c, L, hn, h1, h2⟩
    · exact ⟨W', c', L', hk d e _ hc, q1, q2⟩
  unfold shapeSlot at h ⊢
  split at h
  all_goals first
    | exact h
    | (obtain ⟨d, hd, hv, hx⟩ := h; exact ⟨d, hd, hv, ki d hx⟩)
    | (obtain ⟨d, hd, hv, hx⟩ := h; exact ⟨d, hd, hv, kb d hx⟩)
    | (obtain ⟨d, i, hd, hi, hv, hx⟩ := h; exact ⟨d, i, hd, hi, hv, ki d hx⟩)
    | (obtain ⟨d, i, hd, hi, hv, hx⟩ := h; exact ⟨d, i, hd, hi, hv, kb d hx⟩)
    | (obtain ⟨d, hd, hB, hv, hx⟩ := h; exact ⟨d, hd, hB, hv, ks d hx⟩)
theorem ready_none {md : Region.Mode} {ops : Array Oper} {listed : Array Bool} (hr : Region.ready md ops listed = []) (i : Nat) (o : Oper) (ho : ops[i]? = some o) (ha : o.after = #[]) : listed.getD i true = true := by
  cases hx : listed.getD i true with
  | true => rfl
  | false =>
    have : i ∈ Region.ready md ops listed := mem_ready.2 ⟨hx, o, ho, by rw [ha]; intro e he; simp at he⟩
    rw [hr] at this
    cases this

set_option maxRecDepth 100000 in
set_option maxHeartbeats 1600000 in
theorem shape_any (w : World) (R k : Nat) (n : Int) (h : Rdr w R k) (hk : 20 ≤ k) (hn : 0 ≤ n) (hn' : n ≤ 100) :
    Calls Try.prog 11 #[.pointer (some ⟨R, 0, none⟩), .int .i64 n] w (ShapePost w R k 8) := by
  have hRl := h.lt
  go_enter Try.func11, Try.ntmps11
  go_wp2_with fail
  refine wp_region_any (by kernel_rfl) ?_
  rename_i KK hKK
  refine region_slots0 (shapeSlot R) (fun W0 => shapeG W0 R (k - 4)) 36 (by kernel_rfl) (Nat.le_refl 36) ?step ?done (by decide) ?start
  case step =>
    intro listed a wx i o hS ho hi K hK
    have hlt : i < 19 := by have := (Array.getElem?_eq_some_iff.1 ho).1; simpa using this
    have h0 := slot_old hS 0 (by kernel_rfl)
    have hG : shapeG _ R (k - 4) listed wx := hS.2.2.2.2
    have hl := (mem_ready.1 hi).1
    rcases (show i = 0 ∨ i = 1 ∨ i = 2 ∨ i = 3 ∨ i = 4 ∨ i = 5 ∨ i = 6 ∨ i = 7 ∨ i = 8 ∨ i = 9 ∨ i = 10 ∨ i = 11 ∨ i = 12 ∨ i = 13 ∨ i = 14 ∨ i = 15 ∨ i = 16 ∨ i = 17 ∨ i = 18 by omega) with rfl | rfl | rfl | rfl | rfl | rfl | rfl | rfl | rfl | rfl | rfl | rfl | rfl | rfl | rfl | rfl | rfl | rfl | rfl
    · obtain rfl := Option.some.inj ho
      clear hS
      unfold Oper.wp
      simp [execOp, Act.eval, h0]
      exact hK _ _ (fun _ _ => rfl) (fun _ _ _ h => h) (G_keep hG (by decide) id (fun _ h => h))
    · obtain ⟨v0, h6, rfl⟩ := slot_dep hS hi ho 0 6 _ rfl rfl (by obtain rfl := Option.some.inj ho; kernel_rfl)
      obtain rfl := Option.some.inj ho
      clear hS
      unfold Oper.wp
      simp [execOp]
      go_simp
      refine (pick_any _ _ _ _ hG.2.1 (pick_left (by decide) hl _) (by omega) (by omega)).mono ?_
      rintro e w1 ⟨v, rfl, hv, hg, hr⟩
      exact hK _ _ (fun _ _ => by show ∃ x : Nat, x ≤ 8 ∧ Value.int .i64 _ = Value.int .i64 (x : Int); exact ⟨v, by omega, rfl⟩) (fun j u _ h => slot_kept hg j u h) (G_pick hG (by decide) hl hg hr)
    · obtain ⟨v1, h7, x1, hx1, rfl⟩ := slot_dep hS hi ho 1 7 _ rfl rfl (by obtain rfl := Option.some.inj ho; kernel_rfl)
      obtain rfl := Option.some.inj ho
      clear hS
      unfold Oper.wp
      simp [execOp, Act.eval, h7]
      go_simp
      exact hK _ _ (fun _ _ => by show ∃ b, b ≠ R ∧ Value.slice _ 2 2 = .slice (some ⟨b, 0, none⟩) 2 2 ∧ IntsIn _ b; exact ⟨wx.heap.size, (by have := hG.2.1.lt; omega), rfl, x1, by omega, heap_alloc_new _ _⟩) (fun j u _ h => slot_kept (World.grownBy_alloc _ _ _) j u h) (G_keep hG (by decide) (fun h => h.trans (World.grownBy_alloc _ _ _)) (fun _ h => h.kept (World.grownBy_alloc _ _ none) (by simp)))
    · obtain rfl := Option.some.inj ho
      clear hS
      unfold Oper.wp
      simp [execOp, Act.eval, h0]
      exact hK _ _ (fun _ _ => rfl) (fun _ _ _ h => h) (G_keep hG (by decide) id (fun _ h => h))
    · obtain ⟨v3, h9, rfl⟩ := slot_dep hS hi ho 3 9 _ rfl rfl (by obtain rfl := Option.some.inj ho; kernel_rfl)
      obtain rfl := Option.some.inj ho
      clear hS
      unfold Oper.wp
      simp [execOp]
      go_simp
      refine (pick_any _ _ _ _ hG.2.1 (pick_left (by decide) hl _) (by omega) (by omega)).mono ?_
      rintro e w1 ⟨v, rfl, hv, hg, hr⟩
      exact hK _ _ (fun _ _ => by show ∃ x : Nat, x ≤ 8 ∧ Value.int .i64 _ = Value.int .i64 (x : Int); exact ⟨v, by omega, rfl⟩) (fun j u _ h => slot_kept hg j u h) (G_pick hG (by decide) hl hg hr)
    · obtain ⟨v4, h10, x4, hx4, rfl⟩ := slot_dep hS hi ho 4 10 _ rfl rfl (by obtain rfl := Option.some.inj ho; kernel_rfl)
      obtain rfl := Option.some.inj ho
      clear hS
      unfold Oper.wp
      simp [execOp, Act.eval, h10]
      go_simp
      exact hK _ _ (fun _ _ => by show ∃ x : Nat, x ≤ 1 ∧ Value.int .i64 _ = Value.int .i64 (x : Int); exact ⟨x4 / 8, by omega, by rw [IntWalk.i64_in _ (by omega)]; rfl⟩) (fun _ _ _ h => h) (G_keep hG (by decide) id (fun _ h => h))
    · obtain ⟨v2, h8, b2, hb2, rfl, y2, hy2, hc2⟩ := slot_dep hS hi ho 2 8 _ rfl rfl (by obtain rfl := Option.some.inj ho; kernel_rfl)
      obtain ⟨v5, h11, x5, hx5, rfl⟩ := slot_dep hS hi ho 5 11 _ rfl rfl (by obtain rfl := Option.some.inj ho; kernel_rfl)
      obtain rfl := Option.some.inj ho
      clear hS
      unfold Oper.wp
      simp [execOp, Act.eval, h8, h11]
      go_simp
      rw [if_pos (by omega)]
      exact hK _ _ (fun _ _ => by show ∃ b i, b ≠ R ∧ i ≤ 1 ∧ Value.pointer _ = .pointer (some ⟨b, i, none⟩) ∧ IntsIn _ b; exact ⟨b2, x5, hb2, hx5, rfl, y2, hy2, hc2⟩) (fun _ _ _ h => h) (G_keep hG (by decide) id (fun _ h => h))
    · obtain ⟨v6, h12, b6, j6, hb6, hj6, rfl, y6, hy6, hc6⟩ := slot_dep hS hi ho 6 12 _ rfl rfl (by obtain rfl := Option.some.inj ho; kernel_rfl)
      obtain rfl := Option.some.inj ho
      clear hS
      obtain ⟨y, hy, hcy⟩ := ints_cell hj6 hy6 hc6
      unfold Oper.wp
      simp [execOp, Act.eval, h12]
      go_simp
      exact hK _ _ (fun _ _ => by show ∃ x : Nat, x ≤ 40 ∧ Value.int .i64 _ = Value.int .i64 (x : Int); exact ⟨y, hy, rfl⟩) (fun _ _ _ h => h) (G_keep hG (by decide) id (fun _ h => h))
    · obtain rfl := Option.some.inj ho
      clear hS
      unfold Oper.wp
      simp [execOp, Act.eval]
      go_simp
      exact hK _ _ (fun _ _ => by show ∃ b, b ≠ R ∧ Value.slice _ 3 3 = .slice (some ⟨b, 0, none⟩) 3 3 ∧ BytesIn _ b; exact ⟨wx.heap.size, (by have := hG.2.1.lt; omega), rfl, heap_alloc_new _ _⟩) (fun j u _ h => slot_kept (World.grownBy_alloc _ _ _) j u h) (G_keep hG (by decide) (fun h => h.trans (World.grownBy_alloc _ _ _)) (fun _ h => h.kept (World.grownBy_alloc _ _ none) (by simp)))
    · obtain rfl := Option.some.inj ho
      clear hS
      unfold Oper.wp
      simp [execOp, Act.eval, h0]
      exact hK _ _ (fun _ _ => rfl) (fun _ _ _ h => h) (G_keep hG (by decide) id (fun _ h => h))
    · obtain ⟨v9, h15, rfl⟩ := slot_dep hS hi ho 9 15 _ rfl rfl (by obtain rfl := Option.some.inj ho; kernel_rfl)
      obtain rfl := Option.some.inj ho
      clear hS
      unfold Oper.wp
      simp [execOp]
      go_simp
      refine (pick_any _ _ _ _ hG.2.1 (pick_left (by decide) hl _) (by omega) (by omega)).mono ?_
      rintro e w1 ⟨v, rfl, hv, hg, hr⟩
      exact hK _ _ (fun _ _ => by show ∃ x : Nat, x ≤ 2 ∧ Value.int .i64 _ = Value.int .i64 (x : Int); exact ⟨v, by omega, rfl⟩) (fun j u _ h => slot_kept hg j u h) (G_pick hG (by decide) hl hg hr)
    · obtain ⟨v8, h14, b8, hb8, rfl, hc8⟩ := slot_dep hS hi ho 8 14 _ rfl rfl (by obtain rfl := Option.some.inj ho; kernel_rfl)
      obtain ⟨v10, h16, x10, hx10, rfl⟩ := slot_dep hS hi ho 10 16 _ rfl rfl (by obtain rfl := Option.some.inj ho; kernel_rfl)
      obtain rfl := Option.some.inj ho
      clear hS
      unfold Oper.wp
      simp [execOp, Act.eval, h14, h16]
      go_simp
      rw [if_pos (by omega)]
      exact hK _ _ (fun _ _ => by show ∃ b i, b ≠ R ∧ i ≤ 2 ∧ Value.pointer _ = .pointer (some ⟨b, i, none⟩) ∧ BytesIn _ b; exact ⟨b8, x10, hb8, hx10, rfl, hc8⟩) (fun _ _ _ h => h) (G_keep hG (by decide) id (fun _ h => h))
    · obtain ⟨v11, h17, b11, j11, hb11, hj11, rfl, hc11⟩ := slot_dep hS hi ho 11 17 _ rfl rfl (by obtain rfl := Option.some.inj ho; kernel_rfl)
      obtain rfl := Option.some.inj ho
      clear hS
      obtain ⟨y, hcy⟩ := bytes_cell hj11 hc11
      unfold Oper.wp
      simp [execOp, Act.eval, h17]
      go_simp
      exact hK _ _ (fun _ _ => by show ∃ c : UInt8, Value.int .u8 _ = Value.int .u8 (c.toNat : Int); exact ⟨y, rfl⟩) (fun _ _ _ h => h) (G_keep hG (by decide) id (fun _ h => h))
    · obtain rfl := Option.some.inj ho
      clear hS
      unfold Oper.wp
      simp [execOp, Act.eval, h0]
      exact hK _ _ (fun _ _ => rfl) (fun _ _ _ h => h) (G_keep hG (by decide) id (fun _ h => h))
    · obtain ⟨v13, h19, rfl⟩ := slot_dep hS hi ho 13 19 _ rfl rfl (by obtain rfl := Option.some.inj ho; kernel_rfl)
      obtain rfl := Option.some.inj ho
      clear hS
      unfold Oper.wp
      simp [execOp]
      go_simp
      refine (pick_any _ _ _ _ hG.2.1 (pick_left (by decide) hl _) (by omega) (by omega)).mono ?_
      rintro e w1 ⟨v, rfl, hv, hg, hr⟩
      exact hK _ _ (fun _ _ => by show ∃ x : Nat, x ≤ 1 ∧ Value.int .i64 _ = Value.int .i64 (x : Int); exact ⟨v, by omega, rfl⟩) (fun j u _ h => slot_kept hg j u h) (G_pick hG (by decide) hl hg hr)
    · obtain ⟨v14, h20, x14, hx14, rfl⟩ := slot_dep hS hi ho 14 20 _ rfl rfl (by obtain rfl := Option.some.inj ho; kernel_rfl)
      obtain rfl := Option.some.inj ho
      clear hS
      unfold Oper.wp
      simp [execOp, Act.eval, h20]
      go_simp
      exact hK _ _ (fun _ _ => by show ∃ L : Bool, Value.bool _ = .bool L; exact ⟨_, rfl⟩) (fun _ _ _ h => h) (G_keep hG (by decide) id (fun _ h => h))
    · obtain ⟨v7, h13, x7, hx7, rfl⟩ := slot_dep hS hi ho 7 13 _ rfl rfl (by obtain rfl := Option.some.inj ho; kernel_rfl)
      obtain ⟨v12, h18, c12, rfl⟩ := slot_dep hS hi ho 12 18 _ rfl rfl (by obtain rfl := Option.some.inj ho; kernel_rfl)
      obtain ⟨v15, h21, L15, rfl⟩ := slot_dep hS hi ho 15 21 _ rfl rfl (by obtain rfl := Option.some.inj ho; kernel_rfl)
      obtain rfl := Option.some.inj ho
      clear hS
      unfold Oper.wp
      simp [execOp, Act.eval, h13, h18, h21]
      go_simp
      exact hK _ _ (fun _ _ => by show ∃ (x : Nat) (c : UInt8) (L : Bool), x ≤ 40 ∧ Value.agg _ = .agg #[.int .i64 (x : Int), .int .u8 (c.toNat : Int), .bool L]; exact ⟨x7, c12, L15, hx7, rfl⟩) (fun _ _ _ h => h) (G_keep hG (by decide) id (fun _ h => h))
    · obtain rfl := Option.some.inj ho
      clear hS
      unfold Oper.wp
      simp [execOp]
      go_simp
      exact hK _ _ (fun _ _ => by show ∃ b, b ≠ R ∧ _ ≤ b ∧ Value.pointer _ = .pointer (some ⟨b, 0, none⟩) ∧ ShapeIn _ b; exact ⟨wx.heap.size, (by have := hG.2.1.lt; omega), hG.1.size, rfl, 0, 0, false, heap_alloc_new _ _, by decide, by decide⟩) (fun j u _ h => slot_kept (World.grownBy_alloc _ _ _) j u h) (G_keep hG (by decide) (fun h => h.trans (World.grownBy_alloc _ _ _)) (fun _ h => h.kept (World.grownBy_alloc _ _ none) (by simp)))
    · obtain ⟨v17, h5, b17, hb17, hB17, rfl, W17, c17, L17, hc17, hW17, hV17⟩ := slot_dep hS hi ho 17 5 _ rfl rfl (by obtain rfl := Option.some.inj ho; kernel_rfl)
      obtain ⟨v16, h22, x16, c16, L16, hx16, rfl⟩ := slot_dep hS hi ho 16 22 _ rfl rfl (by obtain rfl := Option.some.inj ho; kernel_rfl)
      obtain rfl := Option.some.inj ho
      clear hS
      have hc17' : wx.heap[b17]? = some (.cells #[.int .i64 W17, .int .u8 (c17.toNat : Int), .bool L17] 32 (0, 0)) := hc17
      have e0 : wx.cell? ⟨b17, 0, none⟩ = some (.int .i64 W17) := by rw [cell_of_row _ _ _ _ _ _ hc17]; rfl
      have e1 : wx.cell? ⟨b17, 1, none⟩ = some (.int .u8 (c17.toNat : Int)) := by rw [cell_of_row _ _ _ _ _ _ hc17]; rfl
      have e2 : wx.cell? ⟨b17, 2, none⟩ = some (.bool L17) := by rw [cell_of_row _ _ _ _ _ _ hc17]; rfl
      have f0 : wx.frozen? ⟨b17, 0, none⟩ = false := by simp [World.frozen?, hc17']
      have f1 : wx.frozen? ⟨b17, 1, none⟩ = false := by simp [World.frozen?, hc17']
      have f2 : wx.frozen? ⟨b17, 2, none⟩ = false := by simp [World.frozen?, hc17']
      obtain ⟨hn, hgr⟩ := set_shape hc17 (x16 : Int) c16 L16
      have hRb : R < b17 := by simp only [World.size_alloc] at hB17; omega
      unfold Oper.wp
      simp [execOp, Act.eval, h5, h22]
      go_simp
      exact hK undef _ (fun _ e => by cases e) (fun j u _ h => slot_set hc17 hn (by omega) (by omega) hgr j u h) (G_keep hG (by decide) (fun h => grown_set h hgr hB17) (fun _ h => h.kept hgr (fun g e => by injection e with e; omega)))
  case done =>
    intro listed a wx hS hr
    have hG : shapeG _ R (k - 4) listed wx := hS.2.2.2.2
    have h0 := slot_old hS 0 (by kernel_rfl)
    have h1 := slot_old hS 1 (by kernel_rfl)
    have h4 := slot_old hS 4 (by kernel_rfl)
    have hsz : a.tmps.size = 36 := hS.2.1
    have hd := hS.1
    obtain ⟨v17, h5, b17, hb17, hB17, rfl, W17, c17, L17, hc17, hW17, hV17⟩ := hS.2.2.2.1 17 _ 5 rfl (ready_none hr 17 _ rfl rfl) rfl
    clear hS hr
    obtain ⟨tm, df⟩ := a
    simp only at hsz hd h0 h1 h4 h5
    subst hd
    obtain ⟨x0, x1, x2, x3, x4, x5, x6, x7, x8, x9, x10, x11, x12, x13, x14, x15, x16, x17, x18, x19, x20, x21, x22, x23, x24, x25, x26, x27, x28, x29, x30, x31, x32, x33, x34, x35, rfl⟩ := arr36 tm hsz
    simp at h0 h1 h4 h5
    subst h0 h1 h4 h5
    refine hKK _ _ ?_
    have hRb : R < b17 := by simp only [World.size_alloc] at hB17; omega
    have hwb : w.heap.size < b17 := by simp only [World.size_alloc] at hB17; omega
    have hG1 := hG.1
    have hres : wx.heap[w.heap.size]? = some (.cells #[.int .i64 0, .int .u8 ((0 : UInt8).toNat : Int), .bool false] 32 (0, 0)) := by
      rw [hG1.block w.heap.size (by simp only [World.size_alloc]; omega) (by intro e; injection e with e; omega)]
      exact heap_alloc_new w _
    have hgw : w.grownBy wx (some R) := (grown_drewN (World.grownBy_alloc _ _ (some R)) 1).trans hG1
    have HR := Lib.hid (hG.2.1.less (k' := k - 4) (by omega))
    clear hG hG1 hB17
    go_wp2_with fail
    refine (odd_any _ _ _ _ HR.out (by omega) (by omega) (by omega)).mono ?_
    rintro e w1 ⟨q, rfl, hg1, hr1⟩
    have hsz1 := hgw.size
    have hbx : wx.heap.size ≤ w1.heap.size := hg1.size
    have hs1 : w1.heap[b17]? = some (.cells #[.int .i64 W17, .int .u8 (c17.toNat : Int), .bool L17] 32 (0, 0)) := by
      rw [hg1.block b17 (Array.getElem?_eq_some_iff.1 hc17).1 (by intro e; injection e with e; omega)]; exact hc17
    have hrs1 : w1.heap[w.heap.size]? = some (.cells #[.int .i64 0, .int .u8 ((0 : UInt8).toNat : Int), .bool false] 32 (0, 0)) := by
      rw [hg1.block w.heap.size (Array.getElem?_eq_some_iff.1 hres).1 (by intro e; injection e with e; omega)]; exact hres
    have hgw1 := hgw.trans hg1
    clear hg1 hres hgw hc17 hsz1
    have HG := Lib.hid hgw1
    have HR1 := Lib.hid hr1
    clear hgw1 hr1
    cases q
    · have d0 : w1.cell? ⟨w.heap.size, 0, none⟩ = some (.int .i64 0) := by rw [cell_of_row _ _ _ _ _ _ hrs1]; rfl
      have d1 : w1.cell? ⟨w.heap.size, 1, none⟩ = some (.int .u8 0) := by rw [cell_of_row _ _ _ _ _ _ hrs1]; rfl
      have d2 : w1.cell? ⟨w.heap.size, 2, none⟩ = some (.bool false) := by rw [cell_of_row _ _ _ _ _ _ hrs1]; rfl
      have g0 : w1.frozen? ⟨w.heap.size, 0, none⟩ = false := by simp [World.frozen?, hrs1]
      have g1 : w1.frozen? ⟨w.heap.size, 1, none⟩ = false := by simp [World.frozen?, hrs1]
      have g2 : w1.frozen? ⟨w.heap.size, 2, none⟩ = false := by simp [World.frozen?, hrs1]
      obtain ⟨hn3, hg3⟩ := set_shape hrs1 W17 c17 L17
      have e0 : w1.cell? ⟨b17, 0, none⟩ = some (.int .i64 W17) := by rw [cell_of_row _ _ _ _ _ _ hs1]; rfl
      have e1 : w1.cell? ⟨b17, 1, none⟩ = some (.int .u8 (c17.toNat : Int)) := by rw [cell_of_row _ _ _ _ _ _ hs1]; rfl
      have e2 : w1.cell? ⟨b17, 2, none⟩ = some (.bool L17) := by rw [cell_of_row _ _ _ _ _ _ hs1]; rfl
      have HS := Lib.hid hs1; have HRS := Lib.hid hrs1; have HN := Lib.hid hn3; have HGG := Lib.hid hg3
      clear hs1 hrs1 hn3 hg3
      go_wp2
      have r0 := cell_of_row _ w.heap.size 0 _ _ _ HN.out
      have r1 := cell_of_row _ w.heap.size 1 _ _ _ HN.out
      have r2 := cell_of_row _ w.heap.size 2 _ _ _ HN.out
      simp only [List.getElem?_toArray, List.getElem?_cons_zero, List.getElem?_cons_succ] at r0 r1 r2
      exact bodyPost_ret (v := .agg #[.int .i64 W17, .int .u8 (c17.toNat : Int), .bool L17]) (by simp [results, Try.results11, go_sem, r0, r1, r2]) rfl ⟨W17, c17, L17, rfl, hW17, hV17, grown_set HG.out HGG.out (Nat.le_refl _), HR1.out.kept HGG.out (fun g e => by injection e with e; omega) |>.less (by omega)⟩
    · go_wp2_with fail
      refine (pick_any _ _ _ _ (HR1.out.kept (World.grownBy_alloc _ _ none) (by simp)) (by omega) (by omega) (by omega)).mono ?_
      rintro e w2 ⟨v, rfl, hv, hg2, hr2⟩
      have hv4 : v = 0 ∨ v = 1 ∨ v = 2 ∨ v = 3 := by omega
      have hwl := (Array.getElem?_eq_some_iff.1 hrs1).1
      have hl2 : w2.heap[w1.heap.size]? = some (.cells #[.int .i64 0, .int .u8 0, .bool false, .int .i64 (-1), .int .u8 32, .bool false, .int .i64 41, .int .u8 32, .bool false, .int .i64 0, .int .u8 127, .bool false] 32 (0, 0)) := by
        rw [hg2.block w1.heap.size (by simp only [World.size_alloc]; omega) (by intro e; injection e with e; omega)]
        exact heap_alloc_new w1 _
      have hrs2 : w2.heap[w.heap.size]? = some (.cells #[.int .i64 0, .int .u8 ((0 : UInt8).toNat : Int), .bool false] 32 (0, 0)) := by
        have hga := (World.grownBy_alloc w1 (.cells #[.int .i64 0, .int .u8 0, .bool false, .int .i64 (-1), .int .u8 32, .bool false, .int .i64 41, .int .u8 32, .bool false, .int .i64 0, .int .u8 127, .bool false] 32 (0, 0)) (some R)).trans hg2
        rw [hga.block w.heap.size hwl (by intro e; injection e with e; omega)]; exact hrs1
      have HG2 := Lib.hid ((HG.out.trans (World.grownBy_alloc _ _ _)).trans hg2)
      have HR2 := Lib.hid hr2
      clear hg2 hr2 hv hs1 hrs1
      have d0 : w2.cell? ⟨w.heap.size, 0, none⟩ = some (.int .i64 0) := by rw [cell_of_row _ _ _ _ _ _ hrs2]; rfl
      have d1 : w2.cell? ⟨w.heap.size, 1, none⟩ = some (.int .u8 0) := by rw [cell_of_row _ _ _ _ _ _ hrs2]; rfl
      have d2 : w2.cell? ⟨w.heap.size, 2, none⟩ = some (.bool false) := by rw [cell_of_row _ _ _ _ _ _ hrs2]; rfl
      have g0 : w2.frozen? ⟨w.heap.size, 0, none⟩ = false := by simp [World.frozen?, hrs2]
      have g1 : w2.frozen? ⟨w.heap.size, 1, none⟩ = false := by simp [World.frozen?, hrs2]
      have g2 : w2.frozen? ⟨w.heap.size, 2, none⟩ = false := by simp [World.frozen?, hrs2]
      rcases hv4 with rfl | rfl | rfl | rfl
      · obtain ⟨hn3, hg3⟩ := set_shape hrs2 (0) 0 false
        have e0 : w2.cell? ⟨w1.heap.size, 0, none⟩ = some (.int .i64 (0)) := by rw [cell_of_row _ _ _ _ _ _ hl2]; rfl
        have e1 : w2.cell? ⟨w1.heap.size, 1, none⟩ = some (.int .u8 0) := by rw [cell_of_row _ _ _ _ _ _ hl2]; rfl
        have e2 : w2.cell? ⟨w1.heap.size, 2, none⟩ = some (.bool false) := by rw [cell_of_row _ _ _ _ _ _ hl2]; rfl
        have HN := Lib.hid hn3; have HGG := Lib.hid hg3
        clear hl2 hrs2 hn3 hg3
        go_wp2
        have r0 : (((w2.setCell ⟨w.heap.size, 0, none⟩ (.int .i64 (0))).setCell ⟨w.heap.size, 1, none⟩ (.int .u8 0)).setCell ⟨w.heap.size, 2, none⟩ (.bool false)).cell? ⟨w.heap.size, 0, none⟩ = some (.int .i64 (0)) := cell_of_row _ w.heap.size 0 _ _ _ HN.out
        have r1 : (((w2.setCell ⟨w.heap.size, 0, none⟩ (.int .i64 (0))).setCell ⟨w.heap.size, 1, none⟩ (.int .u8 0)).setCell ⟨w.heap.size, 2, none⟩ (.bool false)).cell? ⟨w.heap.size, 1, none⟩ = some (.int .u8 0) := cell_of_row _ w.heap.size 1 _ _ _ HN.out
        have r2 : (((w2.setCell ⟨w.heap.size, 0, none⟩ (.int .i64 (0))).setCell ⟨w.heap.size, 1, none⟩ (.int .u8 0)).setCell ⟨w.heap.size, 2, none⟩ (.bool false)).cell? ⟨w.heap.size, 2, none⟩ = some (.bool false) := cell_of_row _ w.heap.size 2 _ _ _ HN.out
        exact bodyPost_ret (v := .agg #[.int .i64 (0), .int .u8 ((0 : UInt8).toNat : Int), .bool false]) (by simp [results, Try.results11, go_sem, r0, r1, r2]) rfl ⟨0, 0, false, rfl, by omega, by omega, grown_set HG2.out HGG.out (Nat.le_refl _), HR2.out.kept HGG.out (fun g e => by injection e with e; omega) |>.less (by omega)⟩
      · obtain ⟨hn3, hg3⟩ := set_shape hrs2 (-1) 32 false
        have e0 : w2.cell? ⟨w1.heap.size, 3, none⟩ = some (.int .i64 (-1)) := by rw [cell_of_row _ _ _ _ _ _ hl2]; rfl
        have e1 : w2.cell? ⟨w1.heap.size, 4, none⟩ = some (.int .u8 32) := by rw [cell_of_row _ _ _ _ _ _ hl2]; rfl
        have e2 : w2.cell? ⟨w1.heap.size, 5, none⟩ = some (.bool false) := by rw [cell_of_row _ _ _ _ _ _ hl2]; rfl
        have HN := Lib.hid hn3; have HGG := Lib.hid hg3
        clear hl2 hrs2 hn3 hg3
        go_wp2
        have r0 : (((w2.setCell ⟨w.heap.size, 0, none⟩ (.int .i64 (-1))).setCell ⟨w.heap.size, 1, none⟩ (.int .u8 32)).setCell ⟨w.heap.size, 2, none⟩ (.bool false)).cell? ⟨w.heap.size, 0, none⟩ = some (.int .i64 (-1)) := cell_of_row _ w.heap.size 0 _ _ _ HN.out
        have r1 : (((w2.setCell ⟨w.heap.size, 0, none⟩ (.int .i64 (-1))).setCell ⟨w.heap.size, 1, none⟩ (.int .u8 32)).setCell ⟨w.heap.size, 2, none⟩ (.bool false)).cell? ⟨w.heap.size, 1, none⟩ = some (.int .u8 32) := cell_of_row _ w.heap.size 1 _ _ _ HN.out
        have r2 : (((w2.setCell ⟨w.heap.size, 0, none⟩ (.int .i64 (-1))).setCell ⟨w.heap.size, 1, none⟩ (.int .u8 32)).setCell ⟨w.heap.size, 2, none⟩ (.bool false)).cell? ⟨w.heap.size, 2, none⟩ = some (.bool false) := cell_of_row _ w.heap.size 2 _ _ _ HN.out
        exact bodyPost_ret (v := .agg #[.int .i64 (-1), .int .u8 ((32 : UInt8).toNat : Int), .bool false]) (by simp [results, Try.results11, go_sem, r0, r1, r2]) rfl ⟨-1, 32, false, rfl, by omega, by omega, grown_set HG2.out HGG.out (Nat.le_refl _), HR2.out.kept HGG.out (fun g e => by injection e with e; omega) |>.less (by omega)⟩
      · obtain ⟨hn3, hg3⟩ := set_shape hrs2 (41) 32 false
        have e0 : w2.cell? ⟨w1.heap.size, 6, none⟩ = some (.int .i64 (41)) := by rw [cell_of_row _ _ _ _ _ _ hl2]; rfl
        have e1 : w2.cell? ⟨w1.heap.size, 7, none⟩ = some (.int .u8 32) := by rw [cell_of_row _ _ _ _ _ _ hl2]; rfl
        have e2 : w2.cell? ⟨w1.heap.size, 8, none⟩ = some (.bool false) := by rw [cell_of_row _ _ _ _ _ _ hl2]; rfl
        have HN := Lib.hid hn3; have HGG := Lib.hid hg3
        clear hl2 hrs2 hn3 hg3
        go_wp2
        have r0 : (((w2.setCell ⟨w.heap.size, 0, none⟩ (.int .i64 (41))).setCell ⟨w.heap.size, 1, none⟩ (.int .u8 32)).setCell ⟨w.heap.size, 2, none⟩ (.bool false)).cell? ⟨w.heap.size, 0, none⟩ = some (.int .i64 (41)) := cell_of_row _ w.heap.size 0 _ _ _ HN.out
        have r1 : (((w2.setCell ⟨w.heap.size, 0, none⟩ (.int .i64 (41))).setCell ⟨w.heap.size, 1, none⟩ (.int .u8 32)).setCell ⟨w.heap.size, 2, none⟩ (.bool false)).cell? ⟨w.heap.size, 1, none⟩ = some (.int .u8 32) := cell_of_row _ w.heap.size 1 _ _ _ HN.out
        have r2 : (((w2.setCell ⟨w.heap.size, 0, none⟩ (.int .i64 (41))).setCell ⟨w.heap.size, 1, none⟩ (.int .u8 32)).setCell ⟨w.heap.size, 2, none⟩ (.bool false)).cell? ⟨w.heap.size, 2, none⟩ = some (.bool false) := cell_of_row _ w.heap.size 2 _ _ _ HN.out
        exact bodyPost_ret (v := .agg #[.int .i64 (41), .int .u8 ((32 : UInt8).toNat : Int), .bool false]) (by simp [results, Try.results11, go_sem, r0, r1, r2]) rfl ⟨41, 32, false, rfl, by omega, by omega, grown_set HG2.out HGG.out (Nat.le_refl _), HR2.out.kept HGG.out (fun g e => by injection e with e; omega) |>.less (by omega)⟩
      · obtain ⟨hn3, hg3⟩ := set_shape hrs2 (0) 127 false
        have e0 : w2.cell? ⟨w1.heap.size, 9, none⟩ = some (.int .i64 (0)) := by rw [cell_of_row _ _ _ _ _ _ hl2]; rfl
        have e1 : w2.cell? ⟨w1.heap.size, 10, none⟩ = some (.int .u8 127) := by rw [cell_of_row _ _ _ _ _ _ hl2]; rfl
        have e2 : w2.cell? ⟨w1.heap.size, 11, none⟩ = some (.bool false) := by rw [cell_of_row _ _ _ _ _ _ hl2]; rfl
        have HN := Lib.hid hn3; have HGG := Lib.hid hg3
        clear hl2 hrs2 hn3 hg3
        go_wp2
        have r0 : (((w2.setCell ⟨w.heap.size, 0, none⟩ (.int .i64 (0))).setCell ⟨w.heap.size, 1, none⟩ (.int .u8 127)).setCell ⟨w.heap.size, 2, none⟩ (.bool false)).cell? ⟨w.heap.size, 0, none⟩ = some (.int .i64 (0)) := cell_of_row _ w.heap.size 0 _ _ _ HN.out
        have r1 : (((w2.setCell ⟨w.heap.size, 0, none⟩ (.int .i64 (0))).setCell ⟨w.heap.size, 1, none⟩ (.int .u8 127)).setCell ⟨w.heap.size, 2, none⟩ (.bool false)).cell? ⟨w.heap.size, 1, none⟩ = some (.int .u8 127) := cell_of_row _ w.heap.size 1 _ _ _ HN.out
        have r2 : (((w2.setCell ⟨w.heap.size, 0, none⟩ (.int .i64 (0))).setCell ⟨w.heap.size, 1, none⟩ (.int .u8 127)).setCell ⟨w.heap.size, 2, none⟩ (.bool false)).cell? ⟨w.heap.size, 2, none⟩ = some (.bool false) := cell_of_row _ w.heap.size 2 _ _ _ HN.out
        exact bodyPost_ret (v := .agg #[.int .i64 (0), .int .u8 ((127 : UInt8).toNat : Int), .bool false]) (by simp [results, Try.results11, go_sem, r0, r1, r2]) rfl ⟨0, 127, false, rfl, by omega, by omega, grown_set HG2.out HGG.out (Nat.le_refl _), HR2.out.kept HGG.out (fun g e => by injection e with e; omega) |>.less (by omega)⟩
  case start =>
    refine ⟨rfl, rfl, fun _ _ => rfl, ?_, grown_refl _ _, ?_, rfl⟩
    · intro i o t ho hl hd
      exfalso
      have hlt : i < 19 := by have := (Array.getElem?_eq_some_iff.1 ho).1; simpa using this
      have hz : (Array.replicate 19 false).getD i true = true := hl
      rw [Array.getD_eq_getD_getElem?, Array.getElem?_replicate, if_pos hlt] at hz
      cases hz
    · exact (h.kept (grown_drewN (World.grownBy_alloc _ _ none) 1) (by simp)).less (k' := k - 4 + 4) (by omega)
end Go.Proofs.Ytfidcfjmmhghjaa
