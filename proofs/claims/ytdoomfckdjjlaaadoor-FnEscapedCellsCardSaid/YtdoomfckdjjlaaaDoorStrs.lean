/- The laws' helpers over slices of strings: equal, mark, held, copy, size: what each does, for every slice. Printed by gen_strs.py. -/
import Derived.Test.YtdoomfckdjjlaaaDoorOwn
import Derived.Test.YtdoomfckdjjlaaaDoorApp
import Derived.Test.YtdoomfckdjjlaaaDoorStr
import Derived.Test.YtdoomfckdjjlaaaDoorBv
import Derived.Deep.RegionHeld3
namespace Go.Proofs.YtdoomfckdjjlaaaDoor
open Go.RowKit

def strV (s : ByteArray) : Value := .string s
theorem tl_yn (a b : ByteArray) : (a.toList == b.toList) = decide (a = b) := by
  rw [Bool.eq_iff_iff, beq_iff_eq, decide_eq_true_iff]
  constructor
  · intro h
    rw [ByteArray.toList_eq, ByteArray.toList_eq] at h
    exact bl_inj h
  · rintro rfl; rfl
theorem tl_no {a b : ByteArray} (h : ¬ a = b) : (a.toList == b.toList) = false := by rw [tl_yn]; simp [h]
theorem row_str {w : World} {a : Option Addr} {l : List ByteArray} (h : RowAt w a (l.map strV)) (i : Nat) (hi : i < l.length) :
    ∃ b off, a = some ⟨b, off, none⟩ ∧ b < w.heap.size ∧ w.cell? ⟨b, off + i, none⟩ = some (.string (l.getD i ⟨#[]⟩)) := by
  obtain ⟨b, off, ha, hlt, hc⟩ := h i (by simpa using hi)
  exact ⟨b, off, ha, hlt, by rw [hc]; simp [strV, List.getD_eq_getElem?_getD, hi]⟩
theorem info_str : (Tryd.prog.info? 9).map (fun i => (i.zero, i.size, i.bytes)) = some (some (.string ⟨#[]⟩), 1, 16) := by kernel_rfl
theorem strs_one (l : List ByteArray) : ∀ u ∈ l.map strV, u.oneCell' = true := by
  intro u hu
  obtain ⟨b, _, rfl⟩ := List.mem_map.1 hu
  rfl

/-- What a walk is told of a slice of strings that came in. -/
def IsStrs (w : World) (a : Option Addr) (len cap : Nat) (z : List ByteArray) : Prop :=
  (a = none ∧ len = 0 ∧ cap = 0 ∧ z = []) ∨
  ∃ x, a = some x ∧ len ≤ cap ∧ cap ≤ maxLen ∧ z.length = cap ∧ (∀ i, i < z.length → w.cell? (x.add i) = some (.string (z.getD i ByteArray.empty))) ∧ ∀ s ∈ z, s.size ≤ maxLen

/-- The strings that a slice of n holds. -/
def argS (z : List ByteArray) (n : Nat) : List ByteArray := (List.range n).map fun i => z.getD i ByteArray.empty
theorem argS_len (z : List ByteArray) (n : Nat) : (argS z n).length = n := by simp [argS]
theorem IsStrs.row {w : World} {a : Option Addr} {n c : Nat} {z : List ByteArray} (h : IsStrs w a n c z) : RowAt w a ((argS z n).map strV) := by
  intro i hi
  have hi' : i < n := by simpa [argS] using hi
  rcases h with ⟨_, rfl, _⟩ | ⟨x, rfl, hl, hm, hz, hc, hw⟩
  · omega
  · obtain ⟨b, off, spot⟩ := x
    have h1 := hc i (by omega)
    have hs : spot = none := by simpa [Addr.add] using World.cell?_spot (hc 0 (by omega))
    subst hs
    have e : (⟨b, off, none⟩ : Addr).add i = ⟨b, off + i, none⟩ := by unfold Addr.add; split <;> simp_all
    rw [e] at h1
    refine ⟨b, off, rfl, World.block_lt_of_cell? w _ h1, ?_⟩
    rw [h1]
    simp [argS, strV]
theorem IsStrs.size {w : World} {a : Option Addr} {n c : Nat} {z : List ByteArray} (h : IsStrs w a n c z) : ∀ s ∈ argS z n, s.size ≤ 9223372036854775807 := by
  intro s hs
  simp only [argS, List.mem_map, List.mem_range] at hs
  obtain ⟨i, hi, rfl⟩ := hs
  rcases h with ⟨_, rfl, _⟩ | ⟨x, rfl, hl, hm, hz, hc, hw⟩
  · omega
  · have hiz : i < z.length := by omega
    rw [List.getD_eq_getElem?_getD, List.getElem?_eq_getElem hiz]
    have := hw z[i] (List.getElem_mem _)
    simpa [maxLen] using this
theorem IsStrs.caps {w : World} {a : Option Addr} {n c : Nat} {z : List ByteArray} (h : IsStrs w a n c z) : n ≤ c ∧ c ≤ 9223372036854775807 := by
  rcases h with ⟨_, rfl, rfl, _⟩ | ⟨x, _, hl, hm, _⟩
  · exact ⟨Nat.le_refl _, by omega⟩
  · exact ⟨hl, by simpa [maxLen] using hm⟩


/-- What is left of a bound behind the sizes of texts; -1 below nothing. -/
def szT : List ByteArray → Int → Int
  | [], left => left
  | s :: l, left => if left - s.size < 0 then -1 else szT l (left - s.size)
def szB (l : List ByteArray) (left : Int) : Int := if left - l.length < 0 then -1 else szT l (left - l.length)
theorem szT_le : ∀ (l : List ByteArray) (left : Int), 0 ≤ szT l left → 0 ≤ left → szT l left + (l.map ByteArray.size).sum ≤ left := by
  intro l
  induction l with
  | nil => intro left _ _; simp [szT]
  | cons s l ih =>
    intro left h h0
    unfold szT at h ⊢
    by_cases hc : left - s.size < 0
    · rw [if_pos hc] at h; omega
    · rw [if_neg hc] at h ⊢
      have := ih _ h (by omega)
      simp only [List.map_cons, List.sum_cons]
      omega
theorem szB_yes {l : List ByteArray} {left : Int} (h : 0 ≤ szB l left) : szB l left + l.length + (l.map ByteArray.size).sum ≤ left := by
  unfold szB at h ⊢
  by_cases hc : left - l.length < 0
  · rw [if_pos hc] at h; omega
  · rw [if_neg hc] at h ⊢
    have := szT_le l _ h (by omega)
    omega
theorem szT_cons {l : List ByteArray} {left : Int} {k : Nat} (hk : k < l.length) : szT (l.drop k) left = if left - (l.getD k ⟨#[]⟩).size < 0 then -1 else szT (l.drop (k + 1)) (left - (l.getD k ⟨#[]⟩).size) := by
  rw [List.drop_eq_getElem_cons hk, szT, List.getD_eq_getElem?_getD, List.getElem?_eq_getElem hk]
  rfl
theorem ret_i64 {a b : Int} (h : a = b) : Ending.returned (.int .i64 a) = .returned (.int .i64 b) := by rw [h]
theorem getD_le {l : List ByteArray} (h : ∀ s ∈ l, s.size ≤ 9223372036854775807) (k : Nat) : (l.getD k ⟨#[]⟩).size ≤ 9223372036854775807 := by
  rw [List.getD_eq_getElem?_getD]
  rcases hx : l[k]? with _ | s
  · exact Nat.zero_le _
  · exact h s (List.mem_of_getElem? hx)






/-- One string more behind an owned row of strings: the row literal that holds it has just been laid. -/
theorem wpList_pushS {wr : World} {ops : Array Oper} {rest : List Oper} {o : Oper} {a : Act} {Q : Exit → Act → World → Prop} (s x : Operand) (B : Nat) (b : ByteArray) (v : Value) (n : Nat) (acc : List ByteArray)
    (own : wr.ownsRow B 9 1 v n (acc.map strV)) (hB : B ≤ wr.heap.size) (hsz : n ≤ 4611686018427387904 / 1048576) (hgd : o.guard = none)
    (ho : o.op = .call { callee := .builtin .append, args := #[s, x], argTypes := #[27, 27] }) (hs : a.eval s = v) (H : Nat) (hH : wr.heap.size = H) (hx : a.eval x = .slice (some ⟨H, 0, none⟩) 1 1)
    (h : ∀ v' w', w'.ownsRow B 9 1 v' (n + 1) ((acc ++ [b]).map strV) → Below B wr w' → wpList Tryd.prog ops Q rest (a.put o.dst v') w') :
    wpList Tryd.prog ops Q (o :: rest) a (wr.alloc (.cells #[.string b] 9 (0, 0))) := by
  subst hH
  obtain ⟨i0, hi, hz0, hz1, hz2⟩ := info_parts info_str
  have hal : Below wr.heap.size wr (wr.alloc (.cells #[.string b] 9 (0, 0))) := (Below.refl _ _).alloc (Nat.le_refl _) _
  refine wpList_append_row hgd s x _ ho B 9 i0 _ 16 Tryd.underlying27 hi hz0 hz1 hz2 rfl v n (acc.map strV) hs (own_below own hal) (some ⟨wr.heap.size, 0, none⟩) 1 1 ([b].map strV) hx (by intro e; cases e)
    (own_formn_row (own_new wr #[.string b] 9 1 rfl (by omega))) rfl (strs_one [b]) (by omega) (by omega) (by simp; omega) ?_
  intro v' w' o' g' _
  refine h v' w' ?_ ?_
  · rw [List.map_append]
    exact o'
  · exact (((Below.refl B wr).alloc hB _)).grown g' (by simp; omega) (fun q hq => (own_ge own q hq).1)
/-- An owned row that is not empty: where it lies, and its cells. -/
theorem own_at {w : World} {B : Nat} {e : TypeId} {v : Value} {n : Nat} {l : List Value} (h : w.ownsRow B e 1 v n l) (hn : 0 < n) :
    ∃ g c, v = .slice (some ⟨g, 0, none⟩) n c ∧ B ≤ g ∧ g < w.heap.size ∧ n ≤ c ∧ c ≤ 9223372036854775807 ∧ ∀ i x, l[i]? = some x → w.cell? ⟨g, i, none⟩ = some x := by
  obtain ⟨hl, h⟩ := h
  rcases h with ⟨rfl, h0⟩ | ⟨g, cap, cur, rfl, hB, hg, hn1, hm, hs, ht⟩
  · omega
  · have hlt : g < w.heap.size := (Array.getElem?_eq_some_iff.1 hg).1
    refine ⟨g, cap, rfl, hB, hlt, hn1, by simpa [maxLen] using hm, fun i x hx => ?_⟩
    have hi : i < l.length := (List.getElem?_eq_some_iff.1 hx).1
    rw [cell_of_row w g i cur e (0, 0) hg, ← hx]
    conv => rhs; rw [← ht]
    rw [List.getElem?_take, if_pos (by omega)]
    simp
theorem own_len_eq {w : World} {B : Nat} {e : TypeId} {v : Value} {n m : Nat} {l l' : List Value} (h : w.ownsRow B e 1 v n l) (hn : n = m) (hl : l = l') : w.ownsRow B e 1 v m l' := by
  subst hn; subst hl; exact h
theorem one_str (w : World) (b : UInt8) : (convert 22 9 (.slice (some ⟨w.heap.size, 0, none⟩) 1 1)).run Tryd.prog (w.alloc (.cells #[.int .u8 (b.toNat : Int)] 5 (0, 0))) = .ok (.string (mkS [b])) (w.alloc (.cells #[.int .u8 (b.toNat : Int)] 5 (0, 0))) :=
  conv_row _ _ 1 1 [b] (own_formn_row (own_new w #[.int .u8 (b.toNat : Int)] 5 1 rfl (by omega))) rfl
theorem set_last {α β : Type} (f : α → β) (d : List α) (c : α) (x : β) : ((d ++ [c]).map f).set d.length x = d.map f ++ [x] := by
  rw [List.map_append, List.set_append_right _ _ (by simp)]
  simp
theorem getD_at {α : Type} {l : List α} {k : Nat} (h : k < l.length) (d : α) : l.getD k d = l[k] := by rw [List.getD_eq_getElem?_getD, List.getElem?_eq_getElem h]; rfl
theorem mkS_app (a b : List UInt8) : mkS a ++ mkS b = mkS (a ++ b) := bl_inj (by rw [bl_app, bl_mkS, bl_mkS, bl_mkS])
end Go.Proofs.YtdoomfckdjjlaaaDoor
