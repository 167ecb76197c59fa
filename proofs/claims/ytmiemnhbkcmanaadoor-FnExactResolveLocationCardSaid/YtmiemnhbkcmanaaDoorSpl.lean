/- Texts split and cut: the library's Split and Cut at a byte; joined texts split again. -/
import Derived.Test.YtmiemnhbkcmanaaDoorMax
import Derived.Test.YtmiemnhbkcmanaaDoorJoin
import Derived.Test.YtmiemnhbkcmanaaDoorStrs
namespace Go.Proofs.YtmiemnhbkcmanaaDoor
open Go.RowKit

theorem map_mkS_blP (L : List ByteArray) : (L.map bl).map mkS = L := by
  rw [List.map_map]
  exact (List.map_congr_left (fun x _ => mkS_bl x)).trans (List.map_id _)
theorem splitB_mkP (s sep : ByteArray) : Lib.splitB sep 0 (Lib.countB s sep) s = (Lib.splitK (bl sep) 0 (Lib.count (bl s) (bl sep)) (bl s)).map mkS := by
  have hd := Lib.splitB_data sep 0 (Lib.countB s sep) s
  have : (Lib.splitK (bl sep) 0 (Lib.count (bl s) (bl sep)) (bl s)) = (Lib.splitB sep 0 (Lib.countB s sep) s).map bl := hd.symm
  rw [this, map_mkS_blP]
def strArP (L : List (List UInt8)) : Array Value := ((L.map mkS).map strV).toArray
theorem strArP_size (L : List (List UInt8)) : (strArP L).size = L.length := by simp [strArP]
theorem splitP_at (s : ByteArray) (c : UInt8) (w : World) (hm : MaxOk w) (hs : s.size ≤ 1048576) :
    Calls Tryd.prog 22 #[.string s, .string ⟨#[c]⟩] w fun e w' => ∃ v, e = .returned v ∧ w'.ownsRow w.heap.size 9 1 v (cutAt c (bl s)).length (((cutAt c (bl s)).map mkS).map strV) ∧ Below w.heap.size w w' := by
  obtain ⟨m, hm⟩ := hm
  have hc := countB_le1 s c
  refine (Tryd.strings_Split s ⟨#[c]⟩ m w (by omega) hm (Nat.le_refl 1)).mono ?_
  rintro e w' ⟨rfl, rfl⟩
  have hl := Lib.splitB_all ⟨#[c]⟩ (Nat.le_refl 1) 0 _ s rfl
  have e2 : (Lib.splitB ⟨#[c]⟩ 0 (Lib.countB s ⟨#[c]⟩) s) = (cutAt c (bl s)).map mkS := by
    rw [splitB_mkP, ← split_one c (bl s)]; rfl
  have e3 : (cutAt c (bl s)).length = Lib.countB s ⟨#[c]⟩ + 1 := by rw [← hl, e2, List.length_map]
  rw [e2, ← e3]
  exact ⟨_, rfl, own_new w (strArP (cutAt c (bl s))) 9 _ (strArP_size _) (by omega), (Below.refl _ _).alloc (Nat.le_refl _) _⟩
theorem cutAt_len (c : UInt8) (s : ByteArray) : 1 ≤ (cutAt c (bl s)).length ∧ (cutAt c (bl s)).length ≤ s.size + 1 := by
  refine ⟨List.length_pos_iff.2 (cutAt_ne _ _), ?_⟩
  rw [← bl_len]
  generalize bl s = l
  induction l with
  | nil => simp [cutAt]
  | cons b l ih =>
    have h1 : 1 ≤ (cutAt c l).length := List.length_pos_iff.2 (cutAt_ne _ _)
    unfold cutAt
    split
    · simp; omega
    · simp; omega
theorem cutAt_mem (c : UInt8) : ∀ (l x : List UInt8), x ∈ cutAt c l → x.length ≤ l.length := by
  intro l
  induction l with
  | nil => intro x hx; simp [cutAt] at hx; simp [hx]
  | cons b l ih =>
    intro x hx
    unfold cutAt at hx
    split at hx
    · rcases List.mem_cons.1 hx with rfl | hx
      · simp
      · have := ih x hx; simp; omega
    · rcases hc : cutAt c l with _ | ⟨y, r⟩
      · exact absurd hc (cutAt_ne c l)
      · rw [hc] at hx
        rcases List.mem_cons.1 hx with rfl | hx
        · have := ih y (by rw [hc]; exact List.mem_cons_self ..); simp; omega
        · have := ih x (by rw [hc]; exact List.mem_cons_of_mem _ hx); simp; omega
theorem cutAt_free {c : UInt8} : ∀ {x : List UInt8}, c ∉ x → cutAt c x = [x] := by
  intro x
  induction x with
  | nil => intro _; rfl
  | cons b l ih =>
    intro h
    rw [List.mem_cons, not_or] at h
    rw [cutAt, if_neg (fun e => h.1 e.symm), ih h.2]; rfl
theorem cutAt_app {c : UInt8} (r : List UInt8) : ∀ {x : List UInt8}, c ∉ x → cutAt c (x ++ c :: r) = x :: cutAt c r := by
  intro x
  induction x with
  | nil => intro _; rw [List.nil_append, cutAt, if_pos rfl]
  | cons b l ih =>
    intro h
    rw [List.mem_cons, not_or] at h
    rw [List.cons_append, cutAt, if_neg (fun e => h.1 e.symm), ih h.2]; rfl
theorem join_two (a b : List UInt8) (r : List (List UInt8)) (sep : List UInt8) : Lib.join (a :: b :: r) sep = a ++ sep ++ Lib.join (b :: r) sep := by
  rw [Lib.join_cons, Lib.join_cons, Lib.joinTail, List.map_cons, List.flatten_cons, Lib.joinTail]
  simp
theorem cutAt_join {c : UInt8} : ∀ {L : List (List UInt8)}, L ≠ [] → (∀ x ∈ L, c ∉ x) → cutAt c (Lib.join L [c]) = L := by
  intro L
  induction L with
  | nil => intro h _; exact absurd rfl h
  | cons a r ih =>
    intro _ h
    rcases r with _ | ⟨b, r⟩
    · rw [Lib.join_one, cutAt_free (h a (List.mem_cons_self ..))]
    · rw [join_two, List.append_assoc, List.singleton_append, cutAt_app _ (h a (List.mem_cons_self ..)), ih (by simp) (fun x hx => h x (List.mem_cons_of_mem _ hx))]
theorem index_pre (c : UInt8) (t rest : List UInt8) : ∀ pre : List UInt8, c ∉ pre → Lib.index (pre ++ (c :: t ++ rest)) (c :: t) = (pre.length : Int) := by
  intro pre
  induction pre with
  | nil =>
    intro _
    have hp : (c :: t).isPrefixOf (c :: (t ++ rest)) = true := by
      rw [List.isPrefixOf_iff_prefix]; exact ⟨rest, rfl⟩
    rw [List.nil_append, List.cons_append, Lib.index, hp]; rfl
  | cons b l ih =>
    intro h
    rw [List.mem_cons, not_or] at h
    have hp : (c :: t).isPrefixOf (b :: (l ++ (c :: t ++ rest))) = false := by
      have : (c == b) = false := by rw [beq_eq_false_iff_ne]; exact h.1
      simp [List.isPrefixOf, this]
    have e1 : (((l.length : Nat) : Int) == -1) = false := by rw [beq_eq_false_iff_ne]; omega
    rw [List.cons_append, Lib.index, hp, ih h.2, e1]
    simp
theorem cut_pre (c : UInt8) (t rest pre : List UInt8) (h : c ∉ pre) : Lib.cut (pre ++ (c :: t ++ rest)) (c :: t) = (pre, rest, true) := by
  have hi := index_pre c t rest pre h
  unfold Lib.cut
  rw [hi, if_pos (by omega)]
  simp
theorem index_none1 (c : UInt8) : ∀ l : List UInt8, c ∉ l → Lib.index l [c] = -1 := by
  intro l
  induction l with
  | nil => intro _; rw [Lib.index]; rfl
  | cons b l ih =>
    intro h
    rw [List.mem_cons, not_or] at h
    have hp : [c].isPrefixOf (b :: l) = false := by
      have : (c == b) = false := by rw [beq_eq_false_iff_ne]; exact h.1
      simp [List.isPrefixOf, this]
    rw [Lib.index, hp, ih h.2]; rfl
theorem cut_none1 (c : UInt8) (l : List UInt8) (h : c ∉ l) : Lib.cut l [c] = (l, [], false) := by
  unfold Lib.cut
  rw [index_none1 c l h, if_neg (by omega)]
theorem cut_le (l sep : List UInt8) : (Lib.cut l sep).1.length ≤ l.length ∧ (Lib.cut l sep).2.1.length ≤ l.length := by
  unfold Lib.cut
  split
  · simp only [List.length_take, List.length_drop]; omega
  · simp
theorem cut_any (s sep : ByteArray) (w : World) (hm : MaxOk w) (hs : s.size ≤ 1048576) :
    Calls Tryd.prog 20 #[.string s, .string sep] w fun e w' => e = .returned (.tuple #[.string (mkS (Lib.cut (bl s) (bl sep)).1), .string (mkS (Lib.cut (bl s) (bl sep)).2.1), .bool (Lib.cut (bl s) (bl sep)).2.2]) ∧ ∃ n, w' = w.drewN n := by
  obtain ⟨m, hm⟩ := hm
  exact Tryd.strings_Cut s sep m w (by omega) hm
end Go.Proofs.YtmiemnhbkcmanaaDoor
