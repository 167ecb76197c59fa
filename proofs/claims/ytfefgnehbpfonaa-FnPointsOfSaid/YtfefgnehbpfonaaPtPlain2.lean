/- Plain laws of points: bytes of points give the points back, and points of bytes the bytes. -/
import Derived.Test.YtfefgnehbpfonaaPointsBytes
import Derived.Test.YtfefgnehbpfonaaPointsOf
namespace Go.Proofs.Ytfefgnehbpfonaa
open Go.RowKit

def flat (l : List Int) : List UInt8 := l.flatMap putP
theorem flat_nil : flat [] = [] := rfl
theorem flat_cons (n : Int) (l : List Int) : flat (n :: l) = putP n ++ flat l := by simp [flat]

theorem pbT_false : ∀ (l : List Int) (acc : List UInt8), (pbT l acc).2 = false → (pbT l acc).1 = []
  | [], acc => by
    unfold pbT; split
    · intro _; rfl
    · intro h; simp at h
  | n :: l, acc => by
    unfold pbT; split
    · exact pbT_false l _
    · intro _; rfl

theorem pbT_inv : ∀ (l : List Int) (acc r : List UInt8), pbT l acc = (r, true) → r = acc ++ flat l ∧ (∀ n ∈ l, ptB n = true) ∧ r.length ≤ 600
  | [], acc, r => by
    unfold pbT; split
    · intro h; simp at h
    · rename_i h1
      intro h
      simp only [Prod.mk.injEq, and_true] at h
      subst h
      exact ⟨by simp [flat_nil], by simp, by omega⟩
  | n :: l, acc, r => by
    unfold pbT; split
    · rename_i h1
      intro h
      obtain ⟨h2, h3, h4⟩ := pbT_inv l _ r h
      refine ⟨by rw [h2, flat_cons, List.append_assoc], ?_, h4⟩
      intro m hm
      rcases List.mem_cons.1 hm with rfl | hm
      · exact h1.1
      · exact h3 m hm
    · intro h; simp at h

theorem pbT_ok : ∀ (l : List Int) (acc : List UInt8), (∀ n ∈ l, ptB n = true) → (acc ++ flat l).length ≤ 600 → pbT l acc = (acc ++ flat l, true)
  | [], acc => by
    intro _ h
    rw [flat_nil, List.append_nil] at h ⊢
    exact pbT_nil_yes (by omega)
  | n :: l, acc => by
    intro hv h
    have h0 : acc.length ≤ 600 := by rw [List.length_append] at h; omega
    rw [pbT_go (hv n (by simp)) (by omega), pbT_ok l (acc ++ putP n) (fun m hm => hv m (by simp [hm])) (by rw [List.append_assoc, ← flat_cons]; exact h), flat_cons, List.append_assoc]

theorem putP_pos {n : Int} (hv : ptB n = true) : 1 ≤ (putP n).length := by
  unfold putP
  rw [if_pos hv]
  split
  · simp
  · split
    · simp
    · split <;> simp

theorem poT_flat : ∀ (l : List Int) (pre : List UInt8) (acc : List Int), (∀ n ∈ l, ptB n = true) → poT (pre ++ flat l) ((pre ++ flat l).length - pre.length) pre.length acc = (acc ++ l, true)
  | [], pre, acc => by
    intro _
    rw [poT_end (by simp [flat_nil])]; simp
  | n :: l, pre, acc => by
    intro hv
    have h1 := hv n (by simp)
    have hp := putP_pos h1
    have hb := ptB_t.1 h1
    have hg := getP_put n h1 pre (flat l)
    rw [List.append_assoc, ← flat_cons] at hg
    have hlen : pre.length < (pre ++ flat (n :: l)).length := by rw [List.length_append, flat_cons, List.length_append]; omega
    rw [poT_go (L := (putP n).length) hlen hp (by rw [hg]; congr 1) hb.1]
    have ih := poT_flat l (pre ++ putP n) (acc ++ [n]) (fun m hm => hv m (by simp [hm]))
    rw [List.append_assoc, ← flat_cons, show (pre ++ putP n).length = pre.length + (putP n).length from List.length_append, List.append_assoc] at ih
    exact ih

/-- Bytes of points give the points back. -/
theorem poB_of_pbT {l : List Int} {r : List UInt8} (h : pbT l [] = (r, true)) : poB r = (l, true) := by
  obtain ⟨h1, h2, h3⟩ := pbT_inv l [] r h
  rw [List.nil_append] at h1
  rw [poB_short (by omega), h1]
  have := poT_flat l [] [] h2
  simpa using this

theorem poT_inv (b : List UInt8) : ∀ (k p : Nat) (acc l : List Int), b.length - p ≤ k → p ≤ b.length → poT b (b.length - p) p acc = (l, true) → ∃ l2, l = acc ++ l2 ∧ flat l2 = b.drop p ∧ (∀ n ∈ l2, ptB n = true) ∧ l2.length ≤ b.length - p := by
  intro k
  induction k with
  | zero =>
    intro p acc l hk hp h
    rw [poT_end (by omega)] at h
    simp only [Prod.mk.injEq, and_true] at h
    exact ⟨[], by simp [h], by rw [flat_nil, List.drop_eq_nil_of_le (by omega)], by simp, by simp⟩
  | succ k ih =>
    intro p acc l hk hp h
    by_cases hlt : p < b.length
    · rcases getP_two b (p : Int) with he | ⟨p', L, N, hpp, h1, h2, he, hput, hv⟩
      · rw [poT_bad hlt he] at h; simp at h
      · obtain rfl : p = p' := by omega
        rw [poT_go hlt h1 he (ptB_t.1 hv).1] at h
        obtain ⟨l2, e1, e2, e3, e4⟩ := ih (p + L) _ _ (by omega) h2 h
        refine ⟨N :: l2, by rw [e1, List.append_assoc]; rfl, ?_, ?_, by simp; omega⟩
        · rw [flat_cons, hput, e2, ← List.drop_drop, List.take_append_drop]
        · intro m hm
          rcases List.mem_cons.1 hm with rfl | hm
          · exact hv
          · exact e3 m hm
    · rw [poT_end hlt] at h
      simp only [Prod.mk.injEq, and_true] at h
      exact ⟨[], by simp [h], by rw [flat_nil, List.drop_eq_nil_of_le (by omega)], by simp, by simp⟩

/-- Points of bytes give the bytes back, and are not more than these. -/
theorem pbT_of_poB {b : List UInt8} {l : List Int} (h : poB b = (l, true)) : pbT l [] = (b, true) ∧ l.length ≤ b.length := by
  by_cases hlong : 600 < b.length
  · rw [poB_long hlong] at h; simp at h
  · rw [poB_short hlong] at h
    obtain ⟨l2, e1, e2, e3, e4⟩ := poT_inv b b.length 0 [] l (by omega) (by omega) (by simpa using h)
    rw [List.nil_append] at e1
    subst e1
    rw [List.drop_zero] at e2
    have := pbT_ok l [] e3 (by rw [List.nil_append, e2]; omega)
    rw [List.nil_append, e2] at this
    exact ⟨this, by omega⟩

theorem poT_false (b : List UInt8) : ∀ (k p : Nat) (acc : List Int), (poT b k p acc).2 = false → (poT b k p acc).1 = []
  | 0, _, acc => by intro h; simp [poT] at h
  | k + 1, p, acc => by
    unfold poT
    split
    · split
      · intro _; rfl
      · exact poT_false b k _ _
    · intro h; simp at h
theorem poB_false {b : List UInt8} (h : (poB b).2 = false) : (poB b).1 = [] := by
  unfold poB at h ⊢
  split
  · rfl
  · rename_i h1; rw [if_neg h1] at h; exact poT_false b _ _ _ h
theorem poT_len (b : List UInt8) : ∀ (k p : Nat) (acc : List Int), (poT b k p acc).1.length ≤ acc.length + k
  | 0, _, acc => by simp [poT]
  | k + 1, p, acc => by
    unfold poT
    split
    · split
      · simp
      · have := poT_len b k ((getP b (p : Int)).2.toNat) (acc ++ [(getP b (p : Int)).1])
        simp at this; omega
    · simp
theorem poB_len (b : List UInt8) : (poB b).1.length ≤ 600 := by
  unfold poB
  split
  · simp
  · have := poT_len b b.length 0 []
    simp at this; omega
end Go.Proofs.Ytfefgnehbpfonaa
