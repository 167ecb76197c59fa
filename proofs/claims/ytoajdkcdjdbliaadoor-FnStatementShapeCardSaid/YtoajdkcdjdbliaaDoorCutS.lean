/- The texts of a statement, by the reference. -/
import Derived.Test.YtoajdkcdjdbliaaDoorCut
namespace Go.Proofs.YtoajdkcdjdbliaaDoor
open Go.RowKit

theorem bne39 {x : UInt8} (h : ¬ x = 39) : ((x.toNat : Int) != 39) = true := by
  rw [bne_iff_ne]; intro e; exact h (UInt8.toNat_inj.1 (by have : (39 : UInt8).toNat = 39 := rfl; omega))
theorem beq39 {x : UInt8} (h : ¬ x = 39) : ((x.toNat : Int) == 39) = false := by
  rw [beq_eq_false_iff_ne]; intro e; exact h (UInt8.toNat_inj.1 (by have : (39 : UInt8).toNat = 39 := rfl; omega))
/-- What stands at a place from which a text's end is known. -/
theorem np_cases {s : ByteArray} {k e : Nat} (hp : np s k = some e) (h : k < s.size) : (¬ s[k] = 39 ∧ np s (k + 1) = some e) ∨ (∃ h1 : k + 1 < s.size, s[k] = 39 ∧ s[k + 1] = 39 ∧ np s (k + 2) = some e) ∨ (s[k] = 39 ∧ e = k + 1 ∧ ¬ ∃ h : k + 1 < s.size, s[k + 1] = 39) := by
  by_cases hx : s[k] = 39
  · by_cases hy : ∃ h : k + 1 < s.size, s[k + 1] = 39
    · obtain ⟨h1, h2⟩ := hy
      rw [np_dd h1 hx h2] at hp
      exact .inr (.inl ⟨h1, hx, h2, hp⟩)
    · rw [np_hit h hx hy] at hp
      exact .inr (.inr ⟨hx, (Option.some.inj hp).symm, hy⟩)
  · rw [np_ne h hx] at hp
    exact .inl ⟨hx, hp⟩
theorem np_gt : ∀ (n : Nat) {s : ByteArray} {k e : Nat}, s.size ≤ k + n → np s k = some e → k < e ∧ e ≤ s.size := by
  intro n
  induction n with
  | zero => intro s k e h hp; rw [np_end (by omega)] at hp; cases hp
  | succ n ih =>
    intro s k e h hp
    have hk := np_some hp
    rcases np_cases hp hk with ⟨_, h2⟩ | ⟨h1, _, _, h2⟩ | ⟨_, h2, _⟩
    · have := ih (k := k + 1) (by omega) h2; omega
    · rcases Nat.lt_or_ge (k + 2) s.size with h3 | h3
      · have := ih (k := k + 2) (by omega) h2; omega
      · rw [np_end h3] at h2; cases h2
    · omega

end Go.Proofs.YtoajdkcdjdbliaaDoor
