/- The helpers' marks from one on, over bytes; what a law finds behind them. -/
import Derived.Test.YtfefgnehbpfonaaBytes
namespace Go.Proofs.Ytfefgnehbpfonaa
open Go.RowKit

/-- The values of an owned row can be read. -/
theorem own_formn_row {w : World} {B : Nat} {e : TypeId} {a : Option Addr} {m n c : Nat} {l : List Value} (h : w.ownsRow B e 1 (.slice a m c) n l) : RowAt w a l := by
  obtain ⟨a', c', hv, hr, _⟩ := own_formn h
  injection hv with h1
  subst h1
  exact hr

theorem markByteS_one (v : Value) (B : Nat) (l : List Value) (n : Nat) (w : World) (h : w.ownsRow B 5 1 v n l) (hk : n ≤ 4611686018427387904) :
    Calls Try.prog 25 #[v, .int .i64 1] w fun e w' => e = .returned (.int .i64 ((n : Int) + 1)) ∧ w'.ownsRow B 5 1 v n (markB 1 n) ∧ w.grownBy w' v.ownBlock :=
  (markByteS_any v B l n 1 w h (own_len h) (by omega)).mono fun _ _ ⟨he, h2⟩ => ⟨by rw [he]; congr 2; omega, h2⟩

theorem heldByteS_one (a : Option Addr) (n c : Nat) (w : World) (h : RowAt w a (markB 1 n)) (hk : n ≤ 4611686018427387904) :
    Calls Try.prog 26 #[.slice a n c, .int .i64 1] w fun e w' => e = .returned (.int .i64 ((n : Int) + 1)) ∧ Below w.heap.size w w' :=
  (heldByteS_any a n c 1 w h (by omega)).mono fun _ _ ⟨he, h2⟩ => ⟨by rw [he]; congr 2; omega, h2⟩
end Go.Proofs.Ytfefgnehbpfonaa
