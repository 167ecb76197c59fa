/- The drawn statement of the law FnStatementTexts. -/
import Derived.Test.YtoajdkcdjdbliaaDoorStmtDraw
namespace Go.Proofs.YtoajdkcdjdbliaaDoor
open Go.RowKit

def DrawStr (w : World) (m : Nat) (e : Ending) (w' : World) : Prop :=
  ∃ s : ByteArray, e = .returned (.string s) ∧ s.size ≤ m ∧ Below w.heap.size w w'
theorem five_lits (x : ByteArray) (hx : x.size ≤ 200) : ∀ y ∈ (#[Value.string ⟨#[39, 97]⟩, .string (x ++ ⟨#[39]⟩), .string (x ++ ⟨#[63]⟩), .string ⟨#[10]⟩, .string ⟨#[39, 97, 39, 39]⟩] : Array Value).toList, Short 201 y := by
  intro y hy
  simp only [List.mem_cons, List.not_mem_nil, or_false] at hy
  rcases hy with rfl | rfl | rfl | rfl | rfl
  · exact ⟨_, rfl, by decide⟩
  · exact ⟨_, rfl, by rw [ByteArray.size_append]; show x.size + 1 ≤ 201; omega⟩
  · exact ⟨_, rfl, by rw [ByteArray.size_append]; show x.size + 1 ≤ 201; omega⟩
  · exact ⟨_, rfl, by decide⟩
  · exact ⟨_, rfl, by decide⟩

set_option maxHeartbeats 1600000 in
theorem draw_StatementTexts (w : World) (a : Option Addr) (n c : Nat) (f : Nat → UInt8) (hb : BytesAt w a n f) (hc : n ≤ c) (hc' : c ≤ 9223372036854775807) :
    Calls Tryd.prog 33 #[.slice a n c] w (DrawStr w 201) := by
  have HB := Lib.hid hb; clear hb
  go_enter Tryd.func33, Tryd.ntmps33
  go_wp2_with fail
  refine (open_any _ _ _ _ _ HB.out hc hc').mono ?_
  rintro e w1 ⟨rfl, hb1, hr1⟩
  have HB1 := Lib.hid hb1
  clear hb1 HB
  go_wp2_with fail
  refine (stmt_any _ _ _ hr1 (by omega)).mono ?_
  rintro e w2 ⟨x, rfl, hx, hg2, hr2⟩
  have HB2 := Lib.hid (HB1.out.trans (below_of_grown hg2 HB1.out.size (by intro q hq; injection hq with hq; omega)))
  have HR2 := Lib.hid hr2
  clear hr1 hg2 hr2
  go_wp2_with fail
  refine (odd_any _ _ _ _ HR2.out (by omega) (by omega) (by omega)).mono ?_
  rintro e w3 ⟨b, rfl, hg3, hr3⟩
  have HB3 := Lib.hid (HB2.out.trans (below_of_grown hg3 HB2.out.size (by intro q hq; injection hq with hq; omega)))
  have HR3 := Lib.hid hr3
  clear hg3 hr3
  cases b
  · go_wp2
    go_ret
    exact ⟨x, rfl, by omega, HB3.out⟩
  · go_wp2_with fail
    refine (pick_any _ _ _ _ (HR3.out.alloc_ _) (by omega) (by omega) (by omega)).mono ?_
    rintro e w4 ⟨v, rfl, hv, hg4, hr4⟩
    have hv5 : v < 5 := by omega
    have hws := HB3.out.size
    have hl1 := HB1.out.size
    have hRl := HR3.out.lt
    obtain ⟨y, hy, s, rfl, hs⟩ := lit_at hg4 (by intro e; injection e with e; omega) (five_lits x hx) v (by simpa using hv5)
    have HB4 := Lib.hid ((HB3.out.alloc HB3.out.size _).grown hg4 (by simp only [World.size_alloc]; omega) (by intro q hq; injection hq with hq; omega))
    clear hg4 hr4 hv
    go_wp2
    go_ret
    exact ⟨s, rfl, hs, HB4.out⟩
end Go.Proofs.YtoajdkcdjdbliaaDoor
