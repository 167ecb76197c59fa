/- The drawn words. -/
import Derived.Test.YtfidcfjmmhghjaaDraw
namespace Go.Proofs.Ytfidcfjmmhghjaa
open Go.RowKit

theorem rdr_alloc {w : World} {R k : Nat} (h : Rdr w R k) (o : Obj) : Rdr (w.alloc o) R k := h.kept (World.grownBy_alloc _ _ none) (by simp)
/-- A short string. -/
def Short (m : Nat) (x : Value) : Prop := ∃ s : ByteArray, x = .string s ∧ s.size ≤ m
def StrPost (w : World) (R k K m : Nat) (e : Ending) (w' : World) : Prop :=
  ∃ s : ByteArray, e = .returned (.string s) ∧ s.size ≤ m ∧ w.grownBy w' (some R) ∧ Rdr w' R (k - K)
theorem word_lits : ∀ x ∈ (#[Value.string ⟨#[]⟩, .string ⟨#[97]⟩, .string ⟨#[97, 46, 98, 47, 99]⟩, .string ⟨#[105, 116, 39, 115]⟩, .string ⟨#[36, 40, 120, 41, 59, 32, 114, 109]⟩, .string ⟨#[97, 32, 98]⟩, .string ⟨#[39]⟩, .string ⟨#[34, 113, 34]⟩, .string ⟨#[120, 39, 32, 111, 114, 32, 39, 49, 39, 61, 39, 49]⟩, .string ⟨#[63]⟩] : Array Value).toList, Short 12 x := by
  intro x hx
  simp only [List.mem_cons, List.not_mem_nil, or_false] at hx
  rcases hx with rfl | rfl | rfl | rfl | rfl | rfl | rfl | rfl | rfl | rfl <;> exact ⟨_, rfl, by decide⟩

set_option maxHeartbeats 800000 in
theorem word_any (w : World) (R k : Nat) (n : Int) (h : Rdr w R k) (hk : 20 ≤ k) (hn : 0 ≤ n) (hn' : n ≤ 1000) :
    Calls Try.prog 12 #[.pointer (some ⟨R, 0, none⟩), .int .i64 n] w (StrPost w R k 8 12) := by
  have hRl := h.lt
  go_enter Try.func12, Try.ntmps12
  go_wp2_with fail
  refine (odd_any _ _ k _ h (by omega) (by omega) (by omega)).mono ?_
  rintro e w1 ⟨b, rfl, hg1, hr1⟩
  have HG1 := Lib.hid hg1
  have hs1 := hg1.size
  clear hg1 h
  cases b
  · go_wp2_with fail
    refine (pick_any _ _ (k - 1) _ (rdr_alloc hr1 _) (by omega) (by omega) (by omega)).mono ?_
    rintro e w2 ⟨v, rfl, hv, hg2, hr2⟩
    have hv10 : v < 10 := by omega
    obtain ⟨z, hz, s, rfl, hs⟩ := lit_at hg2 (by intro e; injection e with e; omega) word_lits v (by simpa using hv10)
    have HG2 := Lib.hid ((HG1.out.trans (World.grownBy_alloc _ _ _)).trans hg2)
    have HR2 := Lib.hid (hr2.less (k' := k - 8) (by omega))
    clear hg2 hr2 hv
    go_wp2
    go_ret
    exact ⟨s, rfl, hs, HG2.out, HR2.out⟩
  · have HR1 := Lib.hid (hr1.less (k' := k - 8) (by omega))
    go_wp2
    go_ret
    exact ⟨_, rfl, by decide, HG1.out, HR1.out⟩

end Go.Proofs.Ytfidcfjmmhghjaa
