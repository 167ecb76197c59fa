/- The reader of drawn codes: how it is opened, and what its yes-or-no question answers, for every state of the reader. -/
import Derived.Test.YtdoomfckdjjlaaaPick
namespace Go.Proofs.Ytdoomfckdjjlaaa
open Go.RowKit

def OpenPost (w : World) (e : Ending) (w' : World) : Prop :=
  e = .returned (.pointer (some ⟨w.heap.size, 0, none⟩)) ∧ Below w.heap.size w w' ∧ Rdr w' w.heap.size 1000000

theorem open_rdr (w : World) (a : Option Addr) (n c : Nat) (f : Nat → UInt8) (hb : BytesAt w a n f) (hn : n ≤ 2000) :
    Rdr (w.alloc (.cells #[.slice a n c, .int .i64 0] 70)) w.heap.size 1000000 := by
  refine ⟨a, n, c, 0, heap_alloc_new w _, by omega, hn, fun i hi => ?_⟩
  obtain ⟨b, off, ha, hlt, hc⟩ := hb i hi
  exact ⟨b, off, ha, hlt, (f i).toNat, (f i).toNat_lt, ((Below.refl w.heap.size w).alloc (Nat.le_refl _) _).cell (p := ⟨b, off + i, none⟩) hlt |>.trans hc⟩

theorem open_any (w : World) (a : Option Addr) (n c : Nat) (f : Nat → UInt8) (hb : BytesAt w a n f) (hc : n ≤ c) (hc' : c ≤ 9223372036854775807) :
    Calls Try.prog 33 #[.slice a n c] w (OpenPost w) := by
  by_cases h : 2000 < n
  · have hb' : BytesAt w a 2000 f := fun i hi => hb i (by omega)
    have H := Lib.hid (open_rdr w a 2000 c f hb' (by omega))
    clear hb hb'
    go_enter Try.func33, Try.ntmps33
    go_wp2
    go_ret
    exact ⟨rfl, (Below.refl _ _).alloc (Nat.le_refl _) _, H.out⟩
  · have H := Lib.hid (open_rdr w a n c f hb (by omega))
    clear hb
    go_enter Try.func33, Try.ntmps33
    go_wp2
    go_ret
    exact ⟨rfl, (Below.refl _ _).alloc (Nat.le_refl _) _, H.out⟩

def OddPost (w : World) (R k : Nat) (e : Ending) (w' : World) : Prop :=
  ∃ b : Bool, e = .returned (.bool b) ∧ w.grownBy w' (some R) ∧ Rdr w' R (k - 1)

theorem odd_any (w : World) (R k : Nat) (m : Int) (h : Rdr w R k) (hk : 1 ≤ k) (hm : -2147483648 ≤ m) (hm' : m ≤ 2147483647) :
    Calls Try.prog 37 #[.pointer (some ⟨R, 0, none⟩), .int .i64 m] w (OddPost w R k) := by
  by_cases h0 : 0 < m
  · go_enter Try.func37, Try.ntmps37
    go_wp2_with (go_at_call 38; refine (pick_any _ _ k _ h hk (by omega) (by omega)).mono ?_; rintro e w1 ⟨v, rfl, hv, hg, hr⟩)
    go_ret
    exact ⟨_, rfl, hg, hr⟩
  · go_enter Try.func37, Try.ntmps37
    go_wp2
    go_ret
    exact ⟨false, rfl, grown_refl _ _, h.less (by omega)⟩
end Go.Proofs.Ytdoomfckdjjlaaa
