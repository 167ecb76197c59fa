/- The drawn bytes and lines of the laws on soft lines: what the generators hand on, for every state of the reader. -/
import Derived.Test.YtnehdaocfijcpaaDrawS
import Derived.Test.YtnehdaocfijcpaaSoftPlain
namespace Go.Proofs.Ytnehdaocfijcpaa
open Go.RowKit

def RawPost (w : World) (R k K m : Nat) (e : Ending) (w' : World) : Prop :=
  ∃ (v : Value) (l : List UInt8), e = .returned v ∧ l.length ≤ m ∧ w'.ownsRow w.heap.size 5 1 v l.length (l.map byteV) ∧ w.grownBy w' (some R) ∧ Rdr w' R (k - K)
def ByteLike (x : Value) : Prop := ∃ b : UInt8, x = .int .u8 (b.toNat : Int)
theorem byteLike (z : Int) (h0 : 0 ≤ z) (h1 : z ≤ 255) : ByteLike (.int .u8 z) := ⟨UInt8.ofNat z.toNat, by rw [UInt8.toNat_ofNat']; congr 1; omega⟩
theorem raw_lits (a b : Int) (ha : 0 ≤ a) (ha' : a ≤ 255) (hb : 0 ≤ b) (hb' : b ≤ 255) : ∀ x ∈ (#[Value.int .u8 a, .int .u8 b, .int .u8 255, .int .u8 0, .int .u8 61, .int .u8 32] : Array Value).toList, ByteLike x := by
  intro x hx
  simp at hx
  rcases hx with rfl | rfl | rfl | rfl | rfl | rfl <;> exact byteLike _ (by omega) (by omega)
set_option maxHeartbeats 1600000 in
theorem raw_any (w : World) (R k m : Nat) (h : Rdr w R k) (hk : 400 ≤ k) (hm : m ≤ 100) :
    Calls Try.prog 29 #[.pointer (some ⟨R, 0, none⟩), .int .i64 (m : Int)] w (RawPost w R k 400 m) := by
  have hRl := h.lt
  go_enter Try.func29, Try.ntmps29
  go_wp2_with fail
  refine (pick_any _ _ k _ (h.kept (World.grownBy_alloc _ _ none) (by simp)) (by omega) (by omega) (by omega)).mono ?_
  rintro e w1 ⟨v, rfl, hv, hg1, hr1⟩
  have hvm : v ≤ m := by omega
  have O0 := Lib.hid (own_R (own_new w #[] 5 0 rfl (by omega)) hg1 hRl)
  have HG1 := Lib.hid ((World.grownBy_alloc w (.cells #[] 5 (0, 0)) (some R)).trans hg1)
  have HR1 := Lib.hid hr1
  clear hg1 hr1 h hv
  go_wp2
  go_loopw [5, 6] (fun o i wr => ∃ (j : Nat) (acc : List UInt8), i = .int .i64 j ∧ acc.length + j ≤ m ∧ wr.ownsRow w.heap.size 5 1 o acc.length (acc.map byteV) ∧ w.grownBy wr (some R) ∧ Rdr wr R (k - 400 + 3 * j)) (fun _ i _ => (intOf i).toNat)
  case atStart => exact ⟨v, [], rfl, (by simpa using hvm), O0.out, HG1.out, HR1.out.less (by omega)⟩
  case round =>
    obtain ⟨j, acc, rfl, hx, own, hg, hr⟩ := hrel
    have O1 := Lib.hid own
    have HG := Lib.hid hg
    have HR := Lib.hid hr
    obtain ⟨av, cv, rfl, _, kv, kv', _⟩ := own_formn own
    have hws := hg.size
    clear own hg hr
    by_cases h0 : 0 < j
    · go_wp2_with fail
      refine (pick_any _ _ (k - 400 + 3 * j) _ HR.out (by omega) (by omega) (by omega)).mono ?_
      rintro e w2 ⟨v2, rfl, hv2, hg2, hr2⟩
      have hv2' : v2 < 256 := by omega
      have hv20 : (0 : Int) ≤ (v2 : Int) := by omega
      have O2 := Lib.hid (own_R O1.out hg2 hRl)
      have HG2 := Lib.hid (HG.out.trans hg2)
      have HR2 := Lib.hid hr2
      clear hg2 hr2 hv2
      go_wp2_with fail
      refine (pick_any _ _ (k - 400 + 3 * j - 1) _ HR2.out (by omega) (by omega) (by omega)).mono ?_
      rintro e w3 ⟨v3, rfl, hv3, hg3, hr3⟩
      have hv3' : v3 < 26 := by omega
      have O3 := Lib.hid (own_R O2.out hg3 hRl)
      have HG3 := Lib.hid (HG2.out.trans hg3)
      have HR3 := Lib.hid hr3
      clear hg3 hr3 hv3
      go_wp2_with fail
      refine (pick_any _ _ (k - 400 + 3 * j - 2) _ (HR3.out.kept (World.grownBy_alloc _ _ none) (by simp)) (by omega) (by omega) (by omega)).mono ?_
      rintro e w4 ⟨v4, rfl, hv4, hg4, hr4⟩
      have hv6 : v4 < 6 := by omega
      obtain ⟨y, hy, b, rfl⟩ := lit_at hg4 (by have := HG3.out.size; intro e; injection e with e; omega) (raw_lits (v2 : Int) (97 + (v3 : Int)) (by omega) (by omega) (by omega) (by omega)) v4 (by simp; omega)
      have GA := (World.grownBy_alloc w3 (.cells #[.int .u8 (v2 : Int), .int .u8 (97 + (v3 : Int)), .int .u8 255, .int .u8 0, .int .u8 61, .int .u8 32] 5 (0, 0)) (some R)).trans hg4
      have O4 := Lib.hid (own_R O3.out GA hRl)
      have HG4 := Lib.hid (HG3.out.trans GA)
      have HR4 := Lib.hid (hr4.less (k' := k - 400 + 3 * (j - 1)) (by omega))
      have hws4 := HG4.out.size
      clear hg4 hr4 hv4 GA
      go_wp2_with (at_builtin; refine wpList_push (.tmp 16) (.tmp 29) w.heap.size b _ acc O4.out hws4 (by omega) rfl (by rfl) (by rfl) (by rfl) ?_; intro v5 w5 o5 b5; have O5 := Lib.hid o5; have B5 := Lib.hid b5; clear o5 b5)
      go_roundw
      case rel => exact ⟨j - 1, acc ++ [b], by go_num, by simp; omega, O5.out, grown_below HG4.out B5.out, HR4.out.below B5.out hRl⟩
      case measure => simp [intOf]; omega
    · obtain rfl : j = 0 := by omega
      go_wp2
      go_ret
      exact ⟨_, acc, rfl, by omega, O1.out, HG.out, HR.out.less (by omega)⟩
end Go.Proofs.Ytnehdaocfijcpaa
