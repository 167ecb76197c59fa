/- The reader of drawn codes: what one pick does, for every state of the reader. -/
import Derived.Test.YtdoomfckdjjlaaaBase
namespace Go.Proofs.Ytdoomfckdjjlaaa
open Go.RowKit

/-- Block R holds a reader over bytes that lie in an elder block; it may still be asked k times. -/
def Rdr (w : World) (R : Nat) (k : Nat) : Prop :=
  ∃ (a : Option Addr) (n c : Nat) (p : Nat), w.heap[R]? = some (.cells #[.slice a n c, .int .i64 (p : Int)] 70 (0, 0)) ∧ p + k ≤ 1099511627776 ∧ n ≤ 2000 ∧
    ∀ i, i < n → ∃ b off, a = some ⟨b, off, none⟩ ∧ b < R ∧ ∃ z : Nat, z < 256 ∧ w.cell? ⟨b, off + i, none⟩ = some (.int .u8 (z : Int))

theorem Rdr.less {w : World} {R k k' : Nat} (h : Rdr w R k) (hk : k' ≤ k) : Rdr w R k' := by
  obtain ⟨a, n, c, p, hR, hp, hn, hb⟩ := h
  exact ⟨a, n, c, p, hR, by omega, hn, hb⟩

theorem Rdr.lt {w : World} {R k : Nat} (h : Rdr w R k) : R < w.heap.size := by
  obtain ⟨a, n, c, p, hR, _⟩ := h
  exact (Array.getElem?_eq_some_iff.1 hR).1

theorem Rdr.kept {w w' : World} {R k : Nat} {row : Option Nat} (h : Rdr w R k) (hg : w.grownBy w' row) (hr : ∀ g, row = some g → R < g) : Rdr w' R k := by
  have hlt := h.lt
  obtain ⟨a, n, c, p, hR, hp, hn, hb⟩ := h
  refine ⟨a, n, c, p, (hg.block R hlt (fun e => by have := hr R e.symm; omega)).trans hR, hp, hn, fun i hi => ?_⟩
  obtain ⟨b, off, ha, hbR, z, hz, hc⟩ := hb i hi
  exact ⟨b, off, ha, hbR, z, hz, hg.cell hc (fun e => by have := hr b e.symm; omega)⟩

theorem rdr_step {w : World} {R k : Nat} {a : Option Addr} {n c p : Nat} (hk : 1 ≤ k) (hR : w.heap[R]? = some (.cells #[.slice a n c, .int .i64 (p : Int)] 70 (0, 0))) (hp : p + k ≤ 1099511627776) (hn : n ≤ 2000)
    (hb : ∀ i, i < n → ∃ b off, a = some ⟨b, off, none⟩ ∧ b < R ∧ ∃ z : Nat, z < 256 ∧ w.cell? ⟨b, off + i, none⟩ = some (.int .u8 (z : Int))) (nq : Nat) (x : Int) (hx : x = (p : Int) + 1) :
    w.grownBy ((w.setCell ⟨R, 1, none⟩ (.int .i64 x)).drewN nq) (some R) ∧ Rdr ((w.setCell ⟨R, 1, none⟩ (.int .i64 x)).drewN nq) R (k - 1) := by
  subst hx
  refine ⟨grown_drewN (grown_setCell (grown_refl _ _) _ _) _, a, n, c, p + 1, ?_, by omega, hn, fun i hi => ?_⟩
  · have := heap_setCell_same w R 1 _ _ (.int .i64 ((p : Int) + 1)) hR
    exact this
  · obtain ⟨b, off, ha, hbR, z, hz, hc⟩ := hb i hi
    refine ⟨b, off, ha, hbR, z, hz, ?_⟩
    have : (w.setCell ⟨R, 1, none⟩ (.int .i64 ((p : Int) + 1))).cell? ⟨b, off + i, none⟩ = w.cell? ⟨b, off + i, none⟩ := World.cell?_setCell_other _ _ _ _ (by intro e; injection e with e1; omega)
    exact this.trans hc

def PickPost (w : World) (R k : Nat) (m : Int) (e : Ending) (w' : World) : Prop :=
  ∃ v : Nat, e = .returned (.int .i64 (v : Int)) ∧ ((v : Int) < m ∨ v = 0) ∧ w.grownBy w' (some R) ∧ Rdr w' R (k - 1)

theorem i64_xor_nat (a b : Nat) (ha : a < 9223372036854775808) (hb : b < 9223372036854775808) : bits .xor .i64 (a : Int) (b : Int) = ((a ^^^ b : Nat) : Int) := by
  have hx : a ^^^ b < 2 ^ 63 := Nat.xor_lt_two_pow (by omega) (by omega)
  have e : ∀ x : Nat, x < 9223372036854775808 → (BitVec.ofInt 64 (x : Int)).toNat = x := fun x h => by
    rw [BitVec.ofInt_natCast, BitVec.toNat_ofNat]; exact Nat.mod_eq_of_lt (by omega)
  show IntKind.i64.wrap ((BitVec.ofInt 64 (a : Int) ^^^ BitVec.ofInt 64 (b : Int)).toNat : Int) = _
  rw [BitVec.toNat_xor, e a ha, e b hb, IntKind.wrap_i64]
  omega

theorem xor_mod (X m : Int) (h0 : 0 ≤ X) (h1 : X < 4611686018427387904) (hm : 1 ≤ m) : ∃ v : Nat, (bits .xor .i64 X (wrap64 (X.tdiv 64))).tmod m = (v : Int) ∧ (v : Int) < m := by
  obtain ⟨x, rfl⟩ := Int.eq_ofNat_of_zero_le h0
  have e1 : wrap64 ((x : Int).tdiv 64) = ((x / 64 : Nat) : Int) := by
    rw [Int.tdiv_eq_ediv_of_nonneg (by omega), IntWalk.wrap64_in _ ⟨by omega, by omega⟩]; omega
  rw [e1, i64_xor_nat x (x / 64) (by omega) (by omega), Int.tmod_eq_emod_of_nonneg (by omega)]
  refine ⟨(((x ^^^ (x / 64) : Nat) : Int) % m).toNat, (Int.toNat_of_nonneg (Int.emod_nonneg _ (by omega))).symm, ?_⟩
  rw [Int.toNat_of_nonneg (Int.emod_nonneg _ (by omega))]
  exact Int.emod_lt_of_pos _ (by omega)

theorem pick_val (p n z z' : Nat) (m : Int) (hp : p ≤ 1099511627776) (hn : 1 ≤ n) (hz : z < 256) (hz' : z' < 256) (hm : 1 ≤ m) :
    ∃ v : Nat, (bits BinOp.xor IntKind.i64 (wrap64 ((z : Int) * 131 + (z' : Int) * 1117 + (p : Int) * 29 + wrap64 (wrap64 ((p : Int) / (n : Int)) * 53)))
                (wrap64 ((wrap64 ((z : Int) * 131 + (z' : Int) * 1117 + (p : Int) * 29 + wrap64 (wrap64 ((p : Int) / (n : Int)) * 53))).tdiv 64))).tmod m = (v : Int) ∧ (v : Int) < m := by
  have hq0 : 0 ≤ (p : Int) / (n : Int) := Int.ediv_nonneg (by omega) (by omega)
  have hq1 : (p : Int) / (n : Int) ≤ (p : Int) := Int.ediv_le_self _ (by omega)
  generalize (p : Int) / (n : Int) = q at hq0 hq1 ⊢
  have e1 : wrap64 q = q := IntWalk.wrap64_in _ ⟨by omega, by omega⟩
  have e2 : wrap64 (q * 53) = q * 53 := IntWalk.wrap64_in _ ⟨by omega, by omega⟩
  have e3 : wrap64 ((z : Int) * 131 + (z' : Int) * 1117 + (p : Int) * 29 + q * 53) = (z : Int) * 131 + (z' : Int) * 1117 + (p : Int) * 29 + q * 53 := IntWalk.wrap64_in _ ⟨by omega, by omega⟩
  rw [e1, e2, e3]
  exact xor_mod _ m (by omega) (by omega) hm

set_option maxHeartbeats 400000 in
theorem pick_any (w : World) (R k : Nat) (m : Int) (h : Rdr w R k) (hk : 1 ≤ k) (hm : -2147483648 ≤ m) (hm' : m ≤ 2147483647) :
    Calls Try.prog 38 #[.pointer (some ⟨R, 0, none⟩), .int .i64 m] w (PickPost w R k m) := by
  obtain ⟨a, n, c, p, hR, hp, hn, hb⟩ := h
  have S := rdr_step hk hR hp hn hb
  have c0 : w.cell? ⟨R, 0, none⟩ = some (.slice a n c) := by rw [cell_of_row w R 0 _ _ _ hR]; rfl
  have c1 : w.cell? ⟨R, 1, none⟩ = some (.int .i64 (p : Int)) := by rw [cell_of_row w R 1 _ _ _ hR]; rfl
  have f1 : w.frozen? ⟨R, 1, none⟩ = false := by simp [World.frozen?, hR]
  have HS := Lib.hid S; clear S
  have HR := Lib.hid hR; clear hR
  by_cases h1 : m < 1
  · clear hb
    go_enter Try.func38, Try.ntmps38
    go_wp2
    go_ret
    exact ⟨0, rfl, .inr rfl, HS.out 0 _ rfl⟩
  · by_cases h2 : n = 0
    · subst h2
      clear hb
      go_enter Try.func38, Try.ntmps38
      go_wp2
      go_ret
      exact ⟨0, rfl, .inr rfl, HS.out 0 _ rfl⟩
    · have h2' : ((n : Int) == 0) = false := by simp; omega
      by_cases h3 : p < n
      · obtain ⟨b, off, rfl, hbR, z, hz, hc⟩ := hb p h3
        have hbr : R ≠ b := by omega
        have hz0 : 0 ≤ (z : Int) := by omega
        clear hb
        go_enter Try.func38, Try.ntmps38
        go_wp2
        go_ret
        have hmp : 0 < m := by omega
        have e1 : ((z : Int) % m) = (((z : Int) % m).toNat : Int) := (Int.toNat_of_nonneg (Int.emod_nonneg _ (by omega))).symm
        exact ⟨((z : Int) % m).toNat, by rw [← e1]; rfl, .inl (by rw [← e1]; exact Int.emod_lt_of_pos _ hmp), HS.out 0 _ rfl⟩
      · obtain ⟨b, off, rfl, hbR, z, hz, hc⟩ := hb (p % n) (Nat.mod_lt _ (by omega))
        obtain ⟨b', off', ha, hbR', z', hz', hc'⟩ := hb ((p * 7 + 3) % n) (Nat.mod_lt _ (by omega))
        obtain ⟨rfl, rfl⟩ : b = b' ∧ off = off' := by injection ha with ha; injection ha with h1 h2; exact ⟨h1, h2⟩
        clear hb ha
        go_enter Try.func38, Try.ntmps38
        go_wp2
        have b1 : (0 : Int) ≤ (p : Int) % (n : Int) := Int.emod_nonneg _ (by omega)
        have b2 : (p : Int) % (n : Int) < (n : Int) := Int.emod_lt_of_pos _ (by omega)
        have b3 : (0 : Int) ≤ ((p : Int) * 7 + 3) % (n : Int) := Int.emod_nonneg _ (by omega)
        have b4 : ((p : Int) * 7 + 3) % (n : Int) < (n : Int) := Int.emod_lt_of_pos _ (by omega)
        go_quiet (fail)
        go_wp2
        go_ret
        obtain ⟨v, hv, hvm⟩ := pick_val p n z z' m (by omega) (by omega) hz hz' (by omega)
        exact ⟨v, by rw [← hv]; rfl, .inl hvm, HS.out _ _ rfl⟩
end Go.Proofs.Ytdoomfckdjjlaaa
