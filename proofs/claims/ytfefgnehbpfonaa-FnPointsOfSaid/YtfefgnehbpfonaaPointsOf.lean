/- Contracts of PointsOf, of the program and of the reference: both compute the plain function poB. -/
import Derived.Test.YtfefgnehbpfonaaGetImpl
import Derived.Test.YtfefgnehbpfonaaApp
import Derived.Test.YtfefgnehbpfonaaInts
import Derived.Test.YtfefgnehbpfonaaPtPlain
namespace Go.Proofs.Ytfefgnehbpfonaa
open Go.RowKit

/-- What getP answers: nothing, or a point whose bytes stand there. -/
theorem getP_two (b : List UInt8) (at_ : Int) : getP b at_ = (-1, at_) ∨
    ∃ (p L : Nat) (N : Int), at_ = (p : Int) ∧ 1 ≤ L ∧ p + L ≤ b.length ∧ getP b at_ = (N, ((p + L : Nat) : Int)) ∧ putP N = (b.drop p).take L ∧ ptB N = true := by
  by_cases hin : 0 ≤ at_ ∧ at_ < b.length
  · obtain ⟨p, rfl⟩ := Int.eq_ofNat_of_zero_le hin.1
    have hp : p < b.length := by omega
    obtain ⟨L, init, hc, hcase⟩ := cls_cases (b.getD p 0).toNat
    by_cases hl : p + L ≤ b.length
    · by_cases he : putP (decN (byteAt b p) init (L - 1)) = (b.drop p).take L
      · refine .inr ⟨p, L, _, rfl, by omega, hl, by rw [getP_yes hp hc hl he]; congr 1, he, ?_⟩
        by_cases hv : ptB (decN (byteAt b p) init (L - 1)) = true
        · exact hv
        · rw [put_0 (by simpa using hv)] at he
          have := congrArg List.length he
          simp at this
          omega
      · exact .inl (getP_no hp hc he)
    · exact .inl (getP_short hp hc (by omega))
  · exact .inl (getP_out hin)

/-- The points from a place on, behind the points so far. -/
def poT (b : List UInt8) : Nat → Nat → List Int → List Int × Bool
  | 0, _, acc => (acc, true)
  | k + 1, p, acc => if p < b.length then (if (getP b (p : Int)).1 < 0 then ([], false) else poT b k (getP b (p : Int)).2.toNat (acc ++ [(getP b (p : Int)).1])) else (acc, true)

theorem poT_fuel (b : List UInt8) : ∀ (k k' p : Nat) (acc : List Int), b.length ≤ p + k → b.length ≤ p + k' → poT b k p acc = poT b k' p acc := by
  intro k
  induction k with
  | zero =>
    intro k' p acc h h'
    cases k' with
    | zero => rfl
    | succ k' => rw [poT, poT, if_neg (by omega)]
  | succ k ih =>
    intro k' p acc h h'
    cases k' with
    | zero => rw [poT, poT, if_neg (by omega)]
    | succ k' =>
      rw [poT, poT]
      by_cases hp : p < b.length
      · rw [if_pos hp, if_pos hp]
        rcases getP_two b (p : Int) with he | ⟨p', L, N, hpp, h1, h2, he, _, hv⟩
        · rw [he, if_pos (by show (-1 : Int) < 0; omega), if_pos (by show (-1 : Int) < 0; omega)]
        · have hN := (ptB_t.1 hv).1
          obtain rfl : p = p' := by omega
          rw [he, if_neg (by show ¬ N < 0; omega), if_neg (by show ¬ N < 0; omega)]
          exact ih k' _ _ (by show b.length ≤ ((p + L : Nat) : Int).toNat + k; omega) (by show b.length ≤ ((p + L : Nat) : Int).toNat + k'; omega)
      · rw [if_neg hp, if_neg hp]

def poB (b : List UInt8) : List Int × Bool := if 600 < b.length then ([], false) else poT b b.length 0 []
theorem poB_long {b : List UInt8} (h : 600 < b.length) : poB b = ([], false) := if_pos h
theorem poB_short {b : List UInt8} (h : ¬ 600 < b.length) : poB b = poT b b.length 0 [] := if_neg h

theorem poT_bad {b : List UInt8} {p : Nat} {acc : List Int} (hp : p < b.length) (h : getP b (p : Int) = (-1, (p : Int))) : poT b (b.length - p) p acc = ([], false) := by
  obtain ⟨k, hk⟩ : ∃ k, b.length - p = k + 1 := ⟨b.length - p - 1, by omega⟩
  rw [hk, poT, if_pos hp, h, if_pos (by show (-1 : Int) < 0; omega)]
theorem poT_end {b : List UInt8} {p : Nat} {acc : List Int} (hp : ¬ p < b.length) : poT b (b.length - p) p acc = (acc, true) := by
  rw [show b.length - p = 0 from by omega, poT]
theorem poT_go {b : List UInt8} {p L : Nat} {N : Int} {acc : List Int} (hp : p < b.length) (hL : 1 ≤ L) (h : getP b (p : Int) = (N, ((p + L : Nat) : Int))) (hN : 0 ≤ N) : poT b (b.length - p) p acc = poT b (b.length - (p + L)) (p + L) (acc ++ [N]) := by
  obtain ⟨k, hk⟩ : ∃ k, b.length - p = k + 1 := ⟨b.length - p - 1, by omega⟩
  rw [hk, poT, if_pos hp, h, if_neg (by show ¬ N < 0; omega)]
  exact poT_fuel b _ _ _ _ (by show b.length ≤ ((p + L : Nat) : Int).toNat + k; omega) (by show b.length ≤ ((p + L : Nat) : Int).toNat + _; omega)

/-- Numbers in new memory, and a truth. -/
def IntsOk (w : World) (r : List Int × Bool) (e : Ending) (w' : World) : Prop :=
  ∃ v, e = .returned (.tuple #[v, .bool r.2]) ∧ w'.ownsRow w.heap.size 3 1 v r.1.length (r.1.map intV) ∧ Below w.heap.size w w'

theorem ints_one (l : List Int) : ∀ u ∈ l.map intV, u.oneCell' = true := by
  intro u hu
  obtain ⟨b, _, rfl⟩ := List.mem_map.1 hu
  rfl

set_option maxRecDepth 100000 in
set_option maxHeartbeats 1600000 in
theorem spec_PointsOf (a : Option Addr) (n c : Nat) (b : List UInt8) (w : World) (h : RowAt w a (b.map byteV)) (hn : b.length = n) (hn' : n ≤ 4611686018427387904) :
    Calls Try.prog 40 #[.slice a n c] w (IntsOk w (poB b)) := by
  by_cases hlong : 600 < n
  · have HR : Hid (poB b = ([], false)) := poB_long (by omega)
    have H := Lib.hid h; have HN := Lib.hid hn
    have CG := spec_GetPoint a n c b 0 (w.alloc (.cells #[] 3 (0, 0))) (h.below (Nat.le_refl _) ((Below.refl _ _).alloc (Nat.le_refl _) _)) hn hn' (by omega) (by omega)
    clear h hn
    have CG' := Lib.hid CG; clear CG
    go_enter Try.func40, Try.ntmps40
    go_wp2
    refine wp_loop_rounds 1 ?_
    rw [rounds_succ]
    by_cases hneg : (getP b 0).1 < 0
    all_goals
      go_wp2_with (go_at_call 34; refine CG'.out.mono ?_; rintro e w2 ⟨rfl, b2⟩; have B2 := Lib.hid b2; clear b2)
      go_ret2
      have B3 : Below w.heap.size w w2 := ((Below.refl _ _).alloc (Nat.le_refl _) _).trans (B2.out.mono (by simp))
      exact ⟨_, by rw [HR.out]; rfl, by rw [HR.out]; exact own_mono (own_new w2 #[] 3 0 rfl (by omega)) B3.size, B3.alloc B3.size _⟩
  · have HR : Hid (poB b = poT b (b.length - 0) 0 []) := poB_short (by omega)
    obtain ⟨i0, hi, hz0, hz1, hz2⟩ := info_parts info_i64
    have HI := Lib.hid hi; have HZ0 := Lib.hid hz0; have HZ1 := Lib.hid hz1; have HZ2 := Lib.hid hz2
    have H := Lib.hid h; have HN := Lib.hid hn
    clear hi hz0 hz1 hz2 h hn
    go_enter Try.func40, Try.ntmps40
    go_wp2
    have O0 := Lib.hid (own_new w #[] 3 0 rfl (by omega))
    go_loopw [4, 5] (fun v t wr => ∃ (p : Nat) (acc : List Int), p ≤ n ∧ t = .int .i64 (p : Int) ∧ acc.length ≤ p ∧ Hid (poT b (b.length - p) p acc = poB b) ∧ wr.ownsRow w.heap.size 3 1 v acc.length (acc.map intV) ∧ Below w.heap.size w wr) (fun _ t _ => n - (intOf t).toNat)
    case atStart => exact ⟨0, [], Nat.zero_le _, rfl, by simp, HR.out.symm, O0.out, (Below.refl _ _).alloc (Nat.le_refl _) _⟩
    case round =>
      obtain ⟨p, acc, hp, rfl, hacc, HT, own, hb⟩ := hrel
      have O1 := Lib.hid own; have B1 := Lib.hid hb
      obtain ⟨av, cv, rfl, _, kv, kv', _⟩ := own_formn own
      clear own hb
      by_cases hpn : p < n
      · have CG := spec_GetPoint a n c b (p : Int) wr (H.out.below (Nat.le_refl _) B1.out) HN.out (by omega) (by omega) (by omega)
        rcases getP_two b (p : Int) with he | ⟨p', L, N, hpp, h1, h2, he, _, hv⟩
        · have HB : Hid (poB b = ([], false)) := by rw [← HT.out]; exact poT_bad (by rw [HN.out]; exact hpn) he
          rw [he] at CG
          have CG' := Lib.hid CG
          clear he CG
          go_wp2_with (go_at_call 34; refine CG'.out.mono ?_; rintro e w2 ⟨rfl, b2⟩; have B2 := Lib.hid b2; clear b2)
          go_ret2
          have B3 := B1.out.trans (B2.out.mono B1.out.size)
          exact ⟨_, by rw [HB.out]; rfl, by rw [HB.out]; exact own_mono (own_new w2 #[] 3 0 rfl (by omega)) B3.size, B3.alloc B3.size _⟩
        · obtain rfl : p = p' := by omega
          have hN := (ptB_t.1 hv).1
          have HB : Hid (poT b (b.length - (p + L)) (p + L) (acc ++ [N]) = poB b) := by rw [← HT.out]; exact (poT_go (by rw [HN.out]; exact hpn) h1 he hN).symm
          have h2' : p + L ≤ n := by have := HN.out; omega
          rw [he] at CG
          have CG' := Lib.hid CG
          clear he CG h2 hv hpp
          go_wp2_with (first
            | (go_at_call 34; refine CG'.out.mono ?_; rintro e w2 ⟨rfl, b2⟩; have B2 := Lib.hid b2; clear b2)
            | (at_builtin; refine wpList_append_row rfl (.tmp 27) (.tmp 29) _ rfl w.heap.size 3 i0 _ 8 Try.underlying33 HI.out HZ0.out HZ1.out HZ2.out rfl (.slice av acc.length cv) acc.length (acc.map intV) rfl (own_below (own_below O1.out B2.out) ((Below.refl _ _).alloc (Nat.le_refl _) _)) (some ⟨w2.heap.size, 0, none⟩) 1 1 [.int .i64 N] rfl (by intro e; cases e) (own_formn_row (own_new w2 #[.int .i64 N] 3 1 rfl (by omega))) rfl (ints_one [N]) (by omega) (by omega) (by have := B1.out.size; have := B2.out.size; simp; omega) ?_; intro v5 w5 o5 h5 _; have O5 := Lib.hid o5; have H5 := Lib.hid h5; clear o5 h5))
          have BB2 := B1.out.trans (B2.out.mono B1.out.size)
          have B5 := Lib.hid ((BB2.alloc BB2.size _).grown H5.out (by have := BB2.size; simp; omega) (fun q hq => (own_ge O1.out q hq).1))
          clear BB2
          go_roundw
          case rel => exact ⟨p + L, acc ++ [N], by omega, by go_num, by simp; omega, HB, by simpa [intV] using O5.out, B5.out⟩
          case measure => simp [intOf]; omega
      · have HB : Hid (poB b = (acc, true)) := by rw [← HT.out]; exact poT_end (by rw [HN.out]; exact hpn)
        go_wp2
        go_ret2
        exact ⟨_, by rw [HB.out]; rfl, by rw [HB.out]; exact O1.out, B1.out⟩

set_option maxRecDepth 100000 in
set_option maxHeartbeats 1600000 in
theorem impl_PointsOf (a : Option Addr) (n c : Nat) (b : List UInt8) (w : World) (h : RowAt w a (b.map byteV)) (hn : b.length = n) (hcap : n ≤ c) (hcap' : c ≤ 9223372036854775807) (hn' : n ≤ 4611686018427387904) :
    Calls Try.prog 38 #[.slice a n c] w (IntsOk w (poB b)) := by
  by_cases hlong : 600 < n
  · have HR : Hid (poB b = ([], false)) := poB_long (by omega)
    clear h hn
    go_enter Try.func38, Try.ntmps38
    go_wp2
    go_ret2
    exact ⟨_, by rw [HR.out]; rfl, by rw [HR.out]; exact World.ownsRow_nil _ _ _ _, Below.refl _ _⟩
  · have HR : Hid (poB b = poT b (b.length - 0) 0 []) := poB_short (by omega)
    obtain ⟨i0, hi, hz0, hz1, hz2⟩ := info_parts info_i64
    have HI := Lib.hid hi; have HZ0 := Lib.hid hz0; have HZ1 := Lib.hid hz1; have HZ2 := Lib.hid hz2
    have H := Lib.hid h; have HN := Lib.hid hn
    clear hi hz0 hz1 hz2 h hn
    go_enter Try.func38, Try.ntmps38
    go_wp2
    have O0 := Lib.hid (own_new w #[] 3 0 rfl (by omega))
    go_loopw [4, 5] (fun v t wr => ∃ (p : Nat) (acc : List Int), p ≤ n ∧ t = .int .i64 (p : Int) ∧ acc.length ≤ p ∧ Hid (poT b (b.length - p) p acc = poB b) ∧ wr.ownsRow w.heap.size 3 1 v acc.length (acc.map intV) ∧ Below w.heap.size w wr) (fun _ t _ => n - (intOf t).toNat)
    case atStart => exact ⟨0, [], Nat.zero_le _, rfl, by simp, HR.out.symm, O0.out, (Below.refl _ _).alloc (Nat.le_refl _) _⟩
    case round =>
      obtain ⟨p, acc, hp, rfl, hacc, HT, own, hb⟩ := hrel
      have O1 := Lib.hid own; have B1 := Lib.hid hb
      obtain ⟨av, cv, rfl, _, kv, kv', _⟩ := own_formn own
      clear own hb
      by_cases hpn : p < n
      · have CG := impl_GetPoint a n c b (p : Int) wr (H.out.below (Nat.le_refl _) B1.out) HN.out hcap (by omega) hcap' (by omega) (by omega)
        rcases getP_two b (p : Int) with he | ⟨p', L, N, hpp, h1, h2, he, _, hv⟩
        · have HB : Hid (poB b = ([], false)) := by rw [← HT.out]; exact poT_bad (by rw [HN.out]; exact hpn) he
          rw [he] at CG
          have CG' := Lib.hid CG
          clear he CG
          go_wp2_with (go_at_call 28; refine CG'.out.mono ?_; rintro e w2 ⟨rfl, b2⟩; have B2 := Lib.hid b2; clear b2)
          go_ret2
          have B3 := B1.out.trans (B2.out.mono B1.out.size)
          exact ⟨_, by rw [HB.out]; rfl, by rw [HB.out]; exact World.ownsRow_nil _ _ _ _, B3⟩
        · obtain rfl : p = p' := by omega
          have hN := (ptB_t.1 hv).1
          have HB : Hid (poT b (b.length - (p + L)) (p + L) (acc ++ [N]) = poB b) := by rw [← HT.out]; exact (poT_go (by rw [HN.out]; exact hpn) h1 he hN).symm
          have h2' : p + L ≤ n := by have := HN.out; omega
          rw [he] at CG
          have CG' := Lib.hid CG
          clear he CG h2 hv hpp
          go_wp2_with (first
            | (go_at_call 28; refine CG'.out.mono ?_; rintro e w2 ⟨rfl, b2⟩; have B2 := Lib.hid b2; clear b2)
            | (at_builtin; refine wpList_append_row rfl (.tmp 24) (.tmp 26) _ rfl w.heap.size 3 i0 _ 8 Try.underlying33 HI.out HZ0.out HZ1.out HZ2.out rfl (.slice av acc.length cv) acc.length (acc.map intV) rfl (own_below (own_below O1.out B2.out) ((Below.refl _ _).alloc (Nat.le_refl _) _)) (some ⟨w2.heap.size, 0, none⟩) 1 1 [.int .i64 N] rfl (by intro e; cases e) (own_formn_row (own_new w2 #[.int .i64 N] 3 1 rfl (by omega))) rfl (ints_one [N]) (by omega) (by omega) (by have := B1.out.size; have := B2.out.size; simp; omega) ?_; intro v5 w5 o5 h5 _; have O5 := Lib.hid o5; have H5 := Lib.hid h5; clear o5 h5))
          have BB2 := B1.out.trans (B2.out.mono B1.out.size)
          have B5 := Lib.hid ((BB2.alloc BB2.size _).grown H5.out (by have := BB2.size; simp; omega) (fun q hq => (own_ge O1.out q hq).1))
          clear BB2
          go_roundw
          case rel => exact ⟨p + L, acc ++ [N], by omega, by go_num, by simp; omega, HB, by simpa [intV] using O5.out, B5.out⟩
          case measure => simp [intOf]; omega
      · have HB : Hid (poB b = (acc, true)) := by rw [← HT.out]; exact poT_end (by rw [HN.out]; exact hpn)
        go_wp2
        go_ret2
        exact ⟨_, by rw [HB.out]; rfl, by rw [HB.out]; exact O1.out, B1.out⟩
end Go.Proofs.Ytfefgnehbpfonaa
