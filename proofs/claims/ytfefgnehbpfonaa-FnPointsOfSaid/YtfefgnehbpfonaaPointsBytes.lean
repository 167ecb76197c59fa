/- Contracts of PointsBytes, of the program and of the reference: both compute the plain function pbT. -/
import Derived.Test.YtfefgnehbpfonaaPoint
import Derived.Test.YtfefgnehbpfonaaApp
import Derived.Test.YtfefgnehbpfonaaMarkB
import Derived.Test.YtfefgnehbpfonaaLawPut
namespace Go.Proofs.Ytfefgnehbpfonaa
open Go.RowKit

/-- The bytes of the points that are left, behind the bytes so far; and whether all went well. -/
def pbT : List Int → List UInt8 → List UInt8 × Bool
  | [], acc => if 600 < acc.length then ([], false) else (acc, true)
  | n :: l, acc => if ptB n = true ∧ acc.length ≤ 600 then pbT l (acc ++ putP n) else ([], false)
theorem pbT_nil_no {acc : List UInt8} (h : 600 < acc.length) : pbT [] acc = ([], false) := by simp [pbT, h]
theorem pbT_nil_yes {acc : List UInt8} (h : ¬ 600 < acc.length) : pbT [] acc = (acc, true) := by simp [pbT, h]
theorem pbT_bad {n : Int} {l : List Int} {acc : List UInt8} (h : ptB n = false) : pbT (n :: l) acc = ([], false) := by simp [pbT, h]
theorem pbT_long {n : Int} {l : List Int} {acc : List UInt8} (h : 600 < acc.length) : pbT (n :: l) acc = ([], false) := by
  rw [pbT, if_neg (by omega)]
theorem pbT_go {n : Int} {l : List Int} {acc : List UInt8} (h : ptB n = true) (h2 : ¬ 600 < acc.length) : pbT (n :: l) acc = pbT l (acc ++ putP n) := by
  rw [pbT, if_pos ⟨h, by omega⟩]

theorem drop_cons_getD {α : Type} (l : List α) (j : Nat) (d : α) (h : j < l.length) : l.drop j = l.getD j d :: l.drop (j + 1) := by
  rw [List.drop_eq_getElem_cons h, List.getD_eq_getElem?_getD, List.getElem?_eq_getElem h]; rfl

/-- Bytes in new memory, and a truth. -/
def BytesOk (w : World) (r : List UInt8 × Bool) (e : Ending) (w' : World) : Prop :=
  ∃ v, e = .returned (.tuple #[v, .bool r.2]) ∧ w'.ownsRow w.heap.size 5 1 v r.1.length (r.1.map byteV) ∧ Below w.heap.size w w'

theorem tup_bool {v : Value} {b b' : Bool} (h : b = b') : Ending.returned (.tuple #[v, .bool b]) = Ending.returned (.tuple #[v, .bool b']) := by rw [h]

theorem bytes_one'' (l : List UInt8) : ∀ u ∈ l.map byteV, u.oneCell' = true := by
  intro u hu
  obtain ⟨b, _, rfl⟩ := List.mem_map.1 hu
  rfl

set_option maxRecDepth 100000 in
set_option maxHeartbeats 1600000 in
theorem spec_PointsBytes (a : Option Addr) (n c : Nat) (l : List Int) (w : World) (h : IntsAt w a n (fun i => l.getD i 0)) (hn : l.length = n) (hn' : n ≤ 4611686018427387904) :
    Calls Try.prog 29 #[.slice a n c] w (BytesOk w (pbT l [])) := by
  obtain ⟨i0, hi, hz0, hz1, hz2⟩ := info_parts info_u8
  have HI := Lib.hid hi; have HZ0 := Lib.hid hz0; have HZ1 := Lib.hid hz1; have HZ2 := Lib.hid hz2
  have H := Lib.hid h; have HN := Lib.hid hn
  clear hi hz0 hz1 hz2 h hn
  go_enter Try.func29, Try.ntmps29
  go_wp2
  have O0 := Lib.hid (own_new w #[] 5 0 rfl (by omega))
  go_loopw [4, 5] (fun v t wr => ∃ (j : Nat) (acc : List UInt8), j ≤ n ∧ t = .int .i64 (j : Int) ∧ acc.length ≤ 604 ∧ Hid (pbT (l.drop j) acc = pbT l []) ∧ wr.ownsRow w.heap.size 5 1 v acc.length (acc.map byteV) ∧ Below w.heap.size w wr) (fun _ t _ => n - (intOf t).toNat)
  case atStart => exact ⟨0, [], Nat.zero_le _, rfl, by simp, rfl, O0.out, (Below.refl _ _).alloc (Nat.le_refl _) _⟩
  case round =>
    obtain ⟨j, acc, hj, rfl, hacc, HT, own, hb⟩ := hrel
    have O1 := Lib.hid own; have B1 := Lib.hid hb
    obtain ⟨av, cv, rfl, _, kv, kv', _⟩ := own_formn own
    clear own hb
    by_cases hjn : j < n
    · obtain ⟨b, off, rfl, hlt, hc, hlo, hhi⟩ := (H.out.below (Nat.le_refl _) B1.out) j hjn
      have HD := Lib.hid (drop_cons_getD l j 0 (by rw [HN.out]; exact hjn))
      change wr.cell? _ = some (.int .i64 (l.getD j 0)) at hc
      change -9223372036854775808 ≤ l.getD j 0 at hlo
      change l.getD j 0 ≤ 9223372036854775807 at hhi
      generalize l.getD j 0 = p at hc hlo hhi HD
      by_cases hv : ptB p = true
      · by_cases hlong : 600 < acc.length
        · have HR : Hid (pbT l [] = ([], false)) := by rw [← HT.out, HD.out]; exact pbT_long hlong
          go_wp2_with (go_at_call 15; refine (spec_PointValid _ _).mono ?_; rintro e w' ⟨rfl, rfl⟩)
          go_ret2
          exact ⟨_, by rw [HR.out]; rfl, by rw [HR.out]; exact own_mono (own_new wr #[] 5 0 rfl (by omega)) B1.out.size, B1.out.alloc B1.out.size _⟩
        · have HR : Hid (pbT (l.drop (j + 1)) (acc ++ putP p) = pbT l []) := by rw [← HT.out, HD.out]; exact (pbT_go hv hlong).symm
          have hle := putP_le p
          go_wp2_with (first
            | (go_at_call 15; refine (spec_PointValid _ _).mono ?_; rintro e w' ⟨rfl, rfl⟩)
            | (go_at_call 22; refine (spec_PutPoint _ _).mono ?_; rintro e w4 ⟨v4, rfl, o4, b4⟩; obtain ⟨a4, c4, rfl, r4, k4, k4', g4⟩ := own_formn o4; have O4 := Lib.hid o4; have B4 := Lib.hid b4; clear o4 b4 r4 g4)
            | (at_builtin; refine wpList_append_row rfl (.tmp 25) (.tmp 30) _ rfl w.heap.size 5 i0 _ 1 Try.underlying24 HI.out HZ0.out HZ1.out HZ2.out rfl (.slice av acc.length cv) acc.length (acc.map byteV) rfl (own_below O1.out B4.out) a4 (putP p).length c4 ((putP p).map byteV) rfl (fun e => by subst e; exact own_none O4.out) (own_formn_row O4.out) (by simp) (bytes_one'' _) (by omega) (by omega) (by have := B1.out.size; have := B4.out.size; omega) ?_; intro v5 w5 o5 h5 _; have O5 := Lib.hid o5; have H5 := Lib.hid h5; clear o5 h5))
          have BB4 := B1.out.trans (B4.out.mono B1.out.size)
          have B5 := Lib.hid (BB4.grown H5.out BB4.size (fun q hq => (own_ge O1.out q hq).1))
          clear BB4
          go_roundw
          case rel => exact ⟨j + 1, acc ++ putP p, by omega, by go_num, by simp; omega, HR, by simpa using O5.out, B5.out⟩
          case measure => simp [intOf]; omega
      · have hv' : ptB p = false := by simpa using hv
        have HR : Hid (pbT l [] = ([], false)) := by rw [← HT.out, HD.out]; exact pbT_bad hv'
        clear hv
        go_wp2_with (go_at_call 15; refine (spec_PointValid _ _).mono ?_; rintro e w' ⟨rfl, rfl⟩)
        go_ret2
        exact ⟨_, by rw [HR.out]; rfl, by rw [HR.out]; exact own_mono (own_new wr #[] 5 0 rfl (by omega)) B1.out.size, B1.out.alloc B1.out.size _⟩
    · obtain rfl : j = n := by omega
      have HDN : Hid (l.drop j = []) := List.drop_eq_nil_of_le (by rw [HN.out]; omega)
      by_cases hlong : 600 < acc.length
      · have HR : Hid (pbT l [] = ([], false)) := by rw [← HT.out, HDN.out]; exact pbT_nil_no hlong
        go_wp2
        go_ret2
        exact ⟨_, by rw [HR.out]; rfl, by rw [HR.out]; exact own_mono (own_new wr #[] 5 0 rfl (by omega)) B1.out.size, B1.out.alloc B1.out.size _⟩
      · have HR : Hid (pbT l [] = (acc, true)) := by rw [← HT.out, HDN.out]; exact pbT_nil_yes hlong
        go_wp2
        go_ret2
        exact ⟨_, by rw [HR.out]; rfl, by rw [HR.out]; exact O1.out, B1.out⟩

set_option maxRecDepth 100000 in
set_option maxHeartbeats 1600000 in
theorem impl_PointsBytes (a : Option Addr) (n c : Nat) (l : List Int) (w : World) (h : IntsAt w a n (fun i => l.getD i 0)) (hn : l.length = n) (hn' : n ≤ 4611686018427387904) :
    Calls Try.prog 31 #[.slice a n c] w (BytesOk w (pbT l [])) := by
  obtain ⟨i0, hi, hz0, hz1, hz2⟩ := info_parts info_u8
  have HI := Lib.hid hi; have HZ0 := Lib.hid hz0; have HZ1 := Lib.hid hz1; have HZ2 := Lib.hid hz2
  have H := Lib.hid h; have HN := Lib.hid hn
  clear hi hz0 hz1 hz2 h hn
  go_enter Try.func31, Try.ntmps31
  go_wp2
  have O0 := Lib.hid (own_new w #[] 5 0 rfl (by omega))
  go_loopw [4, 10] (fun v t wr => ∃ (j : Nat) (acc : List UInt8), j ≤ n ∧ t = .int .i64 (j : Int) ∧ acc.length ≤ 604 ∧ Hid (pbT (l.drop j) acc = pbT l []) ∧ wr.ownsRow w.heap.size 5 1 v acc.length (acc.map byteV) ∧ Below w.heap.size w wr) (fun _ t _ => n - (intOf t).toNat)
  case atStart => exact ⟨0, [], Nat.zero_le _, rfl, by simp, rfl, O0.out, (Below.refl _ _).alloc (Nat.le_refl _) _⟩
  case round =>
    obtain ⟨j, acc, hj, rfl, hacc, HT, own, hb⟩ := hrel
    have O1 := Lib.hid own; have B1 := Lib.hid hb
    obtain ⟨av, cv, rfl, _, kv, kv', _⟩ := own_formn own
    clear own hb
    by_cases hjn : j < n
    · obtain ⟨b, off, rfl, hlt, hc, hlo, hhi⟩ := (H.out.below (Nat.le_refl _) B1.out) j hjn
      have HD := Lib.hid (drop_cons_getD l j 0 (by rw [HN.out]; exact hjn))
      change wr.cell? _ = some (.int .i64 (l.getD j 0)) at hc
      change -9223372036854775808 ≤ l.getD j 0 at hlo
      change l.getD j 0 ≤ 9223372036854775807 at hhi
      generalize l.getD j 0 = p at hc hlo hhi HD
      by_cases hv : ptB p = true
      · by_cases hlong : 600 < acc.length
        · have HR : Hid (pbT l [] = ([], false)) := by rw [← HT.out, HD.out]; exact pbT_long hlong
          go_wp2_with (go_at_call 16; refine (impl_PointValid _ _).mono ?_; rintro e w' ⟨rfl, rfl⟩)
          go_ret2
          exact ⟨_, by rw [HR.out]; rfl, by rw [HR.out]; exact World.ownsRow_nil _ _ _ _, B1.out⟩
        · have HR : Hid (pbT (l.drop (j + 1)) (acc ++ putP p) = pbT l []) := by rw [← HT.out, HD.out]; exact (pbT_go hv hlong).symm
          have hle := putP_le p
          go_wp2_with (first
            | (go_at_call 16; refine (impl_PointValid _ _).mono ?_; rintro e w' ⟨rfl, rfl⟩)
            | (go_at_call 23; refine (impl_PutPoint _ _).mono ?_; rintro e w4 ⟨v4, rfl, o4, b4⟩; obtain ⟨a4, c4, rfl, r4, k4, k4', g4⟩ := own_formn o4; have O4 := Lib.hid o4; have B4 := Lib.hid b4; clear o4 b4 r4 g4)
            | (at_builtin; refine wpList_append_row rfl (.tmp 22) (.tmp 24) _ rfl w.heap.size 5 i0 _ 1 Try.underlying24 HI.out HZ0.out HZ1.out HZ2.out rfl (.slice av acc.length cv) acc.length (acc.map byteV) rfl (own_below O1.out B4.out) a4 (putP p).length c4 ((putP p).map byteV) rfl (fun e => by subst e; exact own_none O4.out) (own_formn_row O4.out) (by simp) (bytes_one'' _) (by omega) (by omega) (by have := B1.out.size; have := B4.out.size; omega) ?_; intro v5 w5 o5 h5 _; have O5 := Lib.hid o5; have H5 := Lib.hid h5; clear o5 h5))
          have BB4 := B1.out.trans (B4.out.mono B1.out.size)
          have B5 := Lib.hid (BB4.grown H5.out BB4.size (fun q hq => (own_ge O1.out q hq).1))
          clear BB4
          go_roundw
          case rel => exact ⟨j + 1, acc ++ putP p, by omega, by go_num, by simp; omega, HR, by simpa using O5.out, B5.out⟩
          case measure => simp [intOf]; omega
      · have hv' : ptB p = false := by simpa using hv
        have HR : Hid (pbT l [] = ([], false)) := by rw [← HT.out, HD.out]; exact pbT_bad hv'
        clear hv
        go_wp2_with (go_at_call 16; refine (impl_PointValid _ _).mono ?_; rintro e w' ⟨rfl, rfl⟩)
        go_ret2
        exact ⟨_, by rw [HR.out]; rfl, by rw [HR.out]; exact World.ownsRow_nil _ _ _ _, B1.out⟩
    · obtain rfl : j = n := by omega
      have HDN : Hid (l.drop j = []) := List.drop_eq_nil_of_le (by rw [HN.out]; omega)
      by_cases hlong : 600 < acc.length
      · have HR : Hid (pbT l [] = ([], false)) := by rw [← HT.out, HDN.out]; exact pbT_nil_no hlong
        go_wp2
        go_ret2
        exact ⟨_, by rw [HR.out]; rfl, by rw [HR.out]; exact World.ownsRow_nil _ _ _ _, B1.out⟩
      · have HR : Hid (pbT l [] = (acc, true)) := by rw [← HT.out, HDN.out]; exact pbT_nil_yes hlong
        go_wp2
        go_ret2
        exact ⟨_, by rw [HR.out]; rfl, by rw [HR.out]; exact O1.out, B1.out⟩
end Go.Proofs.Ytfefgnehbpfonaa
