/- The drawn statement and texts of the law FnFillStatement. -/
import Derived.Test.YtoajdkcdjdbliaaDoorWord
import Derived.Test.YtoajdkcdjdbliaaDoorPush
namespace Go.Proofs.YtoajdkcdjdbliaaDoor
open Go.RowKit

/-- Strings behind an owned row of strings: the row literal that holds them has just been laid. -/
theorem wpList_pushSs {wr : World} {ops : Array Oper} {rest : List Oper} {o : Oper} {a : Act} {Q : Exit → Act → World → Prop} (s x : Operand) (B : Nat) (bs : List ByteArray) (C : Array Value) (hC : C.toList = bs.map strV) (v : Value) (n : Nat) (acc : List ByteArray)
    (own : wr.ownsRow B 9 1 v n (acc.map strV)) (hB : B ≤ wr.heap.size) (hsz : n + bs.length ≤ 4611686018427387904 / 1048576) (hgd : o.guard = none) (m : Nat) (hm : bs.length = m)
    (ho : o.op = .call { callee := .builtin .append, args := #[s, x], argTypes := #[27, 27] }) (hs : a.eval s = v) (H : Nat) (hH : wr.heap.size = H) (hx : a.eval x = .slice (some ⟨H, 0, none⟩) m m)
    (h : ∀ v' w', w'.ownsRow B 9 1 v' (n + m) ((acc ++ bs).map strV) → Below B wr w' → wpList Tryd.prog ops Q rest (a.put o.dst v') w') :
    wpList Tryd.prog ops Q (o :: rest) a (wr.alloc (.cells C 9 (0, 0))) := by
  subst hH
  obtain ⟨i0, hi, hz0, hz1, hz2⟩ := info_parts info_str
  have hal : Below wr.heap.size wr (wr.alloc (.cells C 9 (0, 0))) := (Below.refl _ _).alloc (Nat.le_refl _) _
  have hCs : C.size = m := by rw [← hm, ← Array.length_toList, hC, List.length_map]
  have hrow := own_formn_row (own_new wr C 9 m hCs (by omega))
  rw [hC] at hrow
  refine wpList_append_row hgd s x _ ho B 9 i0 _ 16 Tryd.underlying27 hi hz0 hz1 hz2 rfl v n (acc.map strV) hs (own_below own hal) (some ⟨wr.heap.size, 0, none⟩) m m (bs.map strV) hx (by intro e; cases e)
    hrow (by simpa using hm) (strs_one bs) (by omega) (by omega) (by simp; omega) ?_
  intro v' w' o' g' _
  refine h v' w' ?_ ?_
  · rw [List.map_append]
    exact o'
  · exact (((Below.refl B wr).alloc hB _)).grown g' (by simp; omega) (fun q hq => (own_ge own q hq).1)
theorem hole_lits : ∀ x ∈ (#[Value.string ⟨#[32, 63]⟩, .string ⟨#[32, 105, 110, 32, 63]⟩, .string ⟨#[44, 63]⟩] : Array Value).toList, Short 5 x := by
  intro x hx
  simp only [List.mem_cons, List.not_mem_nil, or_false] at hx
  rcases hx with rfl | rfl | rfl <;> exact ⟨_, rfl, by decide⟩
theorem wrong_lits : ∀ x ∈ (#[Value.string ⟨#[39]⟩, .string ⟨#[10]⟩] : Array Value).toList, Short 1 x := by
  intro x hx
  simp only [List.mem_cons, List.not_mem_nil, or_false] at hx
  rcases hx with rfl | rfl <;> exact ⟨_, rfl, by decide⟩
def DrawFill (w : World) (e : Ending) (w' : World) : Prop :=
  ∃ (s : ByteArray) (v : Value) (T : List ByteArray), e = .returned (.tuple #[.string s, v]) ∧ s.size ≤ 100 ∧ T.length ≤ 9 ∧ (∀ s ∈ T, s.size ≤ 12) ∧ w'.ownsRow w.heap.size 9 1 v T.length (T.map strV) ∧ Below w.heap.size w w'
theorem all12 {T T2 : List ByteArray} (h : ∀ s ∈ T, s.size ≤ 12) (h2 : ∀ s ∈ T2, s.size ≤ 12) : ∀ s ∈ T ++ T2, s.size ≤ 12 := by
  intro x hx
  rcases List.mem_append.1 hx with hx | hx
  · exact h x hx
  · exact h2 x hx

set_option maxRecDepth 100000 in
set_option maxHeartbeats 800000 in
theorem draw_FillStatement (w : World) (a : Option Addr) (n c : Nat) (f : Nat → UInt8) (hb : BytesAt w a n f) (hc : n ≤ c) (hc' : c ≤ 9223372036854775807) :
    Calls Tryd.prog 23 #[.slice a n c] w (DrawFill w) := by
  have HB := Lib.hid hb; clear hb
  go_enter Tryd.func23, Tryd.ntmps23
  go_wp2_with fail
  refine (open_any _ _ _ _ _ HB.out hc hc').mono ?_
  rintro e w1 ⟨rfl, hb1, hr1⟩
  have hR1 := hr1.lt
  have HB1 := Lib.hid hb1
  clear hb1 HB
  go_wp2_with fail
  refine (pick_any _ _ _ _ (hr1.alloc_ _) (by omega) (by omega) (by omega)).mono ?_
  rintro e w2 ⟨v, rfl, hv, hg2, hr2⟩
  have hv6 : v < 4 := by omega
  have O0 := Lib.hid (own_R (own_new w1 #[] 9 0 rfl (by omega)) hg2 hR1)
  have HB2 := Lib.hid ((HB1.out.alloc HB1.out.size _).grown hg2 (by have := HB1.out.size; simp only [World.size_alloc]; omega) (by intro q hq; injection hq with hq; omega))
  have HR2 := Lib.hid (hr2.less (k' := 1000 + 30 * v) (by omega))
  have hw2 := hg2.size
  clear hg2 hr2 hr1 hv
  go_wp2
  go_loopw [5, 6, 7] (fun so o t wr => ∃ (j nn : Nat) (x : ByteArray) (T : List ByteArray), t = .int .i64 (j : Int) ∧ so = .string x ∧ x.size + 5 * j ≤ 30 ∧ Hid (nn = T.length) ∧ nn + j ≤ 5 ∧ Hid (∀ s ∈ T, s.size ≤ 12) ∧ wr.ownsRow w1.heap.size 9 1 o nn (T.map strV) ∧ Below w.heap.size w wr ∧ Rdr wr w.heap.size (1000 + 30 * j) ∧ w1.heap.size ≤ wr.heap.size) (fun _ _ t _ => (intOf t).toNat)
  case atStart => exact ⟨v, 0, _, [], rfl, rfl, by show 4 + 5 * v ≤ 30; omega, rfl, by omega, (by intro s hs; cases hs), O0.out, HB2.out, HR2.out, by simp only [World.size_alloc] at hw2; omega⟩
  case round =>
    clear hw2
    obtain ⟨j, nn, x, T, rfl, rfl, hxs, HN, hj, HT, own, hb, hr, hws⟩ := hrel
    have O := Lib.hid own
    have B := Lib.hid hb
    have R := Lib.hid hr
    have hBs := hb.size
    clear own hb hr
    by_cases h0 : 0 < j
    · go_wp2_with fail
      refine (pick_any _ _ _ _ (R.out.alloc_ _) (by omega) (by omega) (by omega)).mono ?_
      rintro e w3 ⟨v3, rfl, hv3, hg3, hr3⟩
      have hv33 : v3 < 3 := by omega
      have hRl := R.out.lt
      obtain ⟨y', hy, y, rfl, hys⟩ := lit_at hg3 (by intro e; injection e with e; omega) hole_lits v3 (by simpa using hv33)
      have O3 := Lib.hid (own_R (own_below O.out ((Below.refl _ _).alloc (Nat.le_refl _) _)) hg3 hR1)
      have B3 := Lib.hid ((B.out.alloc B.out.size _).grown hg3 (by simp only [World.size_alloc]; omega) (by intro q hq; injection hq with hq; omega))
      have hw3 := hg3.size
      simp only [World.size_alloc] at hw3
      have hB3s := B3.out.size
      clear hg3 hv3
      go_wp2_with fail
      refine (word_any _ _ _ _ hr3 (by omega) (by omega) (by omega)).mono ?_
      rintro e w4 ⟨s, rfl, hs, hg4, hr4⟩
      have O4 := Lib.hid (own_R O3.out hg4 hR1)
      have B4 := Lib.hid (B3.out.trans (below_R hg4 B3.out.size (Nat.le_refl _)))
      have R4 := Lib.hid (hr4.less (k' := 1000 + 30 * (j - 1)) (by omega))
      have hw4 := hg4.size
      have HT2 : Hid (∀ x ∈ T ++ [s], x.size ≤ 12) := all12 HT.out (by intro x hx; rw [List.mem_singleton] at hx; subst hx; exact hs)
      have HN2 : Hid (nn + 1 = (T ++ [s]).length) := by show _ = _; rw [List.length_append, HN.out]; rfl
      have hsz : (x ++ y).size + 5 * (j - 1) ≤ 30 := by rw [ByteArray.size_append]; omega
      have HSZ := Lib.hid hsz
      clear hg4 hr4 hsz hr3
      go_wp2_with (at_builtin; refine wpList_pushS (.tmp 24) (.tmp 27) w1.heap.size s _ nn _ O4.out (by omega) (by omega) rfl (by rfl) (by rfl) _ rfl (by rfl) ?_; intro v5 w5 o5 b5; have O5 := Lib.hid o5; have B5 := Lib.hid (B4.out.trans (b5.mono (by have := HB1.out.size; omega))); have R5 := Lib.hid (R4.out.below b5 hR1); have hw5 := b5.size; clear o5 b5)
      go_roundw
      case rel => exact ⟨j - 1, nn + 1, _, T ++ [s], by go_num, rfl, HSZ.out, HN2, by omega, HT2, O5.out, B5.out, R5.out, by omega⟩
      case measure => simp [intOf]; omega
    · obtain rfl : j = 0 := by omega
      go_wp2_with fail
      refine (odd_any _ _ _ _ R.out (by omega) (by omega) (by omega)).mono ?_
      rintro e w4 ⟨b, rfl, hg4, hr4⟩
      have O4 := Lib.hid (own_R O.out hg4 hR1)
      have B4 := Lib.hid (B.out.trans (below_R hg4 B.out.size (Nat.le_refl _)))
      have hw4 := hg4.size
      have hB4s := B4.out.size
      have hB1s := HB1.out.size
      clear hg4
      cases b
      · go_wp2
        go_ret2
        refine ⟨x, _, T, rfl, by omega, by have := HN.out; omega, HT.out, ?_, B4.out⟩
        have h := own_mono O4.out HB1.out.size
        rwa [HN.out] at h
      · go_wp2_with fail
        refine (pick_any _ _ _ _ hr4 (by omega) (by omega) (by omega)).mono ?_
        rintro e w5 ⟨v5, rfl, hv5, hg5, hr5⟩
        have hv54 : v5 < 4 := by omega
        have O5 := Lib.hid (own_R O4.out hg5 hR1)
        have B5 := Lib.hid (B4.out.trans (below_R hg5 B4.out.size (Nat.le_refl _)))
        have hw5 := hg5.size
        clear hg5 hv5
        have h4 : v5 = 0 ∨ v5 = 1 ∨ v5 = 2 ∨ v5 = 3 := by omega
        rcases h4 with rfl | rfl | rfl | rfl
        · have HT2 : Hid (∀ x ∈ T ++ [(⟨#[109, 111, 114, 101]⟩ : ByteArray)], x.size ≤ 12) := all12 HT.out (by intro x hx; rw [List.mem_singleton] at hx; subst hx; decide)
          have HN2 : Hid (nn + 1 = (T ++ [(⟨#[109, 111, 114, 101]⟩ : ByteArray)]).length) := by show _ = _; rw [List.length_append, HN.out]; rfl
          go_wp2_with (at_builtin; refine wpList_pushSs (.tmp 40) (.tmp 41) w1.heap.size [⟨#[109, 111, 114, 101]⟩] _ rfl _ nn _ O5.out (by omega) (by simp; omega) rfl 1 rfl (by rfl) (by rfl) _ rfl (by rfl) ?_; intro v6 w6 o6 b6; have O6 := Lib.hid o6; have B6 := Lib.hid (B5.out.trans (b6.mono (by have := HB1.out.size; omega))); clear o6 b6)
          go_ret2
          refine ⟨x, _, _, rfl, by omega, by have := HN2.out; omega, HT2.out, ?_, B6.out⟩
          have h := own_mono O6.out HB1.out.size
          rwa [HN2.out] at h
        · have hsz : (x ++ (⟨#[32, 63]⟩ : ByteArray)).size ≤ 100 := by rw [ByteArray.size_append]; show x.size + 2 ≤ 100; omega
          have HSZ := Lib.hid hsz
          clear hsz
          go_wp2
          go_ret2
          refine ⟨_, _, T, rfl, HSZ.out, by have := HN.out; omega, HT.out, ?_, B5.out⟩
          have h := own_mono O5.out HB1.out.size
          rwa [HN.out] at h
        · go_wp2_with fail
          refine (pick_any _ _ _ _ (hr5.alloc_ _) (by omega) (by omega) (by omega)).mono ?_
          rintro e w6 ⟨v6, rfl, hv6, hg6, hr6⟩
          have hv62 : v6 < 2 := by omega
          have hRl := hr5.lt
          obtain ⟨y', hy, y, rfl, hys⟩ := lit_at hg6 (by intro e; injection e with e; omega) wrong_lits v6 (by simpa using hv62)
          have O6 := Lib.hid (own_R (own_below O5.out ((Below.refl _ _).alloc (Nat.le_refl _) _)) hg6 hR1)
          have B6 := Lib.hid ((B5.out.alloc B5.out.size _).grown hg6 (by simp only [World.size_alloc]; omega) (by intro q hq; injection hq with hq; omega))
          have hsz : (x ++ y).size ≤ 100 := by rw [ByteArray.size_append]; omega
          have HSZ := Lib.hid hsz
          clear hg6 hr6 hv6 hsz
          go_wp2
          go_ret2
          refine ⟨_, _, T, rfl, HSZ.out, by have := HN.out; omega, HT.out, ?_, B6.out⟩
          have h := own_mono O6.out HB1.out.size
          rwa [HN.out] at h
        · have HT2 : Hid (∀ x ∈ T ++ [(⟨#[97]⟩ : ByteArray), ⟨#[98]⟩], x.size ≤ 12) := all12 HT.out (by intro x hx; simp only [List.mem_cons, List.not_mem_nil, or_false] at hx; rcases hx with rfl | rfl <;> decide)
          have HN2 : Hid (nn + 2 = (T ++ [(⟨#[97]⟩ : ByteArray), ⟨#[98]⟩]).length) := by show _ = _; rw [List.length_append, HN.out]; rfl
          have hsz : (x ++ (⟨#[32, 63, 63]⟩ : ByteArray)).size ≤ 100 := by rw [ByteArray.size_append]; show x.size + 3 ≤ 100; omega
          have HSZ := Lib.hid hsz
          clear hsz
          go_wp2_with (at_builtin; refine wpList_pushSs (.tmp 35) (.tmp 36) w1.heap.size [⟨#[97]⟩, ⟨#[98]⟩] _ rfl _ nn _ O5.out (by omega) (by simp; omega) rfl 2 rfl (by rfl) (by rfl) _ rfl (by rfl) ?_; intro v6 w6 o6 b6; have O6 := Lib.hid o6; have B6 := Lib.hid (B5.out.trans (b6.mono (by have := HB1.out.size; omega))); clear o6 b6)
          go_ret2
          refine ⟨_, _, _, rfl, HSZ.out, by have := HN2.out; omega, HT2.out, ?_, B6.out⟩
          have h := own_mono O6.out HB1.out.size
          rwa [HN2.out] at h
end Go.Proofs.YtoajdkcdjdbliaaDoor
