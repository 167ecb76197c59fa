/- The drawn shapes and texts of the law FnSetRow. -/
import Derived.Test.YtfidcfjmmhghjaaRow
import Derived.Test.YtfidcfjmmhghjaaShapeDraw
import Derived.Test.YtfidcfjmmhghjaaWord1
import Derived.Test.YtfidcfjmmhghjaaDrawS
import Derived.Test.YtfidcfjmmhghjaaPush2
import Derived.Test.YtfidcfjmmhghjaaAlive
import Derived.Maps.AppendAt
import Derived.Laws.OwnMore
import Derived.Laws.MakeOwn
import Derived.BigRegion
namespace Go.Proofs.Ytfidcfjmmhghjaa
open Go.RowKit

theorem shC_one (p : Shp) : ∀ u ∈ shCs [p], u.oneCell' = true := by
  intro u hu
  simp only [shCs, List.flatMap_cons, List.flatMap_nil, List.append_nil, shC, List.mem_cons, List.not_mem_nil, or_false] at hu
  rcases hu with rfl | rfl | rfl <;> rfl
theorem shCs_app (a b : List Shp) : shCs (a ++ b) = shCs a ++ shCs b := by simp [shCs]
/-- One shape more behind an owned row of shapes. -/
theorem wpList_pushShp {wr : World} {ops : Array Oper} {rest : List Oper} {o : Oper} {a : Act} {Q : Exit → Act → World → Prop} (s x : Operand) (B : Nat) (p : Shp) (v : Value) (n : Nat) (acc : List Shp)
    (own : wr.ownsRow B 32 3 v n (shCs acc)) (hB : B ≤ wr.heap.size) (hsz : n ≤ 1000) (hgd : o.guard = none)
    (ho : o.op = .call { callee := .builtin .append, args := #[s, x], argTypes := #[23, 23] }) (hs : a.eval s = v) (H : Nat) (hH : wr.heap.size = H) (hx : a.eval x = .slice (some ⟨H, 0, none⟩) 1 1)
    (h : ∀ v' w', w'.ownsRow B 32 3 v' (n + 1) (shCs (acc ++ [p])) → wr.grownBy w' v.ownBlock → Below B wr w' → wpList Try.prog ops Q rest (a.put o.dst v') w') :
    wpList Try.prog ops Q (o :: rest) a (wr.alloc (.cells #[.int .i64 p.W, .int .u8 (p.b.toNat : Int), .bool p.L] 32 (0, 0))) := by
  subst hH
  obtain ⟨i0, hi, hz0, hz1, hz2⟩ := info_parts info_shp2
  have hal : Below wr.heap.size wr (wr.alloc (.cells #[.int .i64 p.W, .int .u8 (p.b.toNat : Int), .bool p.L] 32 (0, 0))) := (Below.refl _ _).alloc (Nat.le_refl _) _
  refine wpList_append_own_at _ hgd s x _ ho B 32 i0 _ 3 16 Try.underlying23 hi hz0 hz1 hz2 rfl (by omega) v n (shCs acc) hs (ownN_below own hal) ⟨wr.heap.size, 0, none⟩ 1 1 (shCs [p]) hx rfl (fun j u hu => ?_) (shC_one p) (by simp only [maxLen]; omega) (by omega) (by simp; omega) ?_
  · have e : (⟨wr.heap.size, 0, none⟩ : Addr).add j = ⟨wr.heap.size, j, none⟩ := by unfold Addr.add; split <;> simp_all
    rw [e, World.cell?_alloc_mark]
    rw [← hu]
    rcases j with _ | _ | _ | j <;> rfl
  · intro v' w' o' g' _ _
    refine h v' w' (by rw [shCs_app]; exact o') ((World.grownBy_alloc _ _ _).trans g') ?_
    exact (((Below.refl B wr).alloc hB _)).grown g' (by simp; omega) (fun q hq => (ownN_ge own q hq).1)
theorem make_shps : ∃ C : Array Value, C.size = 7 * 3 ∧ C.toList = shCs (List.replicate 7 ⟨0, 0, false⟩) ∧ ∀ W, (Instr.makeSlice 23 (.int .i64 7) (.int .i64 7)).run Try.prog W = .ok (.slice (some ⟨W.heap.size, 0, none⟩) 7 7) (W.alloc (.cells C 32)) := by
  obtain ⟨i0, hi, hz0, hz1, hz2⟩ := info_parts info_shp2
  refine ⟨madeCells (Value.agg #[.int .i64 0, .int .u8 0, .bool false]).cells 21, by kernel_rfl, by kernel_rfl, fun W => ?_⟩
  have h := run_make (P := Try.prog) W 23 32 i0 _ Try.underlying23 hi hz0 .i64 .i64 7 7 (by omega) (by omega) (by rw [hz2]; omega) (by omega)
  rw [hz1] at h
  exact h
theorem make_strs : ∃ C : Array Value, C.size = 7 ∧ C.toList = (List.replicate 7 (⟨#[]⟩ : ByteArray)).map strV ∧ ∀ W, (Instr.makeSlice 24 (.int .i64 7) (.int .i64 7)).run Try.prog W = .ok (.slice (some ⟨W.heap.size, 0, none⟩) 7 7) (W.alloc (.cells C 9)) := by
  obtain ⟨i0, hi, hz0, hz1, hz2⟩ := info_parts info_str
  refine ⟨madeCells (Value.string ⟨#[]⟩).cells 7, by kernel_rfl, by kernel_rfl, fun W => ?_⟩
  have h := run_make (P := Try.prog) W 24 9 i0 _ Try.underlying24 hi hz0 .i64 .i64 7 7 (by omega) (by omega) (by rw [hz2]; omega) (by omega)
  rw [hz1] at h
  exact h
theorem strs7_small : ∀ s ∈ List.replicate 7 (⟨#[]⟩ : ByteArray), s.size ≤ 12 := by intro s hs; rw [List.eq_of_mem_replicate hs]; exact Nat.zero_le _
def DrawRow (w : World) (e : Ending) (w' : World) : Prop :=
  ∃ (v1 v2 : Value) (S : List Shp) (T : List ByteArray), e = .returned (.tuple #[v1, v2]) ∧ S.length ≤ 7 ∧ T.length ≤ 7 ∧ (∀ s ∈ T, s.size ≤ 12) ∧ w'.ownsRow w.heap.size 32 3 v1 S.length (shCs S) ∧ w'.ownsRow w.heap.size 9 1 v2 T.length (T.map strV) ∧ Below w.heap.size w w'
theorem all12r {T T2 : List ByteArray} (h : ∀ s ∈ T, s.size ≤ 12) (h2 : ∀ s ∈ T2, s.size ≤ 12) : ∀ s ∈ T ++ T2, s.size ≤ 12 := by
  intro x hx
  rcases List.mem_append.1 hx with hx | hx
  · exact h x hx
  · exact h2 x hx

theorem made_order1 {w w5 : World} {CS CT : Array Value} (h : Below w.heap.size w w5) (h1 : CS.size = 7 * 3) (h2 : CS.toList = shCs (List.replicate 7 ⟨0, 0, false⟩)) (h3 : CT.size = 7) (h4 : CT.toList = (List.replicate 7 (⟨#[]⟩ : ByteArray)).map strV) :
    DrawRow w (.returned (.tuple #[.slice (some ⟨w5.heap.size, 0, none⟩) 7 7, .slice (some ⟨w5.heap.size + 1, 0, none⟩) 7 7])) ((w5.alloc (.cells CS 32)).alloc (.cells CT 9)).drew := by
  have hs := h.size
  have b1 : Below (w5.alloc (.cells CS 32)).heap.size (w5.alloc (.cells CS 32)) ((w5.alloc (.cells CS 32)).alloc (.cells CT 9)).drew := ((Below.refl _ _).alloc (Nat.le_refl _) _).drew
  have o1 := ownN_below (ownN_new w5 CS 32 3 7 h1 (by omega)) b1
  have b2 : Below ((w5.alloc (.cells CS 32)).alloc (.cells CT 9)).heap.size ((w5.alloc (.cells CS 32)).alloc (.cells CT 9)) ((w5.alloc (.cells CS 32)).alloc (.cells CT 9)).drew := (Below.refl _ _).drew
  have o2 := own_below (own_new (w5.alloc (.cells CS 32)) CT 9 7 h3 (by omega)) b2
  rw [h2] at o1
  rw [h4, World.size_alloc] at o2
  exact ⟨_, _, _, _, rfl, by simp, by simp, strs7_small, ownN_mono o1 hs, own_mono o2 (by omega), ((h.alloc hs _).alloc (by simp; omega) _).drew⟩
theorem made_order2 {w w5 : World} {CS CT : Array Value} (h : Below w.heap.size w w5) (h1 : CS.size = 7 * 3) (h2 : CS.toList = shCs (List.replicate 7 ⟨0, 0, false⟩)) (h3 : CT.size = 7) (h4 : CT.toList = (List.replicate 7 (⟨#[]⟩ : ByteArray)).map strV) :
    DrawRow w (.returned (.tuple #[.slice (some ⟨w5.heap.size + 1, 0, none⟩) 7 7, .slice (some ⟨w5.heap.size, 0, none⟩) 7 7])) ((w5.alloc (.cells CT 9)).alloc (.cells CS 32)).drew := by
  have hs := h.size
  have b1 : Below (w5.alloc (.cells CT 9)).heap.size (w5.alloc (.cells CT 9)) ((w5.alloc (.cells CT 9)).alloc (.cells CS 32)).drew := ((Below.refl _ _).alloc (Nat.le_refl _) _).drew
  have o2 := own_below (own_new w5 CT 9 7 h3 (by omega)) b1
  have b2 : Below ((w5.alloc (.cells CT 9)).alloc (.cells CS 32)).heap.size ((w5.alloc (.cells CT 9)).alloc (.cells CS 32)) ((w5.alloc (.cells CT 9)).alloc (.cells CS 32)).drew := (Below.refl _ _).drew
  have o1 := ownN_below (ownN_new (w5.alloc (.cells CT 9)) CS 32 3 7 h1 (by omega)) b2
  rw [h2, World.size_alloc] at o1
  rw [h4] at o2
  exact ⟨_, _, _, _, rfl, by simp, by simp, strs7_small, ownN_mono o1 (by omega), own_mono o2 hs, ((h.alloc hs _).alloc (by simp; omega) _).drew⟩

set_option maxRecDepth 100000 in
set_option maxHeartbeats 1600000 in
theorem draw_SetRow (w : World) (a : Option Addr) (n c : Nat) (f : Nat → UInt8) (hb : BytesAt w a n f) (hc : n ≤ c) (hc' : c ≤ 9223372036854775807) :
    Calls Try.prog 4 #[.slice a n c] w (DrawRow w) := by
  have HB := Lib.hid hb; clear hb
  obtain ⟨CS, hcs1, hcs2, mk1⟩ := make_shps
  obtain ⟨CT, hct1, hct2, mk2⟩ := make_strs
  have HCS1 := Lib.hid hcs1; have HCS2 := Lib.hid hcs2; have HCT1 := Lib.hid hct1; have HCT2 := Lib.hid hct2
  clear hcs1 hcs2 hct1 hct2
  go_enter Try.func4, Try.ntmps4
  go_wp2_with fail
  refine (open_any _ _ _ _ _ HB.out hc hc').mono ?_
  rintro e w1 ⟨rfl, hb1, hr1⟩
  have hR1 := hr1.lt
  have HB1 := Lib.hid hb1
  have hB1s := hb1.size
  clear hb1 HB
  have OS0 := Lib.hid (ownN_new w1 #[] 32 3 0 rfl (by omega))
  have OT0 := Lib.hid (own_new (w1.alloc (.cells #[] 32 (0, 0))) #[] 9 0 rfl (by omega))
  have OS1 := Lib.hid (ownN_below OS0.out ((Below.refl _ _).alloc (Nat.le_refl _) (.cells #[] 9 (0, 0))))
  have BA := Lib.hid ((HB1.out.alloc hB1s (.cells #[] 32 (0, 0))).alloc (by simp; omega) (.cells #[] 9 (0, 0)))
  go_wp2_with fail
  refine (pick_any _ _ _ _ ((hr1.alloc_ _).alloc_ _) (by omega) (by omega) (by omega)).mono ?_
  rintro e w2 ⟨v, rfl, hv, hg2, hr2⟩
  have hv6 : v < 5 := by omega
  have OS2 := Lib.hid (ownN_R OS1.out hg2 hR1)
  have ot2 := own_mono (own_R OT0.out hg2 (by simp only [World.size_alloc]; omega)) (B' := w1.heap.size) (by simp)
  simp only [World.size_alloc] at ot2
  have OT2 := Lib.hid ot2
  clear ot2
  have HB2 := Lib.hid (BA.out.trans (below_R hg2 BA.out.size (Nat.le_refl _)))
  have HR2 := Lib.hid (hr2.less (k' := 1000 + 30 * v) (by omega))
  have hw2 := hg2.size
  simp only [World.size_alloc] at hw2
  clear hg2 hr2 hr1 hv OS0 OT0 OS1 BA
  go_wp2
  go_loopw [5, 6, 7] (fun so o t wr => ∃ (j nn : Nat) (S : List Shp) (T : List ByteArray), t = .int .i64 (j : Int) ∧ Hid (nn = S.length) ∧ Hid (nn = T.length) ∧ nn + j ≤ 5 ∧ Hid (∀ s ∈ T, s.size ≤ 12) ∧ wr.ownsRow w1.heap.size 32 3 so nn (shCs S) ∧ wr.ownsRow w1.heap.size 9 1 o nn (T.map strV) ∧ Below w.heap.size w wr ∧ Rdr wr w.heap.size (1000 + 30 * j) ∧ w1.heap.size ≤ wr.heap.size) (fun _ _ t _ => (intOf t).toNat)
  case atStart => exact ⟨v, 0, [], [], rfl, rfl, rfl, by omega, (by intro s hs; cases hs), OS2.out, OT2.out, HB2.out, HR2.out, by omega⟩
  case round =>
    clear hw2
    obtain ⟨j, nn, S, T, rfl, HNS, HNT, hj, HT, ownS, ownT, hb, hr, hws⟩ := hrel
    have OS := Lib.hid ownS
    have OT := Lib.hid ownT
    have B := Lib.hid hb
    have R := Lib.hid hr
    have hBs := hb.size
    have hRlt := hr.lt
    clear ownS ownT hb hr
    by_cases h0 : 0 < j
    · go_wp2_with fail
      refine (shape_any _ _ _ _ R.out (by omega) (by omega) (by omega)).mono ?_
      rintro e w3 ⟨W, b, L, rfl, hW1, hW2, hg3, hr3⟩
      have OS3 := Lib.hid (ownN_R OS.out hg3 hR1)
      have OT3 := Lib.hid (own_R OT.out hg3 hR1)
      have B3 := Lib.hid (B.out.trans (below_R hg3 B.out.size (Nat.le_refl _)))
      have R3 := Lib.hid hr3
      have hw3 := hg3.size
      have hne : ∀ k, u6.ownBlock = some k → u5.ownBlock ≠ some k := fun k hk => ownN_types_ne OT3.out OS3.out (by decide) k hk
      have HNE := Lib.hid hne
      clear hg3 hr3 hne OS OT
      go_wp2_with (at_builtin; refine wpList_pushShp (.tmp 18) (.tmp 21) w1.heap.size ⟨W, b, L⟩ _ nn _ OS3.out (by omega) (by omega) rfl (by rfl) (by rfl) _ rfl (by rfl) ?_; intro v4 w4 o4 g4 b4; have OS4 := Lib.hid o4; have OT4 := Lib.hid (own_other OT3.out g4 (fun k hk => HNE.out k hk)); have B4 := Lib.hid (B3.out.trans (b4.mono hB1s)); have R4 := Lib.hid (R3.out.below b4 hR1); have hw4 := b4.size; clear o4 g4 b4)
      go_wp2_with fail
      refine (word_any _ _ _ _ R4.out (by omega) (by omega) (by omega)).mono ?_
      rintro e w5 ⟨s, rfl, hs, hg5, hr5⟩
      have OS5 := Lib.hid (ownN_R OS4.out hg5 hR1)
      have OT5 := Lib.hid (own_R OT4.out hg5 hR1)
      have B5 := Lib.hid (B4.out.trans (below_R hg5 B4.out.size (Nat.le_refl _)))
      have R5 := Lib.hid (hr5.less (k' := 1000 + 30 * (j - 1)) (by omega))
      have hw5 := hg5.size
      have HT2 : Hid (∀ x ∈ T ++ [s], x.size ≤ 12) := all12r HT.out (by intro x hx; rw [List.mem_singleton] at hx; subst hx; exact hs)
      have HNS2 : Hid (nn + 1 = (S ++ [(⟨W, b, L⟩ : Shp)]).length) := by show _ = _; rw [List.length_append, HNS.out]; rfl
      have HNT2 : Hid (nn + 1 = (T ++ [s]).length) := by show _ = _; rw [List.length_append, HNT.out]; rfl
      have hne : ∀ k, v4.ownBlock = some k → u6.ownBlock ≠ some k := fun k hk => ownN_types_ne OS5.out OT5.out (by decide) k hk
      have HNE2 := Lib.hid hne
      clear hg5 hr5 hne OS4 OT4
      go_wp2_with (at_builtin; refine wpList_pushS2 (.tmp 23) (.tmp 26) w1.heap.size s _ nn _ OT5.out (by omega) (by omega) rfl (by rfl) (by rfl) _ rfl (by rfl) ?_; intro v6 w6 o6 g6 b6; have OT6 := Lib.hid o6; have OS6 := Lib.hid (ownN_other OS5.out g6 (fun k hk => HNE2.out k hk)); have B6 := Lib.hid (B5.out.trans (b6.mono hB1s)); have R6 := Lib.hid (R5.out.below b6 hR1); have hw6 := b6.size; clear o6 g6 b6)
      go_roundw
      case rel => exact ⟨j - 1, nn + 1, S ++ [⟨W, b, L⟩], T ++ [s], by go_num, HNS2, HNT2, by omega, HT2, OS6.out, OT6.out, B6.out, R6.out, by omega⟩
      case measure => simp [intOf]; omega
    · obtain rfl : j = 0 := by omega
      go_wp2_with fail
      refine (odd_any _ _ _ _ R.out (by omega) (by omega) (by omega)).mono ?_
      rintro e w3 ⟨b1, rfl, hg3, hr3⟩
      have OS3 := Lib.hid (ownN_R OS.out hg3 hR1)
      have OT3 := Lib.hid (own_R OT.out hg3 hR1)
      have B3 := Lib.hid (B.out.trans (below_R hg3 B.out.size (Nat.le_refl _)))
      have R3 := Lib.hid hr3
      have hw3 := hg3.size
      clear hg3 hr3 OS OT
      cases b1
      · have OS4 := OS3; have OT4 := OT3; have B4 := B3; have R4 := R3
        clear OS3 OT3 B3 R3
        have hB4s := B4.out.size
        go_wp2_with fail
        refine (odd_any _ _ _ _ R4.out (by omega) (by omega) (by omega)).mono ?_
        rintro e w5 ⟨b2, rfl, hg5, hr5⟩
        have OS5 := Lib.hid (ownN_R OS4.out hg5 hR1)
        have OT5 := Lib.hid (own_R OT4.out hg5 hR1)
        have B5 := Lib.hid (B4.out.trans (below_R hg5 B4.out.size (Nat.le_refl _)))
        clear hg5 hr5
        cases b2
        · go_wp2
          go_ret2
          refine ⟨_, _, S, T, rfl, by have := HNS.out; omega, by have := HNT.out; omega, HT.out, ?_, ?_, B5.out⟩
          · have h := ownN_mono OS5.out HB1.out.size
            rwa [HNS.out] at h
          · have h := own_mono OT5.out HB1.out.size
            rwa [HNT.out] at h
        · go_wp2
          go_region
          · go_wp2
            go_ret2
            exact made_order1 B5.out HCS1.out HCS2.out HCT1.out HCT2.out
          · go_wp2
            go_ret2
            exact made_order2 B5.out HCS1.out HCS2.out HCT1.out HCT2.out
      · have hne : ∀ k, u5.ownBlock = some k → u6.ownBlock ≠ some k := fun k hk => ownN_types_ne OS3.out OT3.out (by decide) k hk
        have HNE := Lib.hid hne
        have HT2 : Hid (∀ x ∈ T ++ [(⟨#[109, 111, 114, 101]⟩ : ByteArray)], x.size ≤ 12) := all12r HT.out (by intro x hx; rw [List.mem_singleton] at hx; subst hx; decide)
        have HNT2 : Hid (nn + 1 = (T ++ [(⟨#[109, 111, 114, 101]⟩ : ByteArray)]).length) := by show _ = _; rw [List.length_append, HNT.out]; rfl
        clear hne
        go_wp2_with (at_builtin; refine wpList_pushS2 (.tmp 30) (.tmp 31) w1.heap.size ⟨#[109, 111, 114, 101]⟩ _ nn _ OT3.out (by omega) (by omega) rfl (by rfl) (by rfl) _ rfl (by rfl) ?_; intro v6 w6 o6 g6 b6; have OT4 := Lib.hid o6; have OS4 := Lib.hid (ownN_other OS3.out g6 (fun k hk => HNE.out k hk)); have B4 := Lib.hid (B3.out.trans (b6.mono hB1s)); have R4 := Lib.hid (R3.out.below b6 hR1); have hw6 := b6.size; clear o6 g6 b6)
        have hB4s := B4.out.size
        go_wp2_with fail
        refine (odd_any _ _ _ _ R4.out (by omega) (by omega) (by omega)).mono ?_
        rintro e w5 ⟨b2, rfl, hg5, hr5⟩
        have OS5 := Lib.hid (ownN_R OS4.out hg5 hR1)
        have OT5 := Lib.hid (own_R OT4.out hg5 hR1)
        have B5 := Lib.hid (B4.out.trans (below_R hg5 B4.out.size (Nat.le_refl _)))
        clear hg5 hr5
        cases b2
        · go_wp2
          go_ret2
          refine ⟨_, _, S, _, rfl, by have := HNS.out; omega, by have := HNT2.out; omega, HT2.out, ?_, ?_, B5.out⟩
          · have h := ownN_mono OS5.out HB1.out.size
            rwa [HNS.out] at h
          · have h := own_mono OT5.out HB1.out.size
            rwa [HNT2.out] at h
        · go_wp2
          go_region
          · go_wp2
            go_ret2
            exact made_order1 B5.out HCS1.out HCS2.out HCT1.out HCT2.out
          · go_wp2
            go_ret2
            exact made_order2 B5.out HCS1.out HCS2.out HCT1.out HCT2.out
end Go.Proofs.Ytfidcfjmmhghjaa
