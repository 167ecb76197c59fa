/- SetRow, of the program and of the reference: both return the texts in their fields, joined by spaces. -/
import Derived.Test.YtfidcfjmmhghjaaShapeS
import Derived.Test.YtfidcfjmmhghjaaSetText
import Derived.Test.YtfidcfjmmhghjaaJoin
import Derived.Test.YtfidcfjmmhghjaaPush
namespace Go.Proofs.Ytfidcfjmmhghjaa
open Go.RowKit

theorem setB_len {W : Int} {b : UInt8} {L : Bool} {l : List UInt8} : (setB W b L l).length ≤ 640 := by
  unfold setB
  split
  · rename_i h
    have h1 := shB_wide h.1
    have h2 := textB_size (s := mkS l) (by rw [bl_mkS]; exact h.2)
    rw [mkS_size] at h2
    rw [padT_length]
    omega
  · simp
/-- The texts in their fields. -/
def setL (S : List Shp) (T : List ByteArray) : List ByteArray := List.zipWith (fun s t => mkS (setB s.W s.b s.L (bl t))) S T
def okP (p : Shp × ByteArray) : Bool := shB p.1.W (p.1.b.toNat : Int) && textB (bl p.2)
def okRow (S : List Shp) (T : List ByteArray) : Bool := (S.zip T).all okP
/-- The row's text, and whether there is one. -/
def rowR (S : List Shp) (T : List ByteArray) : ByteArray × Bool :=
  if S.length = T.length ∧ S.length ≤ 6 ∧ okRow S T = true then (joinS (setL S T) [32], true) else (⟨#[]⟩, false)
theorem setL_len (S : List Shp) (T : List ByteArray) (h : S.length = T.length) : (setL S T).length = S.length := by simp [setL, h]
theorem setL_snoc (S : List Shp) (T : List ByteArray) (k : Nat) (h1 : k < S.length) (h2 : k < T.length) : setL (S.take (k + 1)) (T.take (k + 1)) = setL (S.take k) (T.take k) ++ [mkS (setB S[k].W S[k].b S[k].L (bl T[k]))] := by
  rw [setL, setL, List.take_succ_eq_append_getElem h1, List.take_succ_eq_append_getElem h2, List.zipWith_append (by simp; omega)]
  rfl
theorem okRow_snoc (S : List Shp) (T : List ByteArray) (k : Nat) (h1 : k < S.length) (h2 : k < T.length) : okRow (S.take (k + 1)) (T.take (k + 1)) = (okRow (S.take k) (T.take k) && okP (S[k], T[k])) := by
  rw [okRow, okRow, List.take_succ_eq_append_getElem h1, List.take_succ_eq_append_getElem h2, List.zip_append (by simp; omega), List.all_append]
  simp
theorem okRow_bad (S : List Shp) (T : List ByteArray) (k : Nat) (h1 : k < S.length) (h2 : k < T.length) (h : okP (S[k], T[k]) = false) : okRow S T = false := by
  rcases hb : okRow S T with _ | _
  · rfl
  · rw [okRow, List.all_eq_true] at hb
    have := hb (S[k], T[k]) (by rw [List.mem_iff_getElem]; exact ⟨k, by simp; omega, by simp⟩)
    rw [this] at h
    cases h
theorem setL_le (S : List Shp) (T : List ByteArray) : ∀ x ∈ (setL S T).map bl, x.length ≤ 640 := by
  intro x hx
  obtain ⟨y, hy, rfl⟩ := List.mem_map.1 hx
  rw [setL, List.mem_iff_getElem] at hy
  obtain ⟨i, hi, rfl⟩ := hy
  rw [List.getElem_zipWith, bl_mkS]
  exact setB_len
theorem join_row (S : List Shp) (T : List ByteArray) (h : S.length ≤ 6) (he : S.length = T.length) : (Lib.join ((setL S T).map bl) [32]).length ≤ 4000 := by
  have := join_le 640 [32] _ (setL_le S T)
  rw [List.length_map, setL_len _ _ he] at this
  have : S.length * (640 + [(32 : UInt8)].length) ≤ 6 * 641 := Nat.mul_le_mul h (Nat.le_refl _)
  omega
theorem rowR_yes {S : List Shp} {T : List ByteArray} (h1 : S.length = T.length) (h2 : S.length ≤ 6) (h3 : okRow S T = true) : rowR S T = (joinS (setL S T) [32], true) := by rw [rowR, if_pos ⟨h1, h2, h3⟩]
theorem rowR_bad {S : List Shp} {T : List ByteArray} (h3 : okRow S T = false) : rowR S T = (⟨#[]⟩, false) := by rw [rowR, if_neg (by rw [h3]; simp)]
theorem rowR_len {S : List Shp} {T : List ByteArray} (h : ¬ (S.length = T.length ∧ S.length ≤ 6)) : rowR S T = (⟨#[]⟩, false) := by rw [rowR, if_neg (fun e => h ⟨e.1, e.2.1⟩)]
theorem below_drew1 {w w' : World} (h : Below w.drew.heap.size w.drew w') : Below w.heap.size w w' := (Below.refl _ _).drew.trans h
def RowOk (w : World) (r : ByteArray × Bool) (e : Ending) (w' : World) : Prop := e = .returned (.tuple #[.string r.1, .bool r.2]) ∧ Below w.heap.size w w'

set_option maxRecDepth 100000 in
set_option maxHeartbeats 600000 in
theorem impl_SetRow (a1 a2 : Option Addr) (n1 n2 c1 c2 : Nat) (S : List Shp) (T : List ByteArray) (w : World) (h1 : RowAt w a1 (shCs S)) (h2 : RowAt w a2 (T.map strV)) (e1 : S.length = n1) (e2 : T.length = n2) (hn1 : n1 ≤ 4611686018427387904) (hn2 : n2 ≤ 4611686018427387904) (hs : ∀ s ∈ T, s.size ≤ 4611686018427387904) :
    Calls Try.prog 5 #[.slice a1 n1 c1, .slice a2 n2 c2] w (RowOk w (rowR S T)) := by
  by_cases hl : n1 = n2
  · subst hl
    by_cases h6 : 6 < n1
    · have HR : Hid (rowR S T = (⟨#[]⟩, false)) := rowR_len (by omega)
      clear h1 h2 e1 e2 hs
      go_enter Try.func5, Try.ntmps5
      go_wp2
      go_ret2
      exact ⟨by rw [HR.out]; rfl, Below.refl _ _⟩
    · have H1 := Lib.hid h1; have H2 := Lib.hid h2; have E1 := Lib.hid e1; have E2 := Lib.hid e2; have HS := Lib.hid hs
      clear h1 h2 e1 e2 hs
      have hd : decide ((6 : Int) < (n1 : Int)) = false := by simp; omega
      have O0 := own_new w #[] 9 0 rfl (by omega)
      have B0 : Below w.heap.size w (w.alloc (.cells #[] 9 (0, 0))) := (Below.refl _ _).alloc (Nat.le_refl _) _
      go_enter Try.func5, Try.ntmps5
      go_wp2
      go_loopw [6, 22] (fun o t wr => ∃ k : Nat, k ≤ n1 ∧ t = .int .i64 (k : Int) ∧ wr.ownsRow w.heap.size 9 1 o k ((setL (S.take k) (T.take k)).map strV) ∧ Hid (okRow (S.take k) (T.take k) = true) ∧ Below w.heap.size w wr) (fun _ t _ => n1 - (intOf t).toNat)
      case atStart => exact ⟨0, Nat.zero_le _, rfl, O0, rfl, B0⟩
      case round =>
        clear O0 B0
        obtain ⟨k, hk, rfl, hown, HK, hbel⟩ := hrel
        have hwr := hbel.size
        by_cases hkl : k < n1
        · have k1 : k < S.length := by rw [E1.out]; exact hkl
          have k2 : k < T.length := by rw [E2.out]; exact hkl
          obtain ⟨b1, o1, rfl, hl1, x0, x1, x2⟩ := row_shp (H1.out.below (Nat.le_refl _) hbel) k k1
          obtain ⟨b2, o2, rfl, hl2, hc⟩ := row_str (H2.out.below (Nat.le_refl _) hbel) k k2
          rw [getD_at k2] at hc
          have hts : T[k].size ≤ 4611686018427387904 := HS.out _ (List.getElem_mem _)
          have CV : Hid (∀ W', Calls Try.prog 14 #[.agg #[.int .i64 S[k].W, .int .u8 (S[k].b.toNat : Int), .bool S[k].L]] W' fun e w' => e = .returned (.bool (shB S[k].W (S[k].b.toNat : Int))) ∧ Below W'.heap.size W' w') := fun W' => impl_ShapeValid _ _ _ W'
          have CT : Hid (∀ W', Calls Try.prog 15 #[.string T[k]] W' fun e w' => e = .returned (.bool (textB (bl T[k]))) ∧ W' = w') := fun W' => impl_TextValid T[k] W' (by omega)
          have CI : Hid (∀ W', Calls Try.prog 8 #[.agg #[.int .i64 S[k].W, .int .u8 (S[k].b.toNat : Int), .bool S[k].L], .string T[k]] W' fun e w' => e = .returned (.string (mkS (setB S[k].W S[k].b S[k].L (bl T[k])))) ∧ Below W'.heap.size W' w') := fun W' => impl_SetText _ _ _ _ W' hts
          have HSN := Lib.hid (setL_snoc S T k k1 k2)
          have HON := okRow_snoc S T k k1 k2
          rw [HK.out, Bool.true_and] at HON
          have HBD := okRow_bad S T k k1 k2
          rw [okP] at HON HBD
          have HON' := Lib.hid HON
          have HBD' : Hid ((shB S[k].W (S[k].b.toNat : Int) && textB (bl T[k])) = false → rowR S T = (⟨#[]⟩, false)) := fun h => rowR_bad (HBD h)
          clear HON HBD
          generalize shB S[k].W (S[k].b.toNat : Int) = g at *
          generalize textB (bl T[k]) = tv at *
          generalize mkS (setB S[k].W S[k].b S[k].L (bl T[k])) = X at *
          generalize T[k] = t at *
          generalize S[k] = s at *
          have HO := Lib.hid hown
          have HB := Lib.hid hbel
          have kk0 : (0 : Int) ≤ (k : Int) := by omega
          have kk1 : (k : Int) < (n1 : Int) := by omega
          clear hown hbel
          go_wp2_with fail
          refine (CV.out _).mono ?_
          rintro e w1 ⟨rfl, bw1⟩
          have B1 := Lib.hid bw1
          clear bw1
          have c0 : w1.cell? ⟨wr.heap.size, 0, none⟩ = some (.int .i64 s.W) := new_kept B1.out 0
          have c1 : w1.cell? ⟨wr.heap.size, 1, none⟩ = some (.int .u8 (s.b.toNat : Int)) := new_kept B1.out 1
          have c2 : w1.cell? ⟨wr.heap.size, 2, none⟩ = some (.bool s.L) := new_kept B1.out 2
          have t1 : w1.cell? ⟨b2, o2 + k, none⟩ = some (.string t) := ((new_below B1.out).cell (p := ⟨b2, o2 + k, none⟩) hl2).trans hc
          have hz1 : wr.heap.size < w1.heap.size := by have := B1.out.size; rw [World.size_alloc] at this; omega
          have BW := Lib.hid (HB.out.trans ((new_below B1.out).mono hwr))
          have O1 := Lib.hid (own_below HO.out (new_below B1.out))
          have hb2 : b2 < w1.heap.size := by omega
          have HN1 : some wr.heap.size ≠ Value.ownBlock u6 := fun e => by have := own_ge HO.out _ e.symm; omega
          have HN2 : some b2 ≠ Value.ownBlock u6 := fun e => by
            have := own_ge HO.out _ e.symm
            obtain ⟨b, off, e2, hlt, _⟩ := H2.out k (by simpa using k2)
            injection e2 with e2; injection e2 with e2
            omega
          clear x0 x1 x2 hc
          cases g
          · have HR : Hid (rowR S T = (⟨#[]⟩, false)) := HBD'.out rfl
            go_wp2
            go_ret2
            exact ⟨by rw [HR.out]; rfl, BW.out⟩
          · cases tv
            · have HR : Hid (rowR S T = (⟨#[]⟩, false)) := HBD'.out rfl
              go_wp2_with fail
              refine (CT.out _).mono ?_
              rintro e w2 ⟨rfl, rfl⟩
              go_wp2
              go_ret2
              exact ⟨by rw [HR.out]; rfl, BW.out⟩
            · have HK2 : Hid (okRow (S.take (k + 1)) (T.take (k + 1)) = true) := HON'.out
              go_wp2_with fail
              refine (CT.out _).mono ?_
              rintro e w2 ⟨rfl, rfl⟩
              go_wp2_with fail
              go_region_held3 (fun w' => w'.cell? ⟨wr.heap.size, 0, none⟩ = some (.int .i64 s.W) ∧ w'.cell? ⟨wr.heap.size, 1, none⟩ = some (.int .u8 (s.b.toNat : Int)) ∧ w'.cell? ⟨wr.heap.size, 2, none⟩ = some (.bool s.L) ∧ w'.cell? ⟨b2, o2 + k, none⟩ = some (.string t)) (go_keep) (first | (go_at_call 8; refine (CI.out _).mono ?_; rintro e w3 ⟨rfl, b3⟩; obtain ⟨hcc, _⟩ := bcell b3; have z0 := (hcc _ 0 hz1).trans c0; have z1 := (hcc _ 1 hz1).trans c1; have z2 := (hcc _ 2 hz1).trans c2; have z3 := (hcc _ (o2 + k) hb2).trans t1; clear hcc; have hz3 : w1.heap.size ≤ w3.heap.size := b3.size; have hal3 : ∀ o j, (w3.alloc o).cell? ⟨wr.heap.size, j, none⟩ = w3.cell? ⟨wr.heap.size, j, none⟩ := fun o j => World.cell?_alloc_lt _ _ _ (Nat.lt_of_lt_of_le hz1 hz3); have hal4 : ∀ o j, (w3.alloc o).cell? ⟨b2, j, none⟩ = w3.cell? ⟨b2, j, none⟩ := fun o j => World.cell?_alloc_lt _ _ _ (Nat.lt_of_lt_of_le hb2 hz3)) | ((refine step_pushS _ (.tmp 38) (.tmp 45) w.heap.size X _ _ _ (by exact own_below (own_below O1.out (below_drew1 b3)) ((Below.refl _ _).alloc (Nat.le_refl _) _)) (by simp; omega) (by omega) w3.heap.size 1 (by exact cell_new1 w3 _ _) rfl (by rfl) (by rfl) (by rfl) ?_; intro v5 w5 o5 g5; have q0 := (g5.cell ((hal3 _ _).trans z0) HN1); have q1 := (g5.cell ((hal3 _ _).trans z1) HN1); have q2 := (g5.cell ((hal3 _ _).trans z2) HN1); have q3 := (g5.cell ((hal4 _ _).trans z3) HN2))) | fail)
              have hz3' : w1.heap.size ≤ w3.heap.size := b3.size
              have B5 := Lib.hid (((BW.out.drew.trans (b3.mono BW.out.size)).alloc (Nat.le_trans BW.out.size hz3') _).grown g5 (by simp; omega) (fun q hq => (own_ge HO.out q hq).1))
              have O5 := Lib.hid o5
              clear o5 g5 b3 q0 q1 q2 q3 z0 z1 z2 z3
              go_wp2
              go_roundw
              case rel => exact ⟨k + 1, by omega, by go_num, by rw [HSN.out]; exact O5.out, HK2, B5.out⟩
              case measure => simp [intOf]; omega
        · obtain rfl : k = n1 := by omega
          have hS : S.take k = S := List.take_of_length_le (by rw [E1.out]; exact Nat.le_refl _)
          have hT : T.take k = T := List.take_of_length_le (by rw [E2.out]; exact Nat.le_refl _)
          rw [hS, hT] at hown HK
          have HR : Hid (rowR S T = (joinS (setL S T) [32], true)) := rowR_yes (by rw [E1.out, E2.out]) (by rw [E1.out]; omega) HK.out
          have hj := join_row S T (by rw [E1.out]; omega) (by rw [E1.out, E2.out])
          have CJ := Lib.hid (fun (v : Value) (W : World) (h : W.ownsRow w.heap.size 9 1 v k ((setL S T).map strV)) => join_any v _ k (setL S T) ⟨#[32]⟩ W h (by omega) (Nat.le_trans hj (by omega)))
          have HO := Lib.hid hown
          have HB := Lib.hid hbel
          clear hown hbel hS hT hj
          go_wp2_with fail
          refine (CJ.out _ _ HO.out).mono ?_
          rintro e w1 ⟨rfl, b1⟩
          go_wp2
          go_ret2
          exact ⟨by rw [HR.out]; rfl, HB.out.trans (b1.mono HB.out.size)⟩
  · have HR : Hid (rowR S T = (⟨#[]⟩, false)) := rowR_len (by omega)
    have hb : (((n1 : Nat) : Int) != ((n2 : Nat) : Int)) = true := by rw [bne_iff_ne]; omega
    clear h1 h2 e1 e2 hs hl
    go_enter Try.func5, Try.ntmps5
    go_wp2
    go_ret2
    exact ⟨by rw [HR.out]; rfl, Below.refl _ _⟩

theorem join_take (S : List Shp) (T : List ByteArray) (k : Nat) (X : ByteArray) (h : k < S.length) (he : S.length = T.length) (hs : setL (S.take (k + 1)) (T.take (k + 1)) = setL (S.take k) (T.take k) ++ [X]) :
    joinS (setL (S.take (k + 1)) (T.take (k + 1))) [32] = if k = 0 then X else joinS (setL (S.take k) (T.take k)) [32] ++ ⟨#[32]⟩ ++ X := by
  rw [hs, joinS, joinS, List.map_append]
  by_cases h0 : k = 0
  · subst h0
    rw [if_pos rfl]
    simp only [List.take_zero, setL, List.zipWith_nil_left, List.map_nil, List.nil_append, List.map_cons]
    rw [Lib.join_one, mkS_bl]
  · rw [if_neg h0, List.map_cons, List.map_nil, join_snoc _ _ _ (by
      intro e
      have h3 := congrArg List.length e
      rw [List.length_map, setL_len _ _ (by rw [List.length_take, List.length_take, he]), List.length_take, List.length_nil] at h3
      omega)]
    apply bl_inj
    rw [bl_mkS, bl_app, bl_app, bl_mkS]
    rfl
theorem joinS_size (S : List Shp) (T : List ByteArray) (k : Nat) (h : S.length ≤ 6) (he : S.length = T.length) : (joinS (setL (S.take k) (T.take k)) [32]).size ≤ 4000 := by
  rw [joinS, mkS_size]
  exact join_row _ _ (by simp; omega) (by simp; omega)

set_option maxRecDepth 100000 in
set_option maxHeartbeats 600000 in
theorem spec_SetRow (a1 a2 : Option Addr) (n1 n2 c1 c2 : Nat) (S : List Shp) (T : List ByteArray) (w : World) (h1 : RowAt w a1 (shCs S)) (h2 : RowAt w a2 (T.map strV)) (e1 : S.length = n1) (e2 : T.length = n2) (hn1 : n1 ≤ 4611686018427387904) (hn2 : n2 ≤ 4611686018427387904) (hs : ∀ s ∈ T, s.size ≤ 4611686018427387904) :
    Calls Try.prog 6 #[.slice a1 n1 c1, .slice a2 n2 c2] w (RowOk w (rowR S T)) := by
  by_cases hl : n1 = n2
  · subst hl
    by_cases h6 : 6 < n1
    · have HR : Hid (rowR S T = (⟨#[]⟩, false)) := rowR_len (by omega)
      clear h1 h2 e1 e2 hs
      go_enter Try.func6, Try.ntmps6
      go_wp2
      go_ret2
      exact ⟨by rw [HR.out]; rfl, Below.refl _ _⟩
    · have H1 := Lib.hid h1; have H2 := Lib.hid h2; have E1 := Lib.hid e1; have E2 := Lib.hid e2; have HS := Lib.hid hs
      clear h1 h2 e1 e2 hs
      have hd : decide ((6 : Int) < (n1 : Int)) = false := by simp; omega
      go_enter Try.func6, Try.ntmps6
      go_wp2
      go_loopw [6, 7] (fun o t wr => ∃ (k : Nat) (x : ByteArray), k ≤ n1 ∧ t = .int .i64 (k : Int) ∧ o = .string x ∧ x.size ≤ 4000 ∧ Hid (x = joinS (setL (S.take k) (T.take k)) [32]) ∧ Hid (okRow (S.take k) (T.take k) = true) ∧ Below w.heap.size w wr) (fun _ t _ => n1 - (intOf t).toNat)
      case atStart => exact ⟨0, _, Nat.zero_le _, rfl, rfl, by decide, rfl, rfl, Below.refl _ _⟩
      case round =>
        obtain ⟨k, x, hk, rfl, rfl, hx, HX, HK, hbel⟩ := hrel
        have hwr := hbel.size
        by_cases hkl : k < n1
        · have k1 : k < S.length := by rw [E1.out]; exact hkl
          have k2 : k < T.length := by rw [E2.out]; exact hkl
          obtain ⟨b1, o1, rfl, hl1, x0, x1, x2⟩ := row_shp (H1.out.below (Nat.le_refl _) hbel) k k1
          obtain ⟨b2, o2, rfl, hl2, hc⟩ := row_str (H2.out.below (Nat.le_refl _) hbel) k k2
          rw [getD_at k2] at hc
          have hts : T[k].size ≤ 4611686018427387904 := HS.out _ (List.getElem_mem _)
          have CV : Hid (∀ W', Calls Try.prog 17 #[.agg #[.int .i64 S[k].W, .int .u8 (S[k].b.toNat : Int), .bool S[k].L]] W' fun e w' => e = .returned (.bool (shB S[k].W (S[k].b.toNat : Int))) ∧ Below W'.heap.size W' w') := fun W' => spec_ShapeValid _ _ _ W'
          have CT : Hid (∀ W', Calls Try.prog 18 #[.string T[k]] W' fun e w' => e = .returned (.bool (textB (bl T[k]))) ∧ W' = w') := fun W' => spec_TextValid T[k] W' (by omega)
          have CI : Hid (∀ W', Calls Try.prog 19 #[.agg #[.int .i64 S[k].W, .int .u8 (S[k].b.toNat : Int), .bool S[k].L], .string T[k]] W' fun e w' => e = .returned (.string (mkS (setB S[k].W S[k].b S[k].L (bl T[k])))) ∧ Below W'.heap.size W' w') := fun W' => spec_SetText _ _ _ _ W' hts
          have HSN := setL_snoc S T k k1 k2
          have hXs : (mkS (setB S[k].W S[k].b S[k].L (bl T[k]))).size ≤ 640 := by rw [mkS_size]; exact setB_len
          have HON := okRow_snoc S T k k1 k2
          rw [HK.out, Bool.true_and] at HON
          have HBD := okRow_bad S T k k1 k2
          rw [okP] at HON HBD
          have HON' := Lib.hid HON
          have HBD' : Hid ((shB S[k].W (S[k].b.toNat : Int) && textB (bl T[k])) = false → rowR S T = (⟨#[]⟩, false)) := fun h => rowR_bad (HBD h)
          clear HON HBD
          generalize shB S[k].W (S[k].b.toNat : Int) = g at *
          generalize textB (bl T[k]) = tv at *
          generalize mkS (setB S[k].W S[k].b S[k].L (bl T[k])) = X at *
          have HJ := join_take S T k X k1 (by rw [E1.out, E2.out]) HSN
          rw [← HX.out] at HJ
          have HJ' := Lib.hid HJ
          have hjs := joinS_size S T (k + 1) (by rw [E1.out]; omega) (by rw [E1.out, E2.out])
          rw [HJ] at hjs
          clear HJ HSN
          generalize T[k] = t at *
          generalize S[k] = s at *
          have HB := Lib.hid hbel
          have kk0 : (0 : Int) ≤ (k : Int) := by omega
          have kk1 : (k : Int) < (n1 : Int) := by omega
          clear hbel
          go_wp2_with fail
          refine (CV.out _).mono ?_
          rintro e w1 ⟨rfl, bw1⟩
          have t1 : w1.cell? ⟨b2, o2 + k, none⟩ = some (.string t) := (bw1.cell (p := ⟨b2, o2 + k, none⟩) hl2).trans hc
          have y0 : w1.cell? ⟨b1, o1 + k * 3, none⟩ = some (.int .i64 s.W) := (bw1.cell (p := ⟨b1, o1 + k * 3, none⟩) hl1).trans x0
          have y1 : w1.cell? ⟨b1, o1 + k * 3 + 1, none⟩ = some (.int .u8 (s.b.toNat : Int)) := (bw1.cell (p := ⟨b1, o1 + k * 3 + 1, none⟩) hl1).trans x1
          have y2 : w1.cell? ⟨b1, o1 + k * 3 + 2, none⟩ = some (.bool s.L) := (bw1.cell (p := ⟨b1, o1 + k * 3 + 2, none⟩) hl1).trans x2
          have hz1 := bw1.size
          have hb1 : b1 < w1.heap.size := by omega
          have hb2 : b2 < w1.heap.size := by omega
          have BW := Lib.hid (HB.out.trans (bw1.mono hwr))
          clear x0 x1 x2 hc bw1
          cases g
          · have HR : Hid (rowR S T = (⟨#[]⟩, false)) := HBD'.out rfl
            go_wp2
            go_ret2
            exact ⟨by rw [HR.out]; rfl, BW.out⟩
          · cases tv
            · have HR : Hid (rowR S T = (⟨#[]⟩, false)) := HBD'.out rfl
              go_wp2_with fail
              refine (CT.out _).mono ?_
              rintro e w2 ⟨rfl, rfl⟩
              go_wp2
              go_ret2
              exact ⟨by rw [HR.out]; rfl, BW.out⟩
            · have HK2 : Hid (okRow (S.take (k + 1)) (T.take (k + 1)) = true) := HON'.out
              go_wp2_with fail
              refine (CT.out _).mono ?_
              rintro e w2 ⟨rfl, rfl⟩
              by_cases h0 : 0 < k
              · rw [if_neg (by omega)] at hjs
                have HJ2 : Hid (joinS (setL (S.take (k + 1)) (T.take (k + 1))) [32] = x ++ ⟨#[32]⟩ ++ X) := by have := HJ'.out; rwa [if_neg (by omega)] at this
                have HJS := Lib.hid hjs
                have hxs : (x ++ (⟨#[32]⟩ : ByteArray)).size ≤ 4001 := by rw [ByteArray.size_append]; show x.size + 1 ≤ 4001; omega
                clear hjs HJ'
                go_wp2_with fail
                obtain ⟨y, hy⟩ : ∃ y, y = x ++ (⟨#[32]⟩ : ByteArray) := ⟨_, rfl⟩
                rw [← hy] at hxs HJ2 HJS ⊢
                clear hy
                have hyi : (9223372036854775807 < y.size + X.size) = False := by simp; omega
                go_region_held3 (fun w' => w'.cell? ⟨b1, o1 + k * 3, none⟩ = some (.int .i64 s.W) ∧ w'.cell? ⟨b1, o1 + k * 3 + 1, none⟩ = some (.int .u8 (s.b.toNat : Int)) ∧ w'.cell? ⟨b1, o1 + k * 3 + 2, none⟩ = some (.bool s.L) ∧ w'.cell? ⟨b2, o2 + k, none⟩ = some (.string t)) (go_keep) (first | (go_at_call 19; refine (CI.out _).mono ?_; rintro e w3 ⟨rfl, b3⟩; obtain ⟨hcc, _⟩ := bcell b3; have z0 := (hcc _ _ hb1).trans y0; have z1 := (hcc _ _ hb1).trans y1; have z2 := (hcc _ _ hb1).trans y2; have z3 := (hcc _ _ hb2).trans t1; clear hcc) | fail)
                have B3 := Lib.hid (BW.out.drew.trans (b3.mono BW.out.size))
                clear b3 z0 z1 z2 z3
                go_wp2
                go_roundw
                case rel => exact ⟨k + 1, _, by omega, by go_num, rfl, HJS.out, HJ2.out.symm, HK2, B3.out⟩
                case measure => simp [intOf]; omega
              · obtain rfl : k = 0 := by omega
                rw [if_pos rfl] at hjs
                have HJ2 : Hid (joinS (setL (S.take (0 + 1)) (T.take (0 + 1))) [32] = X) := by have := HJ'.out; rwa [if_pos rfl] at this
                obtain rfl : x = ⟨#[]⟩ := HX.out
                have HXE : Hid (⟨#[]⟩ ++ X = X) := bl_inj (by rw [bl_app]; rfl)
                clear HJ'
                simp only [Nat.zero_mul, Nat.add_zero] at y0 y1 y2 t1
                have hyi : (9223372036854775807 < X.size) = False := by simp; omega
                go_wp2_with fail
                go_region_held3 (fun w' => w'.cell? ⟨b1, o1, none⟩ = some (.int .i64 s.W) ∧ w'.cell? ⟨b1, o1 + 1, none⟩ = some (.int .u8 (s.b.toNat : Int)) ∧ w'.cell? ⟨b1, o1 + 2, none⟩ = some (.bool s.L) ∧ w'.cell? ⟨b2, o2, none⟩ = some (.string t)) (go_keep) (first | (go_at_call 19; refine (CI.out _).mono ?_; rintro e w3 ⟨rfl, b3⟩; obtain ⟨hcc, _⟩ := bcell b3; have z0 := (hcc _ _ hb1).trans y0; have z1 := (hcc _ _ hb1).trans y1; have z2 := (hcc _ _ hb1).trans y2; have z3 := (hcc _ _ hb2).trans t1; clear hcc) | fail)
                have B3 := Lib.hid (BW.out.drew.trans (b3.mono BW.out.size))
                clear b3 z0 z1 z2 z3
                go_wp2
                go_roundw
                case rel => exact ⟨0 + 1, _, by omega, by go_num, rfl, by rw [HXE.out]; exact hjs, by show _ = _; rw [HXE.out]; exact HJ2.out.symm, HK2, B3.out⟩
                case measure => simp [intOf]; omega
        · obtain rfl : k = n1 := by omega
          have hS : S.take k = S := List.take_of_length_le (by rw [E1.out]; exact Nat.le_refl _)
          have hT : T.take k = T := List.take_of_length_le (by rw [E2.out]; exact Nat.le_refl _)
          rw [hS, hT] at HX HK
          have HR : Hid (rowR S T = (x, true)) := by rw [HX.out]; exact rowR_yes (by rw [E1.out, E2.out]) (by rw [E1.out]; omega) HK.out
          have HB := Lib.hid hbel
          clear hbel hS hT
          go_wp2
          go_ret2
          exact ⟨by rw [HR.out]; rfl, HB.out⟩
  · have HR : Hid (rowR S T = (⟨#[]⟩, false)) := rowR_len (by omega)
    have hb : (((n1 : Nat) : Int) != ((n2 : Nat) : Int)) = true := by rw [bne_iff_ne]; omega
    clear h1 h2 e1 e2 hs hl
    go_enter Try.func6, Try.ntmps6
    go_wp2
    go_ret2
    exact ⟨by rw [HR.out]; rfl, Below.refl _ _⟩
end Go.Proofs.Ytfidcfjmmhghjaa
