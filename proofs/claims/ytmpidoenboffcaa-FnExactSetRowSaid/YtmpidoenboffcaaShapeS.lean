/- Slices of shapes: reading, and the laws' helpers over them. -/
import Derived.Test.YtmpidoenboffcaaOwnN
import Derived.Test.YtmpidoenboffcaaShape
import Derived.Deep.RegionHeld3
namespace Go.Proofs.Ytmpidoenboffcaa
open Go.RowKit

structure Shp where
  W : Int
  b : UInt8
  L : Bool
instance : DecidableEq Shp := fun s t => decidable_of_iff (s.W = t.W ∧ s.b = t.b ∧ s.L = t.L) (by obtain ⟨a, b, c⟩ := s; obtain ⟨a', b', c'⟩ := t; simp)
def shC (s : Shp) : List Value := [.int .i64 s.W, .int .u8 (s.b.toNat : Int), .bool s.L]
def shCs (l : List Shp) : List Value := l.flatMap shC
theorem shCs_len (l : List Shp) : (shCs l).length = l.length * 3 := by
  induction l with
  | nil => rfl
  | cons a l ih => rw [shCs, List.flatMap_cons, List.length_append, ← shCs, ih]; simp [shC]; omega
theorem shCs_get (l : List Shp) (i : Nat) (h : i < l.length) : (shCs l)[i * 3]? = some (.int .i64 l[i].W) ∧ (shCs l)[i * 3 + 1]? = some (.int .u8 (l[i].b.toNat : Int)) ∧ (shCs l)[i * 3 + 2]? = some (.bool l[i].L) := by
  induction l generalizing i with
  | nil => simp at h
  | cons a l ih =>
    have e : shCs (a :: l) = .int .i64 a.W :: .int .u8 (a.b.toNat : Int) :: .bool a.L :: shCs l := rfl
    rw [e]
    rcases i with _ | i
    · exact ⟨rfl, rfl, rfl⟩
    · have h' := ih i (by simpa using h)
      have e1 : (i + 1) * 3 = i * 3 + 3 := by omega
      rw [e1]
      simpa using h'
/-- One shape of a row of shapes. -/
theorem row_shp {w : World} {a : Option Addr} {l : List Shp} (h : RowAt w a (shCs l)) (i : Nat) (hi : i < l.length) :
    ∃ b off, a = some ⟨b, off, none⟩ ∧ b < w.heap.size ∧ w.cell? ⟨b, off + i * 3, none⟩ = some (.int .i64 l[i].W) ∧ w.cell? ⟨b, off + i * 3 + 1, none⟩ = some (.int .u8 (l[i].b.toNat : Int)) ∧ w.cell? ⟨b, off + i * 3 + 2, none⟩ = some (.bool l[i].L) := by
  have hl := shCs_len l
  have hg := shCs_get l i hi
  obtain ⟨b, off, ha, hlt, h0⟩ := h (i * 3) (by omega)
  obtain ⟨b1, off1, ha1, _, h1⟩ := h (i * 3 + 1) (by omega)
  obtain ⟨b2, off2, ha2, _, h2⟩ := h (i * 3 + 2) (by omega)
  rw [ha] at ha1 ha2
  obtain ⟨rfl, rfl⟩ : b = b1 ∧ off = off1 := by injection ha1 with e; injection e with e1 e2; exact ⟨e1, e2⟩
  obtain ⟨rfl, rfl⟩ : b = b2 ∧ off = off2 := by injection ha2 with e; injection e with e1 e2; exact ⟨e1, e2⟩
  have g0 := hg.1; have g1 := hg.2.1; have g2 := hg.2.2
  rw [List.getElem?_eq_getElem (by omega)] at g0 g1 g2
  refine ⟨b, off, ha, hlt, h0.trans g0, ?_, ?_⟩
  · rw [← Nat.add_assoc] at h1; exact h1.trans g1
  · rw [← Nat.add_assoc] at h2; exact h2.trans g2

theorem szShapeS_any (v : Value) (a : Option Addr) (n c : Nat) (left : Int) (w : World) (hv : v = .slice a n c) (hn : n ≤ 9223372036854775807) (h0 : 0 ≤ left) (h1 : left ≤ 4611686018427387904) :
    Calls Try.prog 21 #[v, .int .i64 left] w fun e w' => e = .returned (.int .i64 (if left - n < 0 then -1 else left - n)) ∧ w = w' := by
  subst hv
  by_cases hl : left - (n : Int) < 0
  · rw [if_pos hl]
    go_enter Try.func21, Try.ntmps21
    go_wp2
    go_ret
    exact ⟨rfl, rfl⟩
  · rw [if_neg hl]
    go_enter Try.func21, Try.ntmps21
    go_wp2
    go_ret
    exact ⟨rfl, rfl⟩

theorem eqShape_any (s t : Shp) (w : World) :
    Calls Try.prog 37 #[.agg #[.int .i64 s.W, .int .u8 (s.b.toNat : Int), .bool s.L], .agg #[.int .i64 t.W, .int .u8 (t.b.toNat : Int), .bool t.L]] w fun e w' => e = .returned (.bool (decide (s = t))) ∧ Below w.heap.size w w' := by
  obtain ⟨W, b, L⟩ := s
  obtain ⟨W2, b2, L2⟩ := t
  have hal : ∀ o o', Below w.heap.size w ((w.alloc o).alloc o') := fun o o' => ((Below.refl _ _).alloc (Nat.le_refl _) o).alloc (by simp) o'
  have HAL := Lib.hid hal; clear hal
  by_cases h1 : W = W2
  · by_cases h2 : b = b2
    · by_cases h3 : L = L2
      · subst h1; subst h2; subst h3
        go_enter Try.func37, Try.ntmps37
        go_wp2
        go_ret
        exact ⟨ret_bool' (by simp), HAL.out _ _⟩
      · subst h1; subst h2
        have HR : Hid (decide ((⟨W, b, L⟩ : Shp) = ⟨W, b, L2⟩) = false) := by simp [Hid, h3]
        cases L <;> cases L2
        · exact absurd rfl h3
        · clear h3
          go_enter Try.func37, Try.ntmps37
          go_wp2
          go_ret
          exact ⟨ret_bool' HR.out.symm, HAL.out _ _⟩
        · clear h3
          go_enter Try.func37, Try.ntmps37
          go_wp2
          go_ret
          exact ⟨ret_bool' HR.out.symm, HAL.out _ _⟩
        · exact absurd rfl h3
    · subst h1
      have hne : ¬ b.toNat = b2.toNat := fun e => h2 (UInt8.toNat_inj.1 e)
      have hb : (((b.toNat : Nat) : Int) != ((b2.toNat : Nat) : Int)) = true := by rw [bne_iff_ne]; omega
      have HR : Hid (decide ((⟨W, b, L⟩ : Shp) = ⟨W, b2, L2⟩) = false) := by simp [Hid, h2]
      clear h2 hne
      go_enter Try.func37, Try.ntmps37
      go_wp2
      go_ret
      exact ⟨ret_bool' HR.out.symm, HAL.out _ _⟩
  · have hb : (W != W2) = true := by simpa using h1
    have HR : Hid (decide ((⟨W, b, L⟩ : Shp) = ⟨W2, b2, L2⟩) = false) := by simp [Hid, h1]
    clear h1
    go_enter Try.func37, Try.ntmps37
    go_wp2
    go_ret
    exact ⟨ret_bool' HR.out.symm, HAL.out _ _⟩

theorem info_shp : (Try.prog.info? 25).map (fun i => (i.zero, i.size)) = some (some (.agg #[.int .i64 0, .int .u8 0, .bool false]), 3) := by kernel_rfl
set_option maxHeartbeats 400000 in
theorem eqShapeS_core (a1 a2 : Option Addr) (n c1 c2 : Nat) (l1 l2 : List Shp) (w : World) (h1 : RowAt w a1 (shCs l1)) (h2 : RowAt w a2 (shCs l2)) (e1 : l1.length = n) (e2 : l2.length = n) (hn : n ≤ 9223372036854775807) (he : l1 = l2) :
    Calls Try.prog 25 #[.slice a1 n c1, .slice a2 n c2] w fun e w' => e = .returned (.bool true) ∧ Below w.heap.size w w' := by
  subst he
  clear e2
  have H1 := Lib.hid h1; have H2 := Lib.hid h2; have E1 := Lib.hid e1
  clear h1 h2 e1
  go_enter Try.func25, Try.ntmps25
  go_wp2
  go_loopw [5] (fun t wr => ∃ k : Nat, k ≤ n ∧ t = .int .i64 k ∧ Below w.heap.size w wr) (fun t _ => n - (intOf t).toNat)
  case atStart => exact ⟨0, Nat.zero_le _, rfl, Below.refl _ _⟩
  case round =>
    obtain ⟨k, hk, rfl, hb⟩ := hrel
    by_cases hlt : k < n
    · obtain ⟨b1, o1, rfl, hl1, x0, x1, x2⟩ := row_shp (H1.out.below (Nat.le_refl _) hb) k (by rw [E1.out]; exact hlt)
      obtain ⟨b2, o2, rfl, hl2, y0, y1, y2⟩ := row_shp (H2.out.below (Nat.le_refl _) hb) k (by rw [E1.out]; exact hlt)
      have k0 : (0 : Int) ≤ (k : Int) := by omega
      have k1 : (k : Int) < (n : Int) := by omega
      have CE := eqShape_any (l1[k]'(by rw [E1.out]; exact hlt)) (l1[k]'(by rw [E1.out]; exact hlt))
      have hd : decide ((l1[k]'(by rw [E1.out]; exact hlt)) = (l1[k]'(by rw [E1.out]; exact hlt))) = true := by simp
      rw [hd] at CE
      have HCE := Lib.hid CE
      clear CE hd
      generalize (l1[k]'(by rw [E1.out]; exact hlt)) = s at *
      have HB := Lib.hid hb
      clear hb
      go_wp2
      go_region_held3 (fun w' => w'.cell? ⟨b1, o1 + k * 3, none⟩ = some (.int .i64 s.W) ∧ w'.cell? ⟨b1, o1 + k * 3 + 1, none⟩ = some (.int .u8 (s.b.toNat : Int)) ∧ w'.cell? ⟨b1, o1 + k * 3 + 2, none⟩ = some (.bool s.L) ∧ w'.cell? ⟨b2, o2 + k * 3, none⟩ = some (.int .i64 s.W) ∧ w'.cell? ⟨b2, o2 + k * 3 + 1, none⟩ = some (.int .u8 (s.b.toNat : Int)) ∧ w'.cell? ⟨b2, o2 + k * 3 + 2, none⟩ = some (.bool s.L)) (go_keep) (first | (go_at_call 37; refine (HCE.out _).mono ?_; rintro e w1 ⟨rfl, hb1⟩; obtain ⟨hcc, _⟩ := bcell hb1; have z0 := (hcc _ (o1 + k * 3) hl1).trans x0; have z1 := (hcc _ (o1 + k * 3 + 1) hl1).trans x1; have z2 := (hcc _ (o1 + k * 3 + 2) hl1).trans x2; have z3 := (hcc _ (o2 + k * 3) hl2).trans y0; have z4 := (hcc _ (o2 + k * 3 + 1) hl2).trans y1; have z5 := (hcc _ (o2 + k * 3 + 2) hl2).trans y2; clear hcc))
      have HB1 := Lib.hid (HB.out.drew.trans (hb1.mono HB.out.size))
      clear hb1
      go_wp2
      go_roundw
      case rel => exact ⟨k + 1, by omega, by go_num, HB1.out⟩
      case measure => simp [intOf]; omega
    · go_wp2
      go_ret
      exact ⟨rfl, hb⟩

theorem info_shp2 : (Try.prog.info? 25).map (fun i => (i.zero, i.size, i.bytes)) = some (some (.agg #[.int .i64 0, .int .u8 0, .bool false]), 3, 16) := by kernel_rfl
theorem toShape_shp (s : Shp) (w : World) : Calls Try.prog 10 #[.agg #[.int .i64 s.W, .int .u8 (s.b.toNat : Int), .bool s.L]] w fun e w' => e = .returned (.agg #[.int .i64 s.W, .int .u8 (s.b.toNat : Int), .bool s.L]) ∧ Below w.heap.size w w' := toShape_any _ _ _ _
set_option maxHeartbeats 800000 in
theorem toShapeS_any (a : Option Addr) (n c : Nat) (l : List Shp) (w : World) (h : RowAt w a (shCs l)) (hn : l.length = n) (hb : n ≤ 8796093022208) :
    Calls Try.prog 23 #[.slice a n c] w fun e w' => ∃ v, e = .returned v ∧ w'.ownsRow w.heap.size 25 3 v n (shCs l) ∧ Below w.heap.size w w' := by
  obtain ⟨i0, hi, hz0, hz1, hz2⟩ := info_parts info_shp2
  have H := Lib.hid h; have HN := Lib.hid hn; clear h hn
  go_enter Try.func23, Try.ntmps23
  go_wp2_with (at_make; refine wpList_make_full _ rfl _ _ _ rfl w.heap.size 25 i0 _ 3 Try.underlying37 hi hz0 hz1 .i64 .i64 n n n rfl rfl rfl rfl (by rw [hz2]; omega) (by simp only [maxLen]; omega) (Nat.le_refl _) ?_; intro w1 hown hgrow)
  obtain ⟨Z, hZ⟩ : ∃ Z, Z = (madeCells (Value.agg #[.int .i64 0, .int .u8 0, .bool false]).cells (n * 3)).toList := ⟨_, rfl⟩
  rw [← hZ] at hown
  have hZl : Z.length = n * 3 := ownN_len hown
  have HZ := Lib.hid hZl
  have hbel : Below w.heap.size w w1 := below_of_grown hgrow (Nat.le_refl _) (by intro k hk; cases hk)
  clear hZ hZl hgrow
  go_loopw [4] (fun t wr => ∃ j : Nat, j ≤ n ∧ t = .int .i64 j ∧ wr.ownsRow w.heap.size 25 3 (.slice (some ⟨w.heap.size, 0, none⟩) n n) n (copied (shCs l) Z (j * 3)) ∧ Below w.heap.size w wr) (fun t _ => n - (intOf t).toNat)
  case atStart => exact ⟨0, Nat.zero_le _, rfl, by rw [Nat.zero_mul, copied_zero]; exact hown, hbel⟩
  case round =>
    clear hown hbel
    obtain ⟨j, hj, rfl, hown, hbel⟩ := hrel
    by_cases hjl : j < n
    · have hjl' : j < l.length := by rw [HN.out]; exact hjl
      obtain ⟨b, off, rfl, hlt, x0, x1, x2⟩ := row_shp (H.out.below (Nat.le_refl _) hbel) j hjl'
      have hg := shCs_get l j hjl'
      have hzl : Z.length = (shCs l).length := by rw [HZ.out, shCs_len, HN.out]
      have e0 := copied_set' (shCs l) Z (j * 3) _ hg.1 hzl
      have e1 := copied_set' (shCs l) Z (j * 3 + 1) _ hg.2.1 hzl
      have e2 := copied_set' (shCs l) Z (j * 3 + 2) _ hg.2.2 hzl
      have e3 : j * 3 + 2 + 1 = (j + 1) * 3 := by omega
      rw [e3] at e2
      have E : Hid ((((copied (shCs l) Z (j * 3)).set (j * 3) (.int .i64 l[j].W)).set (j * 3 + 1) (.int .u8 (l[j].b.toNat : Int))).set (j * 3 + 2) (.bool l[j].L) = copied (shCs l) Z ((j + 1) * 3)) := by
        show _ = _
        rw [e0, e1, e2]
      have CT := Lib.hid (toShape_shp l[j])
      clear e0 e1 e2 e3 hg hzl
      generalize l[j] = s at *
      have HO := Lib.hid hown
      have HB := Lib.hid hbel
      clear hown hbel
      go_wp2_with fail
      refine (CT.out _).mono ?_
      rintro e w2 ⟨rfl, hb2⟩
      obtain ⟨⟨f0, f1, f2⟩, ⟨y0, y1, y2, c0, c1, c2⟩, hS⟩ := ownN_set3 (x0 := .int .i64 s.W) (x1 := .int .u8 (s.b.toNat : Int)) (x2 := .bool s.L) (ownN_below HO.out hb2) hjl
      rw [E.out] at hS
      have HS := Lib.hid hS
      have HB2 := Lib.hid (HB.out.trans (hb2.mono HB.out.size))
      clear hS hb2
      go_wp2
      go_roundw
      case rel => exact ⟨j + 1, by omega, by go_num, HS.out, ((HB2.out.setCell (Nat.le_refl _) _).setCell (Nat.le_refl _) _).setCell (Nat.le_refl _) _⟩
      case measure => simp [intOf]; omega
    · obtain rfl : j = n := by omega
      have HO := Lib.hid hown; clear hown
      go_wp2
      go_ret
      refine ⟨_, rfl, ?_, hbel⟩
      have h1 := HO.out
      have h2 : copied (shCs l) Z (j * 3) = shCs l := by
        have h3 := copied_all (shCs l) Z (by rw [HZ.out, shCs_len, HN.out])
        rwa [shCs_len, HN.out] at h3
      rwa [h2] at h1
end Go.Proofs.Ytmpidoenboffcaa
