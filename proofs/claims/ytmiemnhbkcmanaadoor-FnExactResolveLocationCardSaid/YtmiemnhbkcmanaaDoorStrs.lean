/- The laws' helpers over slices of strings: equal, mark, held, copy, size: what each does, for every slice. Printed by gen_strs.py. -/
import Derived.Test.YtmiemnhbkcmanaaDoorOwn
import Derived.Test.YtmiemnhbkcmanaaDoorApp
import Derived.Test.YtmiemnhbkcmanaaDoorStr
import Derived.Test.YtmiemnhbkcmanaaDoorBv
import Derived.Deep.RegionHeld3
namespace Go.Proofs.YtmiemnhbkcmanaaDoor
open Go.RowKit

def strV (s : ByteArray) : Value := .string s
theorem tl_yn (a b : ByteArray) : (a.toList == b.toList) = decide (a = b) := by
  rw [Bool.eq_iff_iff, beq_iff_eq, decide_eq_true_iff]
  constructor
  · intro h
    rw [ByteArray.toList_eq, ByteArray.toList_eq] at h
    exact bl_inj h
  · rintro rfl; rfl
theorem tl_no {a b : ByteArray} (h : ¬ a = b) : (a.toList == b.toList) = false := by rw [tl_yn]; simp [h]
theorem row_str {w : World} {a : Option Addr} {l : List ByteArray} (h : RowAt w a (l.map strV)) (i : Nat) (hi : i < l.length) :
    ∃ b off, a = some ⟨b, off, none⟩ ∧ b < w.heap.size ∧ w.cell? ⟨b, off + i, none⟩ = some (.string (l.getD i ⟨#[]⟩)) := by
  obtain ⟨b, off, ha, hlt, hc⟩ := h i (by simpa using hi)
  exact ⟨b, off, ha, hlt, by rw [hc]; simp [strV, List.getD_eq_getElem?_getD, hi]⟩
theorem info_str : (Tryd.prog.info? 9).map (fun i => (i.zero, i.size, i.bytes)) = some (some (.string ⟨#[]⟩), 1, 16) := by kernel_rfl
theorem strs_one (l : List ByteArray) : ∀ u ∈ l.map strV, u.oneCell' = true := by
  intro u hu
  obtain ⟨b, _, rfl⟩ := List.mem_map.1 hu
  rfl

/-- What a walk is told of a slice of strings that came in. -/
def IsStrs (w : World) (a : Option Addr) (len cap : Nat) (z : List ByteArray) : Prop :=
  (a = none ∧ len = 0 ∧ cap = 0 ∧ z = []) ∨
  ∃ x, a = some x ∧ len ≤ cap ∧ cap ≤ maxLen ∧ z.length = cap ∧ (∀ i, i < z.length → w.cell? (x.add i) = some (.string (z.getD i ByteArray.empty))) ∧ ∀ s ∈ z, s.size ≤ maxLen

/-- The strings that a slice of n holds. -/
def argS (z : List ByteArray) (n : Nat) : List ByteArray := (List.range n).map fun i => z.getD i ByteArray.empty
theorem argS_len (z : List ByteArray) (n : Nat) : (argS z n).length = n := by simp [argS]
theorem IsStrs.row {w : World} {a : Option Addr} {n c : Nat} {z : List ByteArray} (h : IsStrs w a n c z) : RowAt w a ((argS z n).map strV) := by
  intro i hi
  have hi' : i < n := by simpa [argS] using hi
  rcases h with ⟨_, rfl, _⟩ | ⟨x, rfl, hl, hm, hz, hc, hw⟩
  · omega
  · obtain ⟨b, off, spot⟩ := x
    have h1 := hc i (by omega)
    have hs : spot = none := by simpa [Addr.add] using World.cell?_spot (hc 0 (by omega))
    subst hs
    have e : (⟨b, off, none⟩ : Addr).add i = ⟨b, off + i, none⟩ := by unfold Addr.add; split <;> simp_all
    rw [e] at h1
    refine ⟨b, off, rfl, World.block_lt_of_cell? w _ h1, ?_⟩
    rw [h1]
    simp [argS, strV]
theorem IsStrs.size {w : World} {a : Option Addr} {n c : Nat} {z : List ByteArray} (h : IsStrs w a n c z) : ∀ s ∈ argS z n, s.size ≤ 9223372036854775807 := by
  intro s hs
  simp only [argS, List.mem_map, List.mem_range] at hs
  obtain ⟨i, hi, rfl⟩ := hs
  rcases h with ⟨_, rfl, _⟩ | ⟨x, rfl, hl, hm, hz, hc, hw⟩
  · omega
  · have hiz : i < z.length := by omega
    rw [List.getD_eq_getElem?_getD, List.getElem?_eq_getElem hiz]
    have := hw z[i] (List.getElem_mem _)
    simpa [maxLen] using this
theorem IsStrs.caps {w : World} {a : Option Addr} {n c : Nat} {z : List ByteArray} (h : IsStrs w a n c z) : n ≤ c ∧ c ≤ 9223372036854775807 := by
  rcases h with ⟨_, rfl, rfl, _⟩ | ⟨x, _, hl, hm, _⟩
  · exact ⟨Nat.le_refl _, by omega⟩
  · exact ⟨hl, by simpa [maxLen] using hm⟩

set_option maxHeartbeats 400000 in
theorem eqStringS_core (a1 a2 : Option Addr) (n c1 c2 : Nat) (l1 l2 : List ByteArray) (w : World) (h1 : RowAt w a1 (l1.map strV)) (h2 : RowAt w a2 (l2.map strV)) (e1 : l1.length = n) (e2 : l2.length = n) (hn : n ≤ 9223372036854775807) :
    Calls Tryd.prog 23 #[.slice a1 n c1, .slice a2 n c2] w fun e w' => (∃ b, e = .returned (.bool b) ∧ (b = true ↔ ∀ i, i < n → l1.getD i ⟨#[]⟩ = l2.getD i ⟨#[]⟩)) ∧ Below w.heap.size w w' := by
  go_enter Tryd.func23, Tryd.ntmps23
  go_wp2
  have H1 := Lib.hid h1; have H2 := Lib.hid h2; have E1 := Lib.hid e1; have E2 := Lib.hid e2
  clear h1 h2 e1 e2
  go_loopw [5] (fun t wr => ∃ k : Nat, k ≤ n ∧ t = .int .i64 k ∧ Hid (∀ i, i < k → l1.getD i ⟨#[]⟩ = l2.getD i ⟨#[]⟩) ∧ Below w.heap.size w wr) (fun t _ => n - (intOf t).toNat)
  case atStart => exact ⟨0, Nat.zero_le _, rfl, by intro i hi; omega, Below.refl _ _⟩
  case round =>
    obtain ⟨k, hk, rfl, HQ, hb⟩ := hrel
    by_cases hlt : k < n
    · obtain ⟨b1, o1, rfl, hl1, hc1⟩ := row_str (H1.out.below (Nat.le_refl _) hb) k (by rw [E1.out]; exact hlt)
      obtain ⟨b2, o2, rfl, hl2, hc2⟩ := row_str (H2.out.below (Nat.le_refl _) hb) k (by rw [E2.out]; exact hlt)
      have k0 : (0 : Int) ≤ (k : Int) := by omega
      have k1 : (k : Int) < (n : Int) := by omega
      by_cases he : l1.getD k ⟨#[]⟩ = l2.getD k ⟨#[]⟩
      · rw [← he] at hc2
        have HE := Lib.hid he; clear he
        generalize l1.getD k ⟨#[]⟩ = z at hc1 hc2
        go_wp2
        go_quiet (fail)
        go_wp2
        go_roundw
        case rel => exact ⟨k + 1, by omega, by go_num, upto_succ HQ.out HE.out, below_drewN hb _⟩
        case measure => simp [intOf]; omega
      · have hne : ((l1.getD k ⟨#[]⟩).toList == (l2.getD k ⟨#[]⟩).toList) = false := tl_no he
        have HE := Lib.hid he; clear he
        generalize l1.getD k ⟨#[]⟩ = z1 at hc1 hne
        generalize l2.getD k ⟨#[]⟩ = z2 at hc2 hne
        go_wp2
        go_quiet (fail)
        go_wp2
        go_ret
        exact ⟨⟨false, rfl, by simp; exact ⟨k, hlt, by simpa using HE.out⟩⟩, below_drewN hb _⟩
    · go_wp2
      go_ret
      exact ⟨⟨true, rfl, by simp; intro i hi; simpa using HQ.out i (by omega)⟩, hb⟩

theorem eqStringS_any (a1 a2 : Option Addr) (n1 n2 c1 c2 : Nat) (l1 l2 : List ByteArray) (w : World) (h1 : RowAt w a1 (l1.map strV)) (h2 : RowAt w a2 (l2.map strV)) (e1 : l1.length = n1) (e2 : l2.length = n2) (hn : n1 ≤ 9223372036854775807) :
    Calls Tryd.prog 23 #[.slice a1 n1 c1, .slice a2 n2 c2] w fun e w' => e = .returned (.bool (decide (l1 = l2))) ∧ Below w.heap.size w w' := by
  by_cases h : n1 = n2
  · subst h
    refine (eqStringS_core a1 a2 n1 c1 c2 l1 l2 w h1 h2 e1 e2 hn).mono ?_
    rintro e w' ⟨⟨b, rfl, hb⟩, hw⟩
    refine ⟨?_, hw⟩
    have : b = decide (l1 = l2) := by
      rw [Bool.eq_iff_iff, hb, decide_eq_true_iff]
      constructor
      · intro hi
        apply List.ext_getElem (by omega)
        intro i h3 h4
        have := hi i (by omega)
        simpa [h3, h4] using this
      · rintro rfl i hi
        rfl
    rw [this]
  · have hne : ¬ l1 = l2 := by rintro rfl; omega
    have hd : decide (l1 = l2) = false := by simp [hne]
    have hb : (((n1 : Nat) : Int) != ((n2 : Nat) : Int)) = true := by rw [bne_iff_ne]; omega
    rw [hd]
    clear h1 h2 hd hne
    go_enter Tryd.func23, Tryd.ntmps23
    go_wp2
    go_ret
    exact ⟨rfl, Below.refl _ _⟩

/-- What is left of a bound behind the sizes of texts; -1 below nothing. -/
def szT : List ByteArray → Int → Int
  | [], left => left
  | s :: l, left => if left - s.size < 0 then -1 else szT l (left - s.size)
def szB (l : List ByteArray) (left : Int) : Int := if left - l.length < 0 then -1 else szT l (left - l.length)
theorem szT_le : ∀ (l : List ByteArray) (left : Int), 0 ≤ szT l left → 0 ≤ left → szT l left + (l.map ByteArray.size).sum ≤ left := by
  intro l
  induction l with
  | nil => intro left _ _; simp [szT]
  | cons s l ih =>
    intro left h h0
    unfold szT at h ⊢
    by_cases hc : left - s.size < 0
    · rw [if_pos hc] at h; omega
    · rw [if_neg hc] at h ⊢
      have := ih _ h (by omega)
      simp only [List.map_cons, List.sum_cons]
      omega
theorem szB_yes {l : List ByteArray} {left : Int} (h : 0 ≤ szB l left) : szB l left + l.length + (l.map ByteArray.size).sum ≤ left := by
  unfold szB at h ⊢
  by_cases hc : left - l.length < 0
  · rw [if_pos hc] at h; omega
  · rw [if_neg hc] at h ⊢
    have := szT_le l _ h (by omega)
    omega
theorem szT_cons {l : List ByteArray} {left : Int} {k : Nat} (hk : k < l.length) : szT (l.drop k) left = if left - (l.getD k ⟨#[]⟩).size < 0 then -1 else szT (l.drop (k + 1)) (left - (l.getD k ⟨#[]⟩).size) := by
  rw [List.drop_eq_getElem_cons hk, szT, List.getD_eq_getElem?_getD, List.getElem?_eq_getElem hk]
  rfl
theorem ret_i64 {a b : Int} (h : a = b) : Ending.returned (.int .i64 a) = .returned (.int .i64 b) := by rw [h]
theorem getD_le {l : List ByteArray} (h : ∀ s ∈ l, s.size ≤ 9223372036854775807) (k : Nat) : (l.getD k ⟨#[]⟩).size ≤ 9223372036854775807 := by
  rw [List.getD_eq_getElem?_getD]
  rcases hx : l[k]? with _ | s
  · exact Nat.zero_le _
  · exact h s (List.mem_of_getElem? hx)

set_option maxHeartbeats 400000 in
theorem szStringS_any (a : Option Addr) (n c : Nat) (l : List ByteArray) (left : Int) (w : World) (h : RowAt w a (l.map strV)) (hn : l.length = n) (hn' : n ≤ 9223372036854775807) (hs : ∀ s ∈ l, s.size ≤ 9223372036854775807) (h0 : 0 ≤ left) (h1 : left ≤ 4611686018427387904) :
    Calls Tryd.prog 11 #[.slice a n c, .int .i64 left] w fun e w' => e = .returned (.int .i64 (szB l left)) ∧ w = w' := by
  by_cases hl : left - (n : Int) < 0
  · have HR : Hid (szB l left = -1) := by unfold szB; rw [hn, if_pos hl]; rfl
    clear h hn hs
    go_enter Tryd.func11, Tryd.ntmps11
    go_wp2
    go_ret
    exact ⟨ret_i64 HR.out.symm, rfl⟩
  · have HR : Hid (szB l left = szT l (left - n)) := by unfold szB; rw [hn, if_neg hl]; rfl
    have H := Lib.hid h; have HN := Lib.hid hn; have HS := Lib.hid hs
    clear h hn hs
    go_enter Tryd.func11, Tryd.ntmps11
    go_wp2
    go_loop [1, 5] (fun q t => ∃ (k : Nat) (m : Int), k ≤ n ∧ t = .int .i64 k ∧ q = .int .i64 m ∧ 0 ≤ m ∧ m ≤ 4611686018427387904 ∧ Hid (szT (l.drop k) m = szT l (left - n))) (fun _ t => n - (intOf t).toNat)
    case atStart => exact ⟨0, _, Nat.zero_le _, rfl, rfl, by omega, by omega, rfl⟩
    case round =>
      obtain ⟨k, m, hk, rfl, rfl, hm0, hm1, HT⟩ := hrel
      by_cases hlt : k < n
      · obtain ⟨b, off, rfl, hl1, hc⟩ := row_str H.out k (by rw [HN.out]; exact hlt)
        have HC := Lib.hid (szT_cons (l := l) (left := m) (k := k) (by rw [HN.out]; exact hlt))
        have hle := getD_le HS.out k
        generalize l.getD k ⟨#[]⟩ = z at hc HC hle
        by_cases hz : m - (z.size : Int) < 0
        · have HE : Hid (szB l left = -1) := by rw [HR.out, ← HT.out, HC.out, if_pos hz]; rfl
          go_wp2
          go_ret
          exact ⟨ret_i64 HE.out.symm, rfl⟩
        · have HE : Hid (szT (l.drop (k + 1)) (m - z.size) = szT l (left - n)) := by rw [← HT.out, HC.out, if_neg hz]; rfl
          go_wp2
          go_round
          case rel => exact ⟨k + 1, _, by omega, by go_num, rfl, by omega, by omega, HE⟩
          case measure => simp [intOf]; omega
      · have HE : Hid (szB l left = m) := by rw [HR.out, ← HT.out, List.drop_eq_nil_of_le (by rw [HN.out]; omega), szT]; rfl
        go_wp2
        go_ret
        exact ⟨ret_i64 HE.out.symm, rfl⟩

set_option maxHeartbeats 400000 in
theorem toStringS_any (a : Option Addr) (n c : Nat) (l : List ByteArray) (w : World) (h : RowAt w a (l.map strV)) (hn : l.length = n) (hb : n ≤ 8796093022208) :
    Calls Tryd.prog 17 #[.slice a n c] w fun e w' => ∃ v, e = .returned v ∧ w'.ownsRow w.heap.size 9 1 v n (l.map strV) ∧ Below w.heap.size w w' := by
  obtain ⟨i0, hi, hz0, hz1, hz2⟩ := info_parts info_str
  have H := Lib.hid h; have HN := Lib.hid hn; clear h hn
  go_enter Tryd.func17, Tryd.ntmps17
  go_wp2_with (at_make; refine wpList_make_full _ rfl _ _ _ rfl w.heap.size 9 i0 _ 1 Tryd.underlying22 hi hz0 hz1 .i64 .i64 n n n rfl rfl rfl rfl (by rw [hz2]; omega) (by simp only [maxLen]; omega) (Nat.le_refl _) ?_; intro w1 hown hgrow)
  obtain ⟨Z, hZ⟩ : ∃ Z, Z = (madeCells (Value.string ⟨#[]⟩).cells (n * 1)).toList := ⟨_, rfl⟩
  rw [← hZ] at hown
  have hZl : Z.length = n := own_len hown
  have HZ := Lib.hid hZl
  have hbel : Below w.heap.size w w1 := below_of_grown hgrow (Nat.le_refl _) (by intro k hk; cases hk)
  clear hZ hZl hgrow
  go_loopw [4] (fun t wr => ∃ j : Nat, j ≤ n ∧ t = .int .i64 j ∧ wr.ownsRow w.heap.size 9 1 (.slice (some ⟨w.heap.size, 0, none⟩) n n) n (copied (l.map strV) Z j) ∧ Below w.heap.size w wr) (fun t _ => n - (intOf t).toNat)
  case atStart => exact ⟨0, Nat.zero_le _, rfl, by rw [copied_zero]; exact hown, hbel⟩
  case round =>
    clear hown hbel
    obtain ⟨j, hj, rfl, hown, hbel⟩ := hrel
    by_cases hjl : j < n
    · obtain ⟨b, off, rfl, hlt, hc⟩ := row_str (H.out.below (Nat.le_refl _) hbel) j (by rw [HN.out]; exact hjl)
      obtain ⟨f0, ⟨x, hx⟩, hS, _⟩ := own_setn hown j hjl (strV (l[j]'(by rw [HN.out]; exact hjl)))
      have e1 := copied_set (l.map strV) Z j (by simp [HN.out]; exact hjl) (by simp [HN.out, HZ.out])
      rw [List.getElem_map] at e1
      rw [e1] at hS
      have ed : l.getD j ⟨#[]⟩ = (l[j]'(by rw [HN.out]; exact hjl)) := by rw [List.getD_eq_getElem?_getD, List.getElem?_eq_getElem]; rfl
      rw [ed] at hc
      have HS := Lib.hid hS; clear hS hown e1 ed
      generalize (l[j]'(by rw [HN.out]; exact hjl)) = y at hc HS
      go_wp2
      go_roundw
      case rel => exact ⟨j + 1, by omega, by go_num, HS.out, hbel.setCell (Nat.le_refl _) _⟩
      case measure => simp [intOf]; omega
    · obtain rfl : j = n := by omega
      have HO := Lib.hid hown; clear hown
      go_wp2
      go_ret
      refine ⟨_, rfl, ?_, hbel⟩
      have h1 := HO.out
      have h2 : copied (l.map strV) Z j = l.map strV := by
        have h3 := copied_all (l.map strV) Z (by simp [HN.out, HZ.out])
        rwa [List.length_map, HN.out] at h3
      rwa [h2] at h1

/-- The digits of k, with enough turns. -/
def digs : Nat → Nat → List UInt8
  | 0, _ => []
  | f + 1, k => if k = 0 then [] else digs f (k / 10) ++ [UInt8.ofNat (48 + k % 10)]
theorem digs_zero (f : Nat) : digs f 0 = [] := by cases f <;> simp [digs]
/-- The text of a mark. -/
def markT (k : Nat) : ByteArray := mkS (109 :: digs k k)
theorem ret_str' {a b : ByteArray} (h : a = b) : Ending.returned (.string a) = .returned (.string b) := by rw [h]
theorem dig_str (W : World) (j : Nat) : (convert 68 9 (.slice (some ⟨W.heap.size, 0, none⟩) 1 1)).run Tryd.prog (W.alloc (.cells #[.int .u8 (48 + (j : Int) % 10)] 5 (0, 0))) = .ok (.string (mkS [UInt8.ofNat (48 + j % 10)])) (W.alloc (.cells #[.int .u8 (48 + (j : Int) % 10)] 5 (0, 0))) := by
  have e : (48 + (j : Int) % 10) = ((UInt8.ofNat (48 + j % 10)).toNat : Int) := by rw [UInt8.toNat_ofNat']; omega
  rw [e]
  exact conv_row _ _ 1 1 [UInt8.ofNat (48 + j % 10)] (own_formn_row (own_new W #[.int .u8 ((UInt8.ofNat (48 + j % 10)).toNat : Int)] 5 1 rfl (by omega))) rfl
set_option maxHeartbeats 400000 in
theorem markText_any (k : Nat) (w : World) (h0 : 0 < k) (h1 : k ≤ 4611686018427387904) :
    Calls Tryd.prog 39 #[.int .i64 (k : Int)] w fun e w' => e = .returned (.string (markT k)) ∧ Below w.heap.size w w' := by
  go_enter Tryd.func39, Tryd.ntmps39
  go_wp2
  go_loopw [0, 3] (fun q o wr => ∃ (j f : Nat) (x : ByteArray), q = .int .i64 (j : Int) ∧ o = .string x ∧ j ≤ f ∧ j ≤ k ∧ x.size + j ≤ k ∧ Hid (digs f j ++ bl x = digs k k) ∧ Below w.heap.size w wr) (fun q _ _ => (intOf q).toNat)
  case atStart => exact ⟨k, k, ⟨#[]⟩, rfl, rfl, Nat.le_refl _, Nat.le_refl _, by show 0 + k ≤ k; omega, by show digs k k ++ [] = _; rw [List.append_nil], Below.refl _ _⟩
  case round =>
    obtain ⟨j, f, x, rfl, rfl, hf, hjk, hx, HD, hb⟩ := hrel
    by_cases hj : 0 < j
    · obtain ⟨f, rfl⟩ : ∃ f', f = f' + 1 := ⟨f - 1, by omega⟩
      have HD2 : Hid (digs f (j / 10) ++ bl (mkS [UInt8.ofNat (48 + j % 10)] ++ x) = digs k k) := by
        rw [← HD.out, bl_app, bl_mkS, digs, if_neg (by omega), List.append_assoc]; rfl
      have hsz : (mkS [UInt8.ofNat (48 + j % 10)] ++ x).size = 1 + x.size := by rw [ByteArray.size_append, mkS_size]; rfl
      have HSZ := Lib.hid hsz
      have hone := dig_str wr j
      have hm1 : (mkS [UInt8.ofNat (48 + j % 10)]).size = 1 := mkS_size _
      have HBA := Lib.hid (hb.alloc hb.size (.cells #[.int .u8 (48 + (j : Int) % 10)] 5 (0, 0)))
      clear hsz
      generalize mkS [UInt8.ofNat (48 + j % 10)] = d at HD2 HSZ hone hm1
      go_wp2
      go_roundw
      case rel => exact ⟨j / 10, f, d ++ x, by go_num, rfl, by omega, by omega, by rw [HSZ.out]; omega, HD2, HBA.out⟩
      case measure => simp [intOf]; omega
    · obtain rfl : j = 0 := by omega
      have HE : Hid (⟨#[109]⟩ ++ x = markT k) := by
        apply bl_inj
        rw [bl_app, markT, bl_mkS, ← HD.out, digs_zero]
        rfl
      go_wp2
      go_ret
      exact ⟨ret_str' HE.out, hb⟩
/-- The texts of the marks from k on. -/
def markS (k : Nat) (n : Nat) : List Value := (List.range n).map fun (i : Nat) => Value.string (markT (k + i))
theorem markS_length (k n : Nat) : (markS k n).length = n := by simp [markS]
theorem markS_get (k n i : Nat) (h : i < (markS k n).length) : (markS k n)[i] = Value.string (markT (k + i)) := by simp [markS]
def markedS (k : Nat) (l : List Value) (j : Nat) : List Value := markS k j ++ l.drop j
theorem markedS_length (k : Nat) (l : List Value) (j : Nat) (h : j ≤ l.length) : (markedS k l j).length = l.length := by simp [markedS, markS_length]; omega
theorem markedS_zero (k : Nat) (l : List Value) : markedS k l 0 = l := by simp [markedS, markS]
theorem markedS_all (k : Nat) (l : List Value) : markedS k l l.length = markS k l.length := by simp [markedS]
theorem markedS_set (k : Nat) (l : List Value) (j : Nat) (h : j < l.length) : (markedS k l j).set j (Value.string (markT (k + j))) = markedS k l (j + 1) := by
  apply List.ext_getElem?
  intro i
  simp only [markedS, markS, List.getElem?_set, List.getElem?_append, List.length_map, List.length_range, List.getElem?_map, List.getElem?_drop, List.length_append, List.length_drop]
  by_cases h1 : i < j
  · rw [if_neg (by omega), if_pos h1, if_pos (by omega), List.getElem?_range h1, List.getElem?_range (by omega)]
  · by_cases h2 : i = j
    · subst h2
      rw [if_pos rfl, if_pos (by omega), if_pos (by omega), List.getElem?_range (by omega)]
      rfl
    · rw [if_neg (by omega), if_neg h1, if_neg (by omega)]
      congr 1; omega

set_option maxHeartbeats 800000 in
theorem markStringS_any (v : Value) (B : Nat) (l : List Value) (n : Nat) (k : Nat) (w : World) (h : w.ownsRow B 9 1 v n l) (hn : l.length = n) (h0 : 0 < k) (hk : k + n ≤ 4611686018427387904) :
    Calls Tryd.prog 24 #[v, .int .i64 (k : Int)] w fun e w' => e = .returned (.int .i64 ((k + n : Nat) : Int)) ∧ w'.ownsRow B 9 1 v n (markS k n) ∧ w.grownBy w' v.ownBlock := by
  subst hn
  obtain ⟨a, c, rfl, hr, hc, hc', hB⟩ := own_form h
  by_cases hz : l.length = 0
  · have hnil : l = [] := List.eq_nil_of_length_eq_zero hz
    subst hnil
    clear hr
    have H : Hid (w.ownsRow B 9 1 (.slice a 0 c) 0 []) := Lib.hid h; clear h
    go_enter Tryd.func24, Tryd.ntmps24
    go_wp2
    go_rounds 1
    go_ret
    exact ⟨rfl, H.out, grown_refl _ _⟩
  · obtain ⟨g, off, rfl, hlt, _⟩ := hr 0 (by omega)
    have hoff : off = 0 := by
      rcases h.2 with ⟨hv, _⟩ | ⟨g', cap, cur, hv, _⟩
      · cases hv
      · injection hv with h1 h2 h3; injection h1 with h1; injection h1 with h1 h4
    subst hoff
    have H := Lib.hid h; clear h hr hB
    go_enter Tryd.func24, Tryd.ntmps24
    go_wp2
    go_loopw [1, 5] (fun q t wr => ∃ j : Nat, j ≤ l.length ∧ t = .int .i64 j ∧ q = .int .i64 ((k + j : Nat) : Int) ∧ wr.ownsRow B 9 1 (.slice (some ⟨g, 0, none⟩) l.length c) l.length (markedS k l j) ∧ w.grownBy wr (some g)) (fun _ t _ => l.length - (intOf t).toNat)
    case atStart => exact ⟨0, Nat.zero_le _, rfl, by simp, by rw [markedS_zero]; exact H.out, grown_refl _ _⟩
    case round =>
      obtain ⟨j, hj, rfl, rfl, hown, hg⟩ := hrel
      by_cases hjl : j < l.length
      · have HM := Lib.hid (markText_any (k + j) wr (by omega) (by omega))
        have HO := Lib.hid hown
        have HG := Lib.hid hg
        have HML := Lib.hid (markedS_length k l j hj)
        clear hown hg
        go_wp2_with fail
        refine (HM.out).mono ?_
        rintro e w1 ⟨rfl, hb⟩
        have hown := own_below HO.out hb
        rw [← HML.out] at hown
        have S := own_set hown j (by rw [HML.out]; exact hjl) (.string (markT (k + j)))
        rw [HML.out, markedS_set k l j hjl] at S
        obtain ⟨f0, ⟨x, hx⟩, hS, hBg⟩ := S
        have HS := Lib.hid hS
        have HG1 := Lib.hid (HG.out.trans (grown_of_below hb (some g)))
        clear hS hown hb
        go_wp2
        go_roundw
        case rel => exact ⟨j + 1, by omega, by go_num, by go_num, HS.out, grown_setCell HG1.out _ _⟩
        case measure => simp [intOf]; omega
      · obtain rfl : j = l.length := by omega
        have HO := Lib.hid hown; clear hown
        go_wp2
        go_ret
        exact ⟨by go_num, by have := HO.out; rw [markedS_all] at this; exact this, hg⟩
theorem markStringS_one (v : Value) (B : Nat) (l : List Value) (n : Nat) (w : World) (h : w.ownsRow B 9 1 v n l) (hk : n ≤ 2305843009213693952) :
    Calls Tryd.prog 24 #[v, .int .i64 1] w fun e w' => e = .returned (.int .i64 ((n : Int) + 1)) ∧ w'.ownsRow B 9 1 v n (markS 1 n) ∧ w.grownBy w' v.ownBlock :=
  (markStringS_any v B l n 1 w h (own_len h) (by omega) (by omega)).mono fun _ _ ⟨he, h2⟩ => ⟨by rw [he]; congr 2; omega, h2⟩

set_option maxHeartbeats 400000 in
theorem heldStringS_any (a : Option Addr) (n c k : Nat) (w : World) (h : RowAt w a (markS k n)) (h0 : 0 < k) (hk : k + n ≤ 4611686018427387904) :
    Calls Tryd.prog 25 #[.slice a n c, .int .i64 (k : Int)] w fun e w' => e = .returned (.int .i64 ((k + n : Nat) : Int)) ∧ Below w.heap.size w w' := by
  have H := Lib.hid h; clear h
  go_enter Tryd.func25, Tryd.ntmps25
  go_wp2
  go_loopw [1, 5] (fun q t wr => ∃ j : Nat, j ≤ n ∧ t = .int .i64 j ∧ q = .int .i64 ((k + j : Nat) : Int) ∧ Below w.heap.size w wr) (fun _ t _ => n - (intOf t).toNat)
  case atStart => exact ⟨0, Nat.zero_le _, rfl, by simp, Below.refl _ _⟩
  case round =>
    obtain ⟨j, hj, rfl, rfl, hb⟩ := hrel
    by_cases hjl : j < n
    · obtain ⟨b, off, rfl, hlt, hc⟩ := (H.out.below (Nat.le_refl _) hb) j (by rw [markS_length]; exact hjl)
      rw [markS_get] at hc
      have HM := Lib.hid (fun W => markText_any (k + j) W (by omega) (by omega))
      have HB := Lib.hid hb
      clear hb
      go_wp2_with fail
      go_region_held3 (fun w' => w'.cell? ⟨b, off + j, none⟩ = some (.string (markT (k + j)))) (first | exact hc | exact hc1) (first | (go_at_call 39; refine (HM.out _).mono ?_; rintro e w1 ⟨rfl, hb1⟩; have hc1 : w1.cell? ⟨b, off + j, none⟩ = some (.string (markT (k + j))) := (hb1.cell (p := ⟨b, off + j, none⟩) hlt).trans hc))
      have HB1 := Lib.hid (HB.out.drew.trans (hb1.mono HB.out.size))
      clear hb1
      go_wp2
      go_roundw
      case rel => exact ⟨j + 1, by omega, by go_num, by go_num, HB1.out⟩
      case measure => simp [intOf]; omega
    · obtain rfl : j = n := by omega
      go_wp2
      go_ret
      exact ⟨by go_num, hb⟩
theorem heldStringS_one (a : Option Addr) (n c : Nat) (w : World) (h : RowAt w a (markS 1 n)) (hk : n ≤ 2305843009213693952) :
    Calls Tryd.prog 25 #[.slice a n c, .int .i64 1] w fun e w' => e = .returned (.int .i64 ((n : Int) + 1)) ∧ Below w.heap.size w w' :=
  (heldStringS_any a n c 1 w h (by omega) (by omega)).mono fun _ _ ⟨he, h2⟩ => ⟨by rw [he]; congr 2; omega, h2⟩

/-- One string more behind an owned row of strings: the row literal that holds it has just been laid. -/
theorem wpList_pushS {wr : World} {ops : Array Oper} {rest : List Oper} {o : Oper} {a : Act} {Q : Exit → Act → World → Prop} (s x : Operand) (B : Nat) (b : ByteArray) (v : Value) (n : Nat) (acc : List ByteArray)
    (own : wr.ownsRow B 9 1 v n (acc.map strV)) (hB : B ≤ wr.heap.size) (hsz : n ≤ 4611686018427387904 / 1048576) (hgd : o.guard = none)
    (ho : o.op = .call { callee := .builtin .append, args := #[s, x], argTypes := #[22, 22] }) (hs : a.eval s = v) (H : Nat) (hH : wr.heap.size = H) (hx : a.eval x = .slice (some ⟨H, 0, none⟩) 1 1)
    (h : ∀ v' w', w'.ownsRow B 9 1 v' (n + 1) ((acc ++ [b]).map strV) → Below B wr w' → wpList Tryd.prog ops Q rest (a.put o.dst v') w') :
    wpList Tryd.prog ops Q (o :: rest) a (wr.alloc (.cells #[.string b] 9 (0, 0))) := by
  subst hH
  obtain ⟨i0, hi, hz0, hz1, hz2⟩ := info_parts info_str
  have hal : Below wr.heap.size wr (wr.alloc (.cells #[.string b] 9 (0, 0))) := (Below.refl _ _).alloc (Nat.le_refl _) _
  refine wpList_append_row hgd s x _ ho B 9 i0 _ 16 Tryd.underlying22 hi hz0 hz1 hz2 rfl v n (acc.map strV) hs (own_below own hal) (some ⟨wr.heap.size, 0, none⟩) 1 1 ([b].map strV) hx (by intro e; cases e)
    (own_formn_row (own_new wr #[.string b] 9 1 rfl (by omega))) rfl (strs_one [b]) (by omega) (by omega) (by simp; omega) ?_
  intro v' w' o' g' _
  refine h v' w' ?_ ?_
  · rw [List.map_append]
    exact o'
  · exact (((Below.refl B wr).alloc hB _)).grown g' (by simp; omega) (fun q hq => (own_ge own q hq).1)
/-- An owned row that is not empty: where it lies, and its cells. -/
theorem own_at {w : World} {B : Nat} {e : TypeId} {v : Value} {n : Nat} {l : List Value} (h : w.ownsRow B e 1 v n l) (hn : 0 < n) :
    ∃ g c, v = .slice (some ⟨g, 0, none⟩) n c ∧ B ≤ g ∧ g < w.heap.size ∧ n ≤ c ∧ c ≤ 9223372036854775807 ∧ ∀ i x, l[i]? = some x → w.cell? ⟨g, i, none⟩ = some x := by
  obtain ⟨hl, h⟩ := h
  rcases h with ⟨rfl, h0⟩ | ⟨g, cap, cur, rfl, hB, hg, hn1, hm, hs, ht⟩
  · omega
  · have hlt : g < w.heap.size := (Array.getElem?_eq_some_iff.1 hg).1
    refine ⟨g, cap, rfl, hB, hlt, hn1, by simpa [maxLen] using hm, fun i x hx => ?_⟩
    have hi : i < l.length := (List.getElem?_eq_some_iff.1 hx).1
    rw [cell_of_row w g i cur e (0, 0) hg, ← hx]
    conv => rhs; rw [← ht]
    rw [List.getElem?_take, if_pos (by omega)]
    simp
theorem own_len_eq {w : World} {B : Nat} {e : TypeId} {v : Value} {n m : Nat} {l l' : List Value} (h : w.ownsRow B e 1 v n l) (hn : n = m) (hl : l = l') : w.ownsRow B e 1 v m l' := by
  subst hn; subst hl; exact h
theorem one_str (w : World) (b : UInt8) : (convert 68 9 (.slice (some ⟨w.heap.size, 0, none⟩) 1 1)).run Tryd.prog (w.alloc (.cells #[.int .u8 (b.toNat : Int)] 5 (0, 0))) = .ok (.string (mkS [b])) (w.alloc (.cells #[.int .u8 (b.toNat : Int)] 5 (0, 0))) :=
  conv_row _ _ 1 1 [b] (own_formn_row (own_new w #[.int .u8 (b.toNat : Int)] 5 1 rfl (by omega))) rfl
theorem set_last {α β : Type} (f : α → β) (d : List α) (c : α) (x : β) : ((d ++ [c]).map f).set d.length x = d.map f ++ [x] := by
  rw [List.map_append, List.set_append_right _ _ (by simp)]
  simp
theorem getD_at {α : Type} {l : List α} {k : Nat} (h : k < l.length) (d : α) : l.getD k d = l[k] := by rw [List.getD_eq_getElem?_getD, List.getElem?_eq_getElem h]; rfl
theorem mkS_app (a b : List UInt8) : mkS a ++ mkS b = mkS (a ++ b) := bl_inj (by rw [bl_app, bl_mkS, bl_mkS, bl_mkS])
end Go.Proofs.YtmiemnhbkcmanaaDoor
