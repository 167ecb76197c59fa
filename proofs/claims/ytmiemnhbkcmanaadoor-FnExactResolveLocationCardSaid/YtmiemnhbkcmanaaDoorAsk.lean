/- The text of a list of pairs, of the program and of the reference. -/
import Derived.Test.YtmiemnhbkcmanaaDoorPairs
import Derived.Test.YtmiemnhbkcmanaaDoorPct
import Derived.Test.YtmiemnhbkcmanaaDoorJoin
import Derived.Test.YtmiemnhbkcmanaaDoorPush
namespace Go.Proofs.YtmiemnhbkcmanaaDoor
open Go.RowKit

theorem below_drewA {w w' : World} (h : Below w.drew.heap.size w.drew w') : Below w.heap.size w w' := (Below.refl _ _).drew.trans h
def pieceP (x : ByteArray × ByteArray) : List UInt8 := bl x.1 ++ 61 :: escP (bl x.2)
def pieceS (x : ByteArray × ByteArray) : ByteArray := mkS (pieceP x)
/-- The text of a list of pairs. -/
def askJ (P : List (ByteArray × ByteArray)) : List UInt8 := Lib.join (P.map pieceP) [38]
def askT (P : List (ByteArray × ByteArray)) : List UInt8 := if askV P then askJ P else []
theorem askT_no {P : List (ByteArray × ByteArray)} (h : askV P = false) : askT P = [] := by unfold askT; rw [h]; rfl
theorem askT_yes {P : List (ByteArray × ByteArray)} (h : askV P = true) : askT P = askJ P := by unfold askT; rw [h]; rfl
theorem askJ_one (x : ByteArray × ByteArray) : askJ [x] = pieceP x := by unfold askJ; rw [List.map_cons, List.map_nil, Lib.join_one]
theorem askJ_snoc {P : List (ByteArray × ByteArray)} (h : P ≠ []) (x : ByteArray × ByteArray) : askJ (P ++ [x]) = askJ P ++ [38] ++ pieceP x := by
  unfold askJ
  rw [List.map_append, List.map_cons, List.map_nil, join_snoc _ _ _ (by simpa using h)]
theorem askV_len {P : List (ByteArray × ByteArray)} (h : askV P = true) : P.length ≤ 6 ∧ ∀ x ∈ P, x.1.size ≤ 10 ∧ x.2.size ≤ 40 := by
  unfold askV at h
  rw [Bool.and_eq_true, decide_eq_true_iff, List.all_eq_true] at h
  refine ⟨h.1, fun x hx => ?_⟩
  have := h.2 x hx
  unfold pairB nameB vB at this
  simp only [Bool.and_eq_true, decide_eq_true_iff, bl_len] at this
  omega
theorem pieceP_len {x : ByteArray × ByteArray} (h1 : x.1.size ≤ 10) (h2 : x.2.size ≤ 40) : (pieceP x).length ≤ 131 := by
  have := escP_len (bl x.2)
  rw [bl_len] at this
  unfold pieceP
  rw [List.length_append, List.length_cons, bl_len]
  omega
theorem askJ_len {P : List (ByteArray × ByteArray)} (h : P.length ≤ 6) (h2 : ∀ x ∈ P, x.1.size ≤ 10 ∧ x.2.size ≤ 40) : (askJ P).length ≤ 1000 := by
  have := join_le 131 [38] (P.map pieceP) (fun x hx => by
    obtain ⟨y, hy, rfl⟩ := List.mem_map.1 hx
    exact pieceP_len (h2 y hy).1 (h2 y hy).2)
  rw [List.length_map] at this
  unfold askJ
  have h3 : P.length * (131 + [38].length) ≤ 6 * 132 := Nat.mul_le_mul h (Nat.le_refl _)
  omega
theorem take_snocP {α : Type} {P : List α} {k : Nat} (h : k < P.length) : P.take (k + 1) = P.take k ++ [P[k]] := by
  rw [List.take_add_one, List.getElem?_eq_getElem h]; rfl

set_option maxRecDepth 100000 in
set_option maxHeartbeats 3200000 in
theorem impl_AskedText (v : Value) (B n : Nat) (P : List (ByteArray × ByteArray)) (w : World) (own : w.ownsRow B 60 2 v n (pairC P)) (hn : P.length = n) (hn' : n ≤ 2097152) (hsz : ∀ x ∈ P, x.1.size ≤ 1048576 ∧ x.2.size ≤ 1048576) :
    Calls Tryd.prog 49 #[v] w fun e w' => e = .returned (.string (mkS (askT P))) ∧ Below w.heap.size w w' := by
  have O := Lib.hid own; have HN := Lib.hid hn; have HS := Lib.hid hsz
  have CV := Lib.hid (impl_AskedValid v B n P w own hn hn' hsz)
  obtain ⟨a0, c0, rfl, _, kc, kc', _⟩ := ownN_formn own
  clear own hn hsz
  rcases hv : askV P with _ | _
  · rw [hv] at CV
    have HR : Hid (askT P = []) := askT_no hv
    clear hv
    go_enter Tryd.func49, Tryd.ntmps49
    go_wp2_with fail
    refine CV.out.mono ?_
    rintro e w1 ⟨rfl, b1⟩
    have B1 := Lib.hid b1
    clear b1
    go_wp2
    go_ret
    exact ⟨by rw [HR.out]; rfl, B1.out⟩
  rw [hv] at CV
  have HR : Hid (askT P = askJ P) := askT_yes hv
  obtain ⟨h6, hel⟩ := askV_len hv
  rw [HN.out] at h6
  have HEL := Lib.hid hel
  have HJL := Lib.hid (askJ_len (by rw [HN.out]; exact h6) hel)
  clear hv hel
  go_enter Tryd.func49, Tryd.ntmps49
  go_wp2_with fail
  refine CV.out.mono ?_
  rintro e w1 ⟨rfl, b1⟩
  have B1 := Lib.hid b1
  have hw1 := b1.size
  clear b1
  go_wp2
  have O0 := Lib.hid (own_mono (own_new w1 #[] 9 0 rfl (by omega)) hw1)
  go_loopw [3, 12] (fun v t wr => ∃ k : Nat, k ≤ n ∧ t = .int .i64 (k : Int) ∧ wr.ownsRow w.heap.size 9 1 v k (((P.take k).map pieceS).map strV) ∧ Below w.heap.size w wr) (fun _ t _ => n - (intOf t).toNat)
  case atStart => exact ⟨0, Nat.zero_le _, rfl, O0.out, B1.out.alloc hw1 _⟩
  case round =>
    obtain ⟨k, hk, rfl, own, hb⟩ := hrel
    have HO := Lib.hid own
    have HB := Lib.hid hb
    have hww := hb.size
    obtain ⟨u3, c3, rfl, _, kv, kv', _⟩ := own_formn own
    clear own hb O0
    by_cases hkn : k < n
    · have hkP : k < P.length := by rw [HN.out]; exact hkn
      obtain ⟨g, c, hv, _, hlt, _, _, _, hcell⟩ := pair_at (ownN_below O.out HB.out) HN.out (by omega)
      injection hv with hv1 hv2 hv3
      subst hv1; subst hv3
      obtain ⟨hc1, hc2⟩ := hcell k hkP
      have hz := HEL.out _ (List.getElem_mem hkP)
      have HP := Lib.hid (show ∀ a b, P[k].1 = a → P[k].2 = b → (P.take (k + 1)).map pieceS = (P.take k).map pieceS ++ [a ++ ⟨#[61]⟩ ++ mkS (escP (bl b))] from fun a b h1 h2 => by
        rw [take_snocP hkP, List.map_append, ← h1, ← h2]
        congr 1
        rw [List.map_cons, List.map_nil]
        congr 1
        apply bl_inj
        rw [bl_app, bl_app, pieceS, bl_mkS, bl_mkS, pieceP, List.append_assoc]; rfl)
      generalize P[k].1 = x1 at hc1 hz HP
      generalize P[k].2 = x2 at hc2 hz HP
      have HSN := Lib.hid (HP.out x1 x2 rfl rfl)
      obtain ⟨hz1, hz2⟩ := hz
      have CE := Lib.hid (fun W => impl_EscapePart x2 W (by omega))
      have hE : (mkS (escP (bl x2))).size ≤ 120 := by have := escP_len (bl x2); rw [bl_len] at this; rw [mkS_size]; omega
      generalize mkS (escP (bl x2)) = J at *
      clear HP hcell
      have y1 : x1.size + 1 ≤ 9223372036854775807 := by omega
      have y3 : x1.size + (⟨#[61]⟩ : ByteArray).size ≤ 9223372036854775807 := by show x1.size + 1 ≤ _; omega
      have y4 : x1.size + (⟨#[61]⟩ : ByteArray).size + J.size ≤ 9223372036854775807 := by show x1.size + 1 + J.size ≤ _; omega
      have y5 : (x1 ++ ⟨#[61]⟩).size + J.size ≤ 9223372036854775807 := by rw [ByteArray.size_append]; exact y4
      have y6 : (x1 ++ ⟨#[61]⟩).size ≤ 9223372036854775807 := by rw [ByteArray.size_append]; omega
      have y7 : ¬ 9223372036854775807 < x1.size + 1 := by omega
      have y8 : ¬ 9223372036854775807 < x1.size + 1 + J.size := by omega
      go_wp2_with fail
      generalize hw2 : wr.alloc (.cells #[.string x1, .string x2] 60 (0, 0)) = w2
      have d0 : w2.cell? ⟨wr.heap.size, 0, none⟩ = some (.string x1) := by rw [← hw2]; exact (World.cell?_alloc_mark _ _ _ _ _).trans rfl
      have d1 : w2.cell? ⟨wr.heap.size, 1, none⟩ = some (.string x2) := by rw [← hw2]; exact (World.cell?_alloc_mark _ _ _ _ _).trans rfl
      have b2 : Below wr.heap.size wr w2 := by rw [← hw2]; exact (Below.refl _ _).alloc (Nat.le_refl _) _
      have hz3 : wr.heap.size < w2.heap.size := by rw [← hw2]; simp
      clear hw2 hc1 hc2
      have O1 := Lib.hid (own_below HO.out b2)
      have BW := Lib.hid (HB.out.trans (b2.mono hww))
      clear b2
      have HN1 : some wr.heap.size ≠ Value.ownBlock (.slice u3 k c3) := fun e => by have := own_ge HO.out _ e.symm; omega
      go_region_held3 (fun w' => w'.cell? ⟨wr.heap.size, 0, none⟩ = some (.string x1) ∧ w'.cell? ⟨wr.heap.size, 1, none⟩ = some (.string x2)) (go_keep) (first | (go_at_call 64; refine (CE.out _).mono ?_; rintro e w3 ⟨rfl, b3⟩; obtain ⟨hcc, _⟩ := bcell b3; have z0 := (hcc _ 0 hz3).trans d0; have z1 := (hcc _ 1 hz3).trans d1; clear hcc; have hz4 : w2.heap.size ≤ w3.heap.size := b3.size; have hal3 : ∀ o j, (w3.alloc o).cell? ⟨wr.heap.size, j, none⟩ = w3.cell? ⟨wr.heap.size, j, none⟩ := fun o j => World.cell?_alloc_lt _ _ _ (Nat.lt_of_lt_of_le hz3 hz4)) | ((refine step_pushS _ (.tmp 16) (.tmp 24) w.heap.size (x1 ++ ⟨#[61]⟩ ++ J) _ _ _ (by exact own_below (own_below O1.out (below_drewA b3)) ((Below.refl _ _).alloc (Nat.le_refl _) _)) (by simp; omega) (by omega) w3.heap.size 1 (by exact cell_new1 w3 _ _) rfl (by rfl) (by rfl) (by rfl) ?_; intro v5 w5 o5 g5; have q0 := (g5.cell ((hal3 _ _).trans z0) HN1); have q1 := (g5.cell ((hal3 _ _).trans z1) HN1))) | fail)
      have hz3' : w2.heap.size ≤ w3.heap.size := b3.size
      have B5 := Lib.hid (((BW.out.drew.trans (b3.mono BW.out.size)).alloc (Nat.le_trans BW.out.size hz3') _).grown g5 (by simp; omega) (fun q hq => (own_ge HO.out q hq).1))
      have O5 := Lib.hid o5
      clear o5 g5 b3 q0 q1 z0 z1
      go_wp2
      go_roundw
      case rel => exact ⟨k + 1, by omega, by go_num, by rw [HSN.out]; exact O5.out, B5.out⟩
      case measure => simp [intOf]; omega
    · obtain rfl : k = n := by omega
      have hS : P.take k = P := List.take_of_length_le (by rw [HN.out]; exact Nat.le_refl _)
      have HO2 : Hid (wr.ownsRow w.heap.size 9 1 (.slice u3 k c3) k ((P.map pieceS).map strV)) := by have := HO.out; rwa [hS] at this
      have HM : Hid ((P.map pieceS).map bl = P.map pieceP) := by
        show _ = _
        rw [List.map_map]
        exact List.map_congr_left (fun x _ => bl_mkS _)
      have HR2 : Hid (joinS (P.map pieceS) (bl ⟨#[38]⟩) = mkS (askT P)) := by
        show _ = _
        rw [joinS, HM.out, HR.out]; rfl
      have CJ := Lib.hid (join_any _ _ k (P.map pieceS) ⟨#[38]⟩ wr HO2.out (by omega) (by rw [HM.out]; exact Nat.le_trans HJL.out (by omega)))
      clear hS
      go_wp2_with fail
      refine CJ.out.mono ?_
      rintro e w4 ⟨rfl, b4⟩
      have B6 := Lib.hid (HB.out.trans (b4.mono HB.out.size))
      clear b4
      go_wp2
      go_ret
      exact ⟨ret_strP HR2.out, B6.out⟩
end Go.Proofs.YtmiemnhbkcmanaaDoor
