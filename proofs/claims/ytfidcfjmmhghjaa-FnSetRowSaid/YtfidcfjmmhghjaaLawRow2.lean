/- The walk of the law FnSetRow. -/
import Derived.Test.YtfidcfjmmhghjaaRowDraw
namespace Go.Proofs.Ytfidcfjmmhghjaa
open Go.RowKit

theorem join_total : ∀ L : List (List UInt8), 1 ≤ L.length → (Lib.join L [32]).length + 1 = (L.map List.length).sum + L.length := by
  intro L
  induction L with
  | nil => intro h; simp at h
  | cons a r ih =>
    intro _
    rcases r with _ | ⟨b, r⟩
    · rw [Lib.join_one]; simp
    · have e : Lib.join (a :: b :: r) [32] = a ++ [32] ++ Lib.join (b :: r) [32] := by
        rw [Lib.join_cons, Lib.join_cons, Lib.joinTail, List.map_cons, List.flatten_cons, Lib.joinTail]
        simp
      have := ih (by simp)
      rw [e]
      simp only [List.length_append, List.length_cons, List.length_nil, List.map_cons, List.sum_cons] at this ⊢
      omega
/-- The lengths of the first fields. -/
def lenK (S : List Shp) (T : List ByteArray) (k : Nat) : Nat := (((setL S T).take k).map ByteArray.size).sum
theorem lenK_succ {S : List Shp} {T : List ByteArray} {k : Nat} (h1 : k < S.length) (h2 : k < T.length) : lenK S T (k + 1) = lenK S T k + (mkS (setB S[k].W S[k].b S[k].L (bl T[k]))).size := by
  have hk : k < (setL S T).length := by simp [setL]; omega
  have hg : (setL S T)[k] = mkS (setB S[k].W S[k].b S[k].L (bl T[k])) := by simp [setL]
  rw [lenK, lenK, List.take_succ_eq_append_getElem hk, List.map_append, List.sum_append, hg]
  simp
theorem row_total {S : List Shp} {T : List ByteArray} (h : S.length = T.length) : (joinS (setL S T) [32]).size = lenK S T S.length + (S.length - 1) := by
  have hl := setL_len S T h
  have ht : (setL S T).take S.length = setL S T := List.take_of_length_le (by omega)
  rw [lenK, ht, joinS, mkS_size]
  by_cases h0 : S.length = 0
  · have : setL S T = [] := List.eq_nil_of_length_eq_zero (by omega)
    rw [this]; simp [Lib.join_nil, h0]
  · have := join_total ((setL S T).map bl) (by rw [List.length_map]; omega)
    rw [List.length_map, hl, List.map_map] at this
    have e : (List.length ∘ bl) = ByteArray.size := by funext t; exact bl_len t
    rw [e] at this
    omega
theorem rowR_some {S : List Shp} {T : List ByteArray} (h : (rowR S T).2 = true) : S.length = T.length ∧ S.length ≤ 6 ∧ (rowR S T).1.size = lenK S T S.length + (S.length - 1) := by
  unfold rowR at h ⊢
  split at h
  · rename_i hc
    rw [if_pos hc]
    exact ⟨hc.1, hc.2.1, row_total hc.1⟩
  · cases h
theorem rowR_none {S : List Shp} {T : List ByteArray} (h : (rowR S T).2 = false) : (rowR S T).1 = ⟨#[]⟩ := by
  unfold rowR at h ⊢
  split
  · rename_i hc; rw [if_pos hc] at h; cases h
  · rfl
theorem lenK_le (S : List Shp) (T : List ByteArray) : ∀ k, lenK S T k ≤ 640 * k := by
  intro k
  induction k with
  | zero => simp [lenK]
  | succ k ih =>
    by_cases h : k < S.length ∧ k < T.length
    · rw [lenK_succ h.1 h.2]
      have : (mkS (setB S[k].W S[k].b S[k].L (bl T[k]))).size ≤ 640 := by rw [mkS_size]; exact setB_len
      omega
    · have e : lenK S T (k + 1) = lenK S T k := by
        have : (setL S T).length ≤ k := by simp [setL]; omega
        rw [lenK, lenK, List.take_of_length_le (by omega), List.take_of_length_le this]
      omega

set_option maxRecDepth 100000 in
set_option maxHeartbeats 1600000 in
theorem walk_FnSetRow (a : Option Addr) (n c : Nat) (z : List Int) (w : World) (hrow : IsRow .u8 w a n c z) :
    Calls Try.prog 3 #[.slice a n c] w fun e w' => e = .returned (.bool true) ∧ Below w.heap.size w w' := by
  have hcap := hrow.caps
  have hby := Lib.hid hrow.bytes
  clear hrow
  by_cases hn : 1048576 < n
  · go_enter Try.func3, Try.ntmps3
    go_wp2
    go_ret
    exact ⟨rfl, Below.refl _ _⟩
  · go_enter Try.func3, Try.ntmps3
    go_wp2_with fail
    refine (draw_SetRow _ _ _ _ _ hby.out hcap.1 hcap.2).mono ?_
    rintro e w1 ⟨v1, v2, S, T, rfl, hS, hT, hTs, o1, o2, b1⟩
    obtain ⟨a1, c1, rfl, _, k1, k1', _⟩ := ownN_formn o1
    obtain ⟨a2, c2, rfl, _, k2, k2', _⟩ := own_formn o2
    have B1 := Lib.hid b1
    have O1 := Lib.hid o1
    have O2 := Lib.hid o2
    have HTS : Hid (∀ s ∈ T, s.size ≤ 4611686018427387904) := fun s hs => by have := hTs s hs; omega
    clear b1 o1 o2 hby hcap hn
    have CI : Hid (∀ W, RowAt W a1 (shCs S) → RowAt W a2 (T.map strV) → Calls Try.prog 5 #[.slice a1 S.length c1, .slice a2 T.length c2] W (RowOk W (rowR S T))) := fun W h1 h2 => impl_SetRow a1 a2 _ _ c1 c2 S T W h1 h2 rfl rfl (by omega) (by omega) HTS.out
    have CS : Hid (∀ W, RowAt W a1 (shCs S) → RowAt W a2 (T.map strV) → Calls Try.prog 6 #[.slice a1 S.length c1, .slice a2 T.length c2] W (RowOk W (rowR S T))) := fun W h1 h2 => spec_SetRow a1 a2 _ _ c1 c2 S T W h1 h2 rfl rfl (by omega) (by omega) HTS.out
    have HNO := Lib.hid (@rowR_none S T)
    have HYE := Lib.hid (@rowR_some S T)
    generalize rowR S T = r at *
    obtain ⟨y, ok⟩ := r
    go_wp2_with fail
    refine (CI.out _ (ownN_row O1.out) (own_formn_row O2.out)).mono ?_
    rintro e w2 ⟨rfl, b2⟩
    have B2 := Lib.hid (B1.out.trans (b2.mono B1.out.size))
    have O12 := Lib.hid (ownN_below O1.out b2)
    have O22 := Lib.hid (own_below O2.out b2)
    clear b2 CI O1 O2
    go_wp2_with fail
    refine (CS.out _ (ownN_row O12.out) (own_formn_row O22.out)).mono ?_
    rintro e w3 ⟨rfl, b3⟩
    have B3 := Lib.hid (B2.out.trans (b3.mono B2.out.size))
    have O13 := Lib.hid (ownN_below O12.out b3)
    have O23 := Lib.hid (own_below O22.out b3)
    clear b3 CS O12 O22
    cases ok
    · obtain rfl : y = ⟨#[]⟩ := HNO.out rfl
      go_wp2_with (go_at_call 7; refine (alive_any _).mono ?_; rintro e w5 ⟨rfl, b5⟩)
      go_ret
      exact ⟨rfl, B3.out.trans (b5.mono B3.out.size)⟩
    · obtain ⟨hST, h6, hsz⟩ := HYE.out rfl
      have HST := Lib.hid hST
      have HSZ : Hid (y.size = lenK S T S.length + (S.length - 1)) := hsz
      clear HNO HYE hsz hST
      have HM : Hid (max (0 : Int) ((S.length : Int) - 1) = ((S.length - 1 : Nat) : Int)) := by show _ = _; omega
      have hmx : max (0 : Int) ((S.length : Int) - 1) = ((S.length - 1 : Nat) : Int) := HM.out
      obtain ⟨m, hm⟩ : ∃ m, m = S.length - 1 := ⟨_, rfl⟩
      rw [← hm] at hmx
      have hmb : m ≤ 7 := by omega
      have HMM := Lib.hid hm
      clear hm HM
      go_wp2
      go_loopw [9, 10] (fun l t wr => ∃ k : Nat, k ≤ S.length ∧ t = .int .i64 (k : Int) ∧ l = .int .i64 (((m + lenK S T k : Nat)) : Int) ∧ Below w3.heap.size w3 wr) (fun _ t _ => S.length - (intOf t).toNat)
      case atStart => exact ⟨0, Nat.zero_le _, rfl, by simp [lenK], Below.refl _ _⟩
      case round =>
        obtain ⟨k, hk, rfl, rfl, hb⟩ := hrel
        have hlk := lenK_le S T k
        by_cases hkn : k < S.length
        · have hkT : k < T.length := by rw [← HST.out]; exact hkn
          have HSU := Lib.hid (lenK_succ hkn hkT)
          obtain ⟨g1, p1, rfl, hl1, x0, x1, x2⟩ := row_shp (ownN_row (ownN_below O13.out hb)) k hkn
          obtain ⟨g2, p2, rfl, hl2, y0⟩ := row_str (own_formn_row (own_below O23.out hb)) k hkT
          rw [getD_at hkT] at y0
          have hts : T[k].size ≤ 12 := hTs _ (List.getElem_mem _)
          have CT : Hid (∀ W', Calls Try.prog 8 #[.agg #[.int .i64 S[k].W, .int .u8 (S[k].b.toNat : Int), .bool S[k].L], .string T[k]] W' fun e w' => e = .returned (.string (mkS (setB S[k].W S[k].b S[k].L (bl T[k])))) ∧ Below W'.heap.size W' w') := fun W' => impl_SetText _ _ _ _ W' (by omega)
          have hxs : (mkS (setB S[k].W S[k].b S[k].L (bl T[k]))).size ≤ 640 := by rw [mkS_size]; exact setB_len
          generalize mkS (setB S[k].W S[k].b S[k].L (bl T[k])) = X at *
          generalize S[k] = s at *
          generalize T[k] = t at *
          generalize lenK S T k = q at *
          have HB := Lib.hid hb
          clear hb
          have k0 : (0 : Int) ≤ (k : Int) := by omega
          have kk1 : (k : Int) < (S.length : Int) := by omega
          have kk2 : (k : Int) < (T.length : Int) := by omega
          have hwq : IntKind.i64.wrap (((m + q : Nat) : Int) + (X.size : Int)) = ((m + q : Nat) : Int) + (X.size : Int) := IntWalk.i64_in _ (by omega)
          have hwq2 : IntKind.i64.wrap ((m : Int) + (q : Int) + (X.size : Int)) = (m : Int) + (q : Int) + (X.size : Int) := IntWalk.i64_in _ (by omega)
          go_wp2
          go_region_held3 (fun w' => w'.cell? ⟨g1, p1 + k * 3, none⟩ = some (.int .i64 s.W) ∧ w'.cell? ⟨g1, p1 + k * 3 + 1, none⟩ = some (.int .u8 (s.b.toNat : Int)) ∧ w'.cell? ⟨g1, p1 + k * 3 + 2, none⟩ = some (.bool s.L) ∧ w'.cell? ⟨g2, p2 + k, none⟩ = some (.string t)) (go_keep) (first | (go_at_call 8; refine (CT.out _).mono ?_; rintro e w5 ⟨rfl, b5⟩; obtain ⟨hcc, _⟩ := bcell b5; have z0 := (hcc _ (p1 + k * 3) hl1).trans x0; have z1 := (hcc _ (p1 + k * 3 + 1) hl1).trans x1; have z2 := (hcc _ (p1 + k * 3 + 2) hl1).trans x2; have z3 := (hcc _ (p2 + k) hl2).trans y0; clear hcc))
          have HB5 := Lib.hid (HB.out.drew.trans (b5.mono HB.out.size))
          clear b5
          have HQ : Hid (((m + q : Nat) : Int) + (X.size : Int) = ((m + (q + X.size) : Nat) : Int)) := by show _ = _; omega
          go_wp2
          go_roundw
          case rel => exact ⟨k + 1, by omega, by go_num, by rw [HSU.out]; go_num, HB5.out⟩
          case measure => simp [intOf]; omega
        · obtain rfl : k = S.length := by omega
          have hfin : ((y.size : Int) == ((m + lenK S T S.length : Nat) : Int)) = true := by
            rw [beq_iff_eq, HSZ.out, HMM.out]; omega
          generalize lenK S T S.length = q at *
          have hfe := of_decide_eq_true (p := (y.size : Int) = ((m + q : Nat) : Int)) (by simpa using hfin)
          have HFE := Lib.hid hfe
          clear hfin hfe
          go_wp2
          go_ret
          exact ⟨by first | rfl | simp [HFE.out], B3.out.trans (hb.mono B3.out.size)⟩
end Go.Proofs.Ytfidcfjmmhghjaa
