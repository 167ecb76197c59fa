/- Splitting an order: the plain function, and the reference's walk. Printed by gen_split.py. -/
import Derived.Test.YtdiaonhmhmdplaaDoorPush
import Derived.Test.YtdiaonhmhmdplaaDoorHas
import Derived.BigRegion
namespace Go.Proofs.YtdiaonhmhmdplaaDoor
open Go.RowKit

def spL : List UInt8 := [36, 92, 96, 42, 63, 91, 93, 123, 125, 40, 41, 59, 38, 124, 60, 62, 33]
/-- Bytes that end it all: no sign, or a sign of the shell's not between single quotes. -/
def badW (q b : UInt8) : Bool := decide ((b.toNat : Int) < 32) || (decide (126 < (b.toNat : Int)) || (spL.contains b && !((q.toNat : Int) == 39)))
abbrev StW := UInt8 × List (List UInt8) × Option (List UInt8)
/-- One byte more: the quote that is open, the words that are done, the word that is begun. -/
def stepW (st : StW) (b : UInt8) : Option StW :=
  if badW st.1 b = true then none
  else if st.1 = b then some (0, st.2.1, st.2.2)
  else if b = 32 ∧ st.1 = 0 then some (0, st.2.1 ++ st.2.2.toList, none)
  else if st.1 = 0 ∧ (b = 39 ∨ b = 34) then some (b, st.2.1, some (st.2.2.getD []))
  else some (st.1, st.2.1, some (st.2.2.getD [] ++ [b]))
def splitT : StW → List UInt8 → Option StW
  | st, [] => some st
  | st, b :: r => (stepW st b).bind fun st' => splitT st' r
def wordsW (st : StW) : List (List UInt8) := st.2.1 ++ st.2.2.toList
def splitR (l : List UInt8) : List ByteArray × Bool := match splitT (0, [], none) l with
  | none => ([], false)
  | some st => if st.1 ≠ 0 ∨ 8 < (wordsW st).length then ([], false) else ((wordsW st).map mkS, true)
theorem splitR_none {l : List UInt8} (h : splitT (0, [], none) l = none) : splitR l = ([], false) := by unfold splitR; rw [h]
theorem splitR_no {l : List UInt8} {st : StW} (h : splitT (0, [], none) l = some st) (h2 : st.1 ≠ 0 ∨ 8 < (wordsW st).length) : splitR l = ([], false) := by unfold splitR; rw [h]; exact if_pos h2
theorem splitR_yes {l : List UInt8} {st : StW} (h : splitT (0, [], none) l = some st) (h2 : ¬ (st.1 ≠ 0 ∨ 8 < (wordsW st).length)) : splitR l = ((wordsW st).map mkS, true) := by unfold splitR; rw [h]; exact if_neg h2
theorem ne_true {b : Bool} (h : b = false) : ¬ b = true := by rw [h]; exact Bool.false_ne_true
theorem stepW_bad {q b : UInt8} {d : List (List UInt8)} {c : Option (List UInt8)} (h : badW q b = true) : stepW (q, d, c) b = none := by unfold stepW; dsimp only; rw [if_pos h]
theorem stepW_end {q b : UInt8} {d : List (List UInt8)} {c : Option (List UInt8)} (h : badW q b = false) (h2 : q = b) : stepW (q, d, c) b = some (0, d, c) := by unfold stepW; dsimp only; rw [if_neg (ne_true h), if_pos h2]
theorem stepW_space {q b : UInt8} {d : List (List UInt8)} {c : Option (List UInt8)} (h : badW q b = false) (h2 : ¬ q = b) (h3 : b = 32) (h4 : q = 0) : stepW (q, d, c) b = some (0, d ++ c.toList, none) := by unfold stepW; dsimp only; rw [if_neg (ne_true h), if_neg h2, if_pos ⟨h3, h4⟩]
theorem stepW_quote {q b : UInt8} {d : List (List UInt8)} {c : Option (List UInt8)} (h : badW q b = false) (h2 : ¬ q = b) (h3 : ¬ (b = 32 ∧ q = 0)) (h4 : q = 0) (h5 : b = 39 ∨ b = 34) : stepW (q, d, c) b = some (b, d, some (c.getD [])) := by unfold stepW; dsimp only; rw [if_neg (ne_true h), if_neg h2, if_neg h3, if_pos ⟨h4, h5⟩]
theorem stepW_more {q b : UInt8} {d : List (List UInt8)} {c : Option (List UInt8)} (h : badW q b = false) (h2 : ¬ q = b) (h3 : ¬ (b = 32 ∧ q = 0)) (h4 : ¬ (q = 0 ∧ (b = 39 ∨ b = 34))) : stepW (q, d, c) b = some (q, d, some (c.getD [] ++ [b])) := by unfold stepW; dsimp only; rw [if_neg (ne_true h), if_neg h2, if_neg h3, if_neg h4]
theorem splitT_go {s : ByteArray} {k : Nat} (h : k < s.size) {x : UInt8} (hx : x = s[k]) (st : StW) : ∀ st', stepW st x = some st' → splitT st ((bl s).drop k) = splitT st' ((bl s).drop (k + 1)) := by
  subst hx
  intro st' hs
  rw [bl_drop s k h, splitT, hs]; rfl
theorem splitT_no {s : ByteArray} {k : Nat} (h : k < s.size) {x : UInt8} (hx : x = s[k]) (st : StW) : stepW st x = none → splitT st ((bl s).drop k) = none := by
  subst hx
  intro hs
  rw [bl_drop s k h, splitT, hs]; rfl
theorem sp_ix (j : Nat) (h : j < 17) : (⟨#[36, 92, 96, 42, 63, 91, 93, 123, 125, 40, 41, 59, 38, 124, 60, 62, 33]⟩ : ByteArray)[j]'h = spL.getD j 0 := by
  have : ∀ j : Fin 17, (⟨#[36, 92, 96, 42, 63, 91, 93, 123, 125, 40, 41, 59, 38, 124, 60, 62, 33]⟩ : ByteArray)[j.1]'j.2 = spL.getD j.1 0 := by decide +kernel
  exact this ⟨j, h⟩
theorem sp_take {j : Nat} (h : j < 17) (b : UInt8) : (spL.take (j + 1)).contains b = ((spL.take j).contains b || (b == spL.getD j 0)) := by
  rw [List.take_add_one, List.contains_append, List.getD_eq_getElem?_getD]
  have hj : j < spL.length := h
  rw [List.getElem?_eq_getElem hj]
  simp only [Option.toList_some, Option.getD_some]
  simp only [List.contains_cons, List.contains_nil, Bool.or_false]
theorem set_moreW (L : List (List UInt8)) (c y : List UInt8) (cs us : ByteArray) (hc : cs = mkS c) (h : us = mkS y) : (((L ++ [c]).map mkS).map strV).set L.length (.string (cs ++ us)) = ((L ++ [c ++ y]).map mkS).map strV := by
  rw [List.map_map, set_last, List.map_map, List.map_append, hc, h, mkS_app]
  rfl
set_option maxRecDepth 100000 in
set_option maxHeartbeats 3200000 in
theorem spec_SplitOrder (s : ByteArray) (w : World) (hs : s.size ≤ 1099511627776) :
    Calls Tryd.prog 6 #[.string s] w (StrsOk w (splitR (bl s))) := by
  go_enter Tryd.func6, Tryd.ntmps6
  go_wp2
  have O0 := Lib.hid (own_new w #[] 9 0 rfl (by omega))
  go_loopw [4, 5, 6, 8] (fun v i q4 t wr => ∃ (k : Nat) (q : UInt8) (d : List (List UInt8)) (cu : Option (List UInt8)) (n : Nat), k ≤ s.size ∧ t = .int .i64 (k : Int) ∧ q4 = .int .u8 (q.toNat : Int) ∧ i = .bool cu.isSome ∧ n ≤ k ∧ Hid (n = (d ++ cu.toList).length) ∧ (cu.getD []).length ≤ k ∧ Hid (splitT (q, d, cu) ((bl s).drop k) = splitT (0, [], none) (bl s)) ∧ wr.ownsRow w.heap.size 9 1 v n (((d ++ cu.toList).map mkS).map strV) ∧ Below w.heap.size w wr) (fun _ _ _ t _ => s.size - (intOf t).toNat)
  case atStart => exact ⟨0, 0, [], none, 0, Nat.zero_le _, rfl, rfl, rfl, Nat.le_refl _, rfl, by simp, rfl, O0.out, (Below.refl _ _).alloc (Nat.le_refl _) _⟩
  case round =>
    obtain ⟨k, q, d, cu, n, hk, rfl, rfl, rfl, hdl, HN, hcl0, HT, own, hb⟩ := hrel
    have O1 := Lib.hid own; have B1 := Lib.hid hb
    obtain ⟨av, cv, rfl, _, kv, kv', _⟩ := own_formn own
    clear own hb
    by_cases hks : k < s.size
    · have hx0 : (s[k].toNat : Int) < 256 := by have := s[k].toNat_lt; omega
      obtain ⟨x, hx⟩ : ∃ x, x = s[k] := ⟨_, rfl⟩
      have HXE := Lib.hid hx
      rw [← hx] at hx0
      have HX := Lib.hid (splitT_go hks hx (q, d, cu))
      have HXN := Lib.hid (splitT_no hks hx (q, d, cu))
      have ht1 : bl (s.extract k (k + 1)) = [x] := by rw [bl_one s k hks, hx]
      have HT1 := Lib.hid ht1
      have hes : (s.extract k (k + 1)).size = 1 := by rw [← bl_len, ht1]; rfl
      have HES := Lib.hid hes
      clear hx ht1 hes
      go_wp2
      obtain ⟨wo, hwo⟩ : ∃ wo : World, wo = wr := ⟨_, rfl⟩
      rw [← hwo] at O1 B1 ⊢
      clear hwo
      go_loopw [9, 10] (fun bv t wr => ∃ (j : Nat) (bb : Bool), j ≤ 17 ∧ t = .int .i64 (j : Int) ∧ bv = .bool bb ∧ Hid (bb = ((spL.take j).contains x && !((q.toNat : Int) == 39))) ∧ Hid (∃ nq, wr = wo.drewN nq)) (fun _ t _ => 17 - (intOf t).toNat)
      case atStart => exact ⟨0, false, by omega, rfl, rfl, rfl, ⟨0, rfl⟩⟩
      case round =>
        obtain ⟨j, bb, hj, rfl, rfl, HBB, HW⟩ := hrel
        by_cases hj17 : j < 17
        · have e1 := sp_ix j hj17
          have e2 := Lib.hid (sp_take hj17 x)
          have k0 : (0 : Int) ≤ (j : Int) := by omega
          have k1 : (j : Int) < 17 := by omega
          have k2 : (0 : Int) ≤ (k : Int) := by omega
          have k3 : (k : Int) < (s.size : Int) := by omega
          have HW2 : Hid (∀ m, ∃ nq, wr.drewN m = wo.drewN nq) := fun m => by obtain ⟨nq, h⟩ := HW.out; exact ⟨nq + m, by rw [h, World.drewN_drewN]⟩
          cases bb
          · by_cases heq : spL.getD j 0 = s[k]
            · have b1 : (((spL.getD j 0).toNat : Int) == (s[k].toNat : Int)) = true := beq_u8' heq
              by_cases hq39 : ((q.toNat : Int) == 39) = true
              · have b2 : ((q.toNat : Int) != 39) = false := by simp only [bne, hq39]; rfl
                have HB2 : Hid (false = ((spL.take (j + 1)).contains x && !((q.toNat : Int) == 39))) := by show false = _; rw [hq39]; simp
                generalize spL.getD j 0 = y at e1 b1
                clear heq
                go_wp2
                go_quiet (fail)
                go_wp2
                go_roundw
                case rel => exact ⟨j + 1, false, by omega, by go_num, rfl, HB2, HW2.out _⟩
                case measure => simp [intOf]; omega
              · have hq39' : ((q.toNat : Int) == 39) = false := by simpa using hq39
                have b2 : ((q.toNat : Int) != 39) = true := by simp only [bne, hq39']; rfl
                have HB2 : Hid (true = ((spL.take (j + 1)).contains x && !((q.toNat : Int) == 39))) := by show true = _; rw [hq39', e2.out, HXE.out, heq]; simp
                generalize spL.getD j 0 = y at e1 b1
                clear heq hq39
                go_wp2
                go_quiet (fail)
                go_wp2
                go_roundw
                case rel => exact ⟨j + 1, true, by omega, by go_num, rfl, HB2, HW2.out _⟩
                case measure => simp [intOf]; omega
            · have b1 : (((spL.getD j 0).toNat : Int) == (s[k].toNat : Int)) = false := beq_u8 heq
              have HB2 : Hid (false = ((spL.take (j + 1)).contains x && !((q.toNat : Int) == 39))) := by
                have h1 := HBB.out
                rw [e2.out, HXE.out]
                rw [HXE.out] at h1
                have h2 : (s[k] == spL.getD j 0) = false := by rw [beq_eq_false_iff_ne]; exact fun e => heq e.symm
                rw [h2, Bool.or_false]
                exact h1
              generalize spL.getD j 0 = y at e1 b1
              clear heq
              go_wp2
              go_quiet (fail)
              go_wp2
              go_roundw
              case rel => exact ⟨j + 1, false, by omega, by go_num, rfl, HB2, HW2.out _⟩
              case measure => simp [intOf]; omega
          · have HB2 : Hid (true = ((spL.take (j + 1)).contains x && !((q.toNat : Int) == 39))) := by
              have h1 := HBB.out
              show true = _
              rw [e2.out]
              rcases h3 : (spL.take j).contains x with _ | _
              · rw [h3] at h1; simp at h1
              · rw [h3] at h1; simpa using h1
            clear e1
            go_wp2
            go_quiet (fail)
            go_wp2
            go_roundw
            case rel => exact ⟨j + 1, true, by omega, by go_num, rfl, HB2, HW2.out _⟩
            case measure => simp [intOf]; omega
        · obtain ⟨nq, hnq⟩ := HW.out
          have O2 : Hid (wr.ownsRow w.heap.size 9 1 (.slice av n cv) n (((d ++ cu.toList).map mkS).map strV)) := by rw [hnq]; exact O1.out
          have B2 : Hid (Below w.heap.size w wr) := by rw [hnq]; exact below_drewN B1.out nq
          have hbb : bb = (spL.contains x && !((q.toNat : Int) == 39)) := by have := HBB.out; rwa [List.take_of_length_le (by show 17 ≤ j; omega)] at this
          have HBX := Lib.hid hbb
          clear hnq HW HBB O1 B1 hbb
          have k2 : (0 : Int) ≤ (k : Int) := by omega
          have k3 : (k : Int) < (s.size : Int) := by omega
          have hwr := B2.out.size
          have HXV : Hid (s[k] = x) := HXE.out.symm
          by_cases hb : badW q x = true
          · have HR : Hid (splitR (bl s) = ([], false)) := splitR_none (by rw [← HT.out, HXN.out (stepW_bad hb)])
            by_cases h1 : (s[k].toNat : Int) < 32
            · clear hb
              go_wp2
              go_ret2
              exact ⟨_, by rw [HR.out]; rfl, by rw [HR.out]; exact own_mono (own_new wr #[] 9 0 rfl (by omega)) hwr, B2.out.alloc hwr _⟩
            · by_cases h2 : 126 < (s[k].toNat : Int)
              · have h1' : decide ((s[k].toNat : Int) < 32) = false := by simpa using h1
                clear hb
                go_wp2
                go_ret2
                exact ⟨_, by rw [HR.out]; rfl, by rw [HR.out]; exact own_mono (own_new wr #[] 9 0 rfl (by omega)) hwr, B2.out.alloc hwr _⟩
              · have h1' : decide ((s[k].toNat : Int) < 32) = false := by simpa using h1
                have h2' : decide (126 < (s[k].toNat : Int)) = false := by simpa using h2
                have hbt : bb = true := by
                  rw [HXV.out] at h1' h2'
                  unfold badW at hb
                  rw [h1', h2'] at hb
                  rw [HBX.out]
                  simpa using hb
                subst hbt
                clear hb
                go_wp2
                go_ret2
                exact ⟨_, by rw [HR.out]; rfl, by rw [HR.out]; exact own_mono (own_new wr #[] 9 0 rfl (by omega)) hwr, B2.out.alloc hwr _⟩
          · have hb0 : badW q x = false := by simpa using hb
            have hb1 := hb0
            unfold badW at hb1
            rw [Bool.or_eq_false_iff, Bool.or_eq_false_iff] at hb1
            obtain ⟨u1, u2, u3⟩ := hb1
            rw [← HXV.out] at u1 u2
            have hbf : bb = false := by rw [HBX.out]; exact u3
            subst hbf
            clear u3 HBX hb
            by_cases hqx : q = x
            · have c1 : ((q.toNat : Int) == (s[k].toNat : Int)) = true := beq_u8' (by rw [HXV.out]; exact hqx)
              have HT2 : Hid (splitT (0, d, cu) ((bl s).drop (k + 1)) = splitT (0, [], none) (bl s)) := by rw [← HT.out]; exact (HX.out _ (stepW_end hb0 hqx)).symm
              clear hqx hb0
              go_wp2
              go_roundw
              case rel => exact ⟨k + 1, 0, d, cu, n, by omega, by go_num, rfl, rfl, by omega, HN, by omega, HT2, O2.out, B2.out⟩
              case measure => simp [intOf]; omega
            · have c1 : ((q.toNat : Int) == (s[k].toNat : Int)) = false := beq_u8 (by rw [HXV.out]; exact hqx)
              by_cases hsp : x = 32 ∧ q = 0
              · have c2 : ((s[k].toNat : Int) == 32) = true := by rw [HXV.out, hsp.1]; rfl
                have c3 : ((q.toNat : Int) == 0) = true := by rw [hsp.2]; rfl
                have HT2 : Hid (splitT (0, d ++ cu.toList, none) ((bl s).drop (k + 1)) = splitT (0, [], none) (bl s)) := by rw [← HT.out]; exact (HX.out _ (stepW_space hb0 hqx hsp.1 hsp.2)).symm
                have hq0 : Hid (Value.int .u8 (q.toNat : Int) = .int .u8 ((0 : UInt8).toNat : Int)) := by rw [hsp.2]; rfl
                have HN0 : Hid (n = ((d ++ cu.toList) ++ (none : Option (List UInt8)).toList).length) := by rw [HN.out]; simp; trivial
                clear hsp hqx hb0
                go_wp2
                go_roundw
                case rel => exact ⟨k + 1, 0, d ++ cu.toList, none, n, by omega, by go_num, hq0.out, rfl, by omega, HN0.out, by simp, HT2, own_len_eq O2.out rfl (by simp), B2.out⟩
                case measure => simp [intOf]; omega
              · skip
                rcases cu with _ | c
                · have hn : n = d.length := by rw [HN.out]; simp
                  subst hn
                  have ON : Hid (wr.ownsRow w.heap.size 9 1 (.slice av d.length cv) d.length ((d.map mkS).map strV)) := own_len_eq O2.out rfl (by simp)
                  have HND : Hid (d.length + 1 = (d ++ (some ([] : List UInt8)).toList).length) := by show _ = _; simp
                  clear O2 HN
                  by_cases hq : q = 0
                  · have hq1 : ((q.toNat : Int) == 0) = true := by rw [hq]; rfl
                    have c32 : ((s[k].toNat : Int) == 32) = false := by rw [HXV.out]; exact beq_u8 (fun e => hsp ⟨e, hq⟩)
                    by_cases h39 : x = 39
                    · have b39 : ((s[k].toNat : Int) == 39) = true := by rw [HXV.out, h39]; rfl
                      have HT2 : Hid (splitT (s[k], d, some []) ((bl s).drop (k + 1)) = splitT (0, [], none) (bl s)) := by
                        rw [HXV.out, ← HT.out]; exact (HX.out _ (stepW_quote hb0 hqx hsp hq (.inl h39))).symm
                      clear hq h39 hqx hb0 hsp
                      go_wp2_with (at_builtin; refine wpList_pushS (.tmp 70) (.tmp 71) w.heap.size _ _ d.length (d.map mkS) ON.out hwr (by omega) rfl (by rfl) (by rfl) wr.heap.size rfl (by rfl) ?_; intro v5 w5 o5 b5; have OW : Hid (w5.ownsRow w.heap.size 9 1 v5 (d.length + 1) (((d ++ [[]]).map mkS).map strV)) := own_len_eq o5 rfl (by rw [List.map_append, List.map_append, List.map_append]; rfl); have BW := Lib.hid (B2.out.trans b5); have hww := BW.out.size; obtain ⟨g, cv5, rfl, hBg, hgl, k5, k5', hc5⟩ := own_at OW.out (by omega); have hcl : w5.cell? ⟨g, d.length, none⟩ = some (.string (mkS [])) := hc5 _ _ (by simp [strV]); obtain ⟨f0, _, hS, _⟩ := own_setn OW.out d.length (by omega) (.string (mkS [] ++ s.extract k (k + 1))); have HSS := Lib.hid hS; clear o5 b5 hc5 hS)
                      go_roundw
                      case rel => exact ⟨k + 1, s[k], d, some [], d.length + 1, by omega, by go_num, rfl, rfl, by omega, HND.out, by simp at hcl0 ⊢, HT2, OW.out, BW.out⟩
                      case measure => simp [intOf]; omega
                    · have b39 : ((s[k].toNat : Int) == 39) = false := by rw [HXV.out]; exact beq_u8 h39
                      by_cases h34 : x = 34
                      · have b34 : ((s[k].toNat : Int) == 34) = true := by rw [HXV.out, h34]; rfl
                        have HT2 : Hid (splitT (s[k], d, some []) ((bl s).drop (k + 1)) = splitT (0, [], none) (bl s)) := by
                          rw [HXV.out, ← HT.out]; exact (HX.out _ (stepW_quote hb0 hqx hsp hq (.inr h34))).symm
                        clear hq h39 h34 hqx hb0 hsp
                        go_wp2_with (at_builtin; refine wpList_pushS (.tmp 70) (.tmp 71) w.heap.size _ _ d.length (d.map mkS) ON.out hwr (by omega) rfl (by rfl) (by rfl) wr.heap.size rfl (by rfl) ?_; intro v5 w5 o5 b5; have OW : Hid (w5.ownsRow w.heap.size 9 1 v5 (d.length + 1) (((d ++ [[]]).map mkS).map strV)) := own_len_eq o5 rfl (by rw [List.map_append, List.map_append, List.map_append]; rfl); have BW := Lib.hid (B2.out.trans b5); have hww := BW.out.size; obtain ⟨g, cv5, rfl, hBg, hgl, k5, k5', hc5⟩ := own_at OW.out (by omega); have hcl : w5.cell? ⟨g, d.length, none⟩ = some (.string (mkS [])) := hc5 _ _ (by simp [strV]); obtain ⟨f0, _, hS, _⟩ := own_setn OW.out d.length (by omega) (.string (mkS [] ++ s.extract k (k + 1))); have HSS := Lib.hid hS; clear o5 b5 hc5 hS)
                        go_roundw
                        case rel => exact ⟨k + 1, s[k], d, some [], d.length + 1, by omega, by go_num, rfl, rfl, by omega, HND.out, by simp at hcl0 ⊢, HT2, OW.out, BW.out⟩
                        case measure => simp [intOf]; omega
                      · have b34 : ((s[k].toNat : Int) == 34) = false := by rw [HXV.out]; exact beq_u8 h34
                        have HT2 : Hid (splitT (q, d, some ([] ++ [x])) ((bl s).drop (k + 1)) = splitT (0, [], none) (bl s)) := by
                          rw [← HT.out]; exact (HX.out _ (stepW_more hb0 hqx hsp (by rintro ⟨_, h | h⟩; exact h39 h; exact h34 h))).symm
                        clear hq h39 h34 hqx hb0 hsp
                        go_wp2_with (at_builtin; refine wpList_pushS (.tmp 70) (.tmp 71) w.heap.size _ _ d.length (d.map mkS) ON.out hwr (by omega) rfl (by rfl) (by rfl) wr.heap.size rfl (by rfl) ?_; intro v5 w5 o5 b5; have OW : Hid (w5.ownsRow w.heap.size 9 1 v5 (d.length + 1) (((d ++ [[]]).map mkS).map strV)) := own_len_eq o5 rfl (by rw [List.map_append, List.map_append, List.map_append]; rfl); have BW := Lib.hid (B2.out.trans b5); have hww := BW.out.size; obtain ⟨g, cv5, rfl, hBg, hgl, k5, k5', hc5⟩ := own_at OW.out (by omega); have hcl : w5.cell? ⟨g, d.length, none⟩ = some (.string (mkS [])) := hc5 _ _ (by simp [strV]); obtain ⟨f0, _, hS, _⟩ := own_setn OW.out d.length (by omega) (.string (mkS [] ++ s.extract k (k + 1))); have HSS := Lib.hid hS; clear o5 b5 hc5 hS)
                        have j1 : IntKind.i64.wrap ((d.length : Int) + 1 - 1) = (d.length : Int) := by rw [show ((d.length : Int) + 1 - 1) = (d.length : Int) by omega]; exact IntWalk.i64_in _ (by omega)
                        have j2 : IntKind.i64.wrap ((k : Int) + 1) = (k : Int) + 1 := IntWalk.i64_in _ (by omega)
                        have j3 : IntKind.i64.wrap (d.length : Int) = (d.length : Int) := IntWalk.i64_in _ (by omega)
                        have j4 : (0 : Int) ≤ (d.length : Int) := by omega
                        have j5 : (d.length : Int) < (d.length : Int) + 1 := by omega
                        have j6 : (k : Int) ≤ (k : Int) + 1 := by omega
                        have j7 : (k : Int) + 1 ≤ (s.size : Int) := by omega
                        have j8 : ((k : Int) + 1).toNat = k + 1 := by omega
                        have j9 : (0 : Int) ≤ (k : Int) + 1 := by omega
                        have hes1 : (s.extract k (k + 1)).size ≤ 1 := by rw [HES.out]; exact Nat.le_refl _
                        have hez : (mkS []).size ≤ k := by rw [mkS_size]; exact Nat.zero_le _
                        have HEX : Hid (s.extract k (k + 1) = mkS [x]) := by rw [← HT1.out, mkS_bl]; rfl
                        have OF : Hid ((w5.setCell ⟨g, d.length, none⟩ (.string ((mkS []) ++ s.extract k (k + 1)))).drew.ownsRow w.heap.size 9 1 (.slice (some ⟨g, 0, none⟩) (d.length + 1) cv5) (d.length + 1) (((d ++ [[] ++ [x]]).map mkS).map strV)) := own_len_eq HSS.out rfl (set_moreW d [] [x] _ _ rfl HEX.out)
                        have BF : Hid (Below w.heap.size w (w5.setCell ⟨g, d.length, none⟩ (.string ((mkS []) ++ s.extract k (k + 1)))).drew) := (BW.out.setCell (p := ⟨g, d.length, none⟩) hBg _).drew
                        have HNF : Hid (d.length + 1 = (d ++ (some ([] ++ [x])).toList).length) := by show _ = _; simp
                        have hlf : ((some ([] ++ [x])).getD []).length ≤ k + 1 := by simp at hcl0 ⊢
                        go_region
                        go_wp2
                        go_roundw
                        case rel => exact ⟨k + 1, q, d, some ([] ++ [x]), d.length + 1, by omega, by go_num, rfl, rfl, by omega, HNF.out, hlf, HT2, OF.out, BF.out⟩
                        case measure => simp [intOf]; omega
                  · have hq1 : ((q.toNat : Int) == 0) = false := beq_u8 hq
                    have HT2 : Hid (splitT (q, d, some ([] ++ [x])) ((bl s).drop (k + 1)) = splitT (0, [], none) (bl s)) := by
                      rw [← HT.out]; exact (HX.out _ (stepW_more hb0 hqx hsp (by rintro ⟨h, _⟩; exact hq h))).symm
                    clear hq hqx hb0 hsp
                    rcases c32 : ((s[k].toNat : Int) == 32) with _ | _
                    all_goals
                      go_wp2_with (at_builtin; refine wpList_pushS (.tmp 70) (.tmp 71) w.heap.size _ _ d.length (d.map mkS) ON.out hwr (by omega) rfl (by rfl) (by rfl) wr.heap.size rfl (by rfl) ?_; intro v5 w5 o5 b5; have OW : Hid (w5.ownsRow w.heap.size 9 1 v5 (d.length + 1) (((d ++ [[]]).map mkS).map strV)) := own_len_eq o5 rfl (by rw [List.map_append, List.map_append, List.map_append]; rfl); have BW := Lib.hid (B2.out.trans b5); have hww := BW.out.size; obtain ⟨g, cv5, rfl, hBg, hgl, k5, k5', hc5⟩ := own_at OW.out (by omega); have hcl : w5.cell? ⟨g, d.length, none⟩ = some (.string (mkS [])) := hc5 _ _ (by simp [strV]); obtain ⟨f0, _, hS, _⟩ := own_setn OW.out d.length (by omega) (.string (mkS [] ++ s.extract k (k + 1))); have HSS := Lib.hid hS; clear o5 b5 hc5 hS)
                      have j1 : IntKind.i64.wrap ((d.length : Int) + 1 - 1) = (d.length : Int) := by rw [show ((d.length : Int) + 1 - 1) = (d.length : Int) by omega]; exact IntWalk.i64_in _ (by omega)
                      have j2 : IntKind.i64.wrap ((k : Int) + 1) = (k : Int) + 1 := IntWalk.i64_in _ (by omega)
                      have j3 : IntKind.i64.wrap (d.length : Int) = (d.length : Int) := IntWalk.i64_in _ (by omega)
                      have j4 : (0 : Int) ≤ (d.length : Int) := by omega
                      have j5 : (d.length : Int) < (d.length : Int) + 1 := by omega
                      have j6 : (k : Int) ≤ (k : Int) + 1 := by omega
                      have j7 : (k : Int) + 1 ≤ (s.size : Int) := by omega
                      have j8 : ((k : Int) + 1).toNat = k + 1 := by omega
                      have j9 : (0 : Int) ≤ (k : Int) + 1 := by omega
                      have hes1 : (s.extract k (k + 1)).size ≤ 1 := by rw [HES.out]; exact Nat.le_refl _
                      have hez : (mkS []).size ≤ k := by rw [mkS_size]; exact Nat.zero_le _
                      have HEX : Hid (s.extract k (k + 1) = mkS [x]) := by rw [← HT1.out, mkS_bl]; rfl
                      have OF : Hid ((w5.setCell ⟨g, d.length, none⟩ (.string ((mkS []) ++ s.extract k (k + 1)))).drew.ownsRow w.heap.size 9 1 (.slice (some ⟨g, 0, none⟩) (d.length + 1) cv5) (d.length + 1) (((d ++ [[] ++ [x]]).map mkS).map strV)) := own_len_eq HSS.out rfl (set_moreW d [] [x] _ _ rfl HEX.out)
                      have BF : Hid (Below w.heap.size w (w5.setCell ⟨g, d.length, none⟩ (.string ((mkS []) ++ s.extract k (k + 1)))).drew) := (BW.out.setCell (p := ⟨g, d.length, none⟩) hBg _).drew
                      have HNF : Hid (d.length + 1 = (d ++ (some ([] ++ [x])).toList).length) := by show _ = _; simp
                      have hlf : ((some ([] ++ [x])).getD []).length ≤ k + 1 := by simp at hcl0 ⊢
                      go_region
                      go_wp2
                      go_roundw
                      case rel => exact ⟨k + 1, q, d, some ([] ++ [x]), d.length + 1, by omega, by go_num, rfl, rfl, by omega, HNF.out, hlf, HT2, OF.out, BF.out⟩
                      case measure => simp [intOf]; omega
                · have hn : n = d.length + 1 := by rw [HN.out]; simp
                  subst hn
                  have HND : Hid (d.length + 1 = (d ++ (some c).toList).length) := by show _ = _; simp
                  obtain ⟨g, cv5, hv5, hBg, hgl, k5, k5', hc5⟩ := own_at O2.out (by omega)
                  injection hv5 with hv1 hv2 hv3
                  subst hv1; subst hv3
                  have OW : Hid (wr.ownsRow w.heap.size 9 1 (.slice (some ⟨g, 0, none⟩) (d.length + 1) cv) (d.length + 1) (((d ++ [c]).map mkS).map strV)) := O2.out
                  have BW := B2
                  have hcl : wr.cell? ⟨g, d.length, none⟩ = some (.string (mkS c)) := hc5 _ _ (by simp [strV])
                  obtain ⟨f0, _, hS, _⟩ := own_setn OW.out d.length (by omega) (.string (mkS c ++ s.extract k (k + 1)))
                  have HSS := Lib.hid hS
                  have hcz : (mkS c).size ≤ k := by rw [mkS_size]; simpa using hcl0
                  clear hc5 hS O2 HN hv2
                  by_cases hq : q = 0
                  · have hq1 : ((q.toNat : Int) == 0) = true := by rw [hq]; rfl
                    have c32 : ((s[k].toNat : Int) == 32) = false := by rw [HXV.out]; exact beq_u8 (fun e => hsp ⟨e, hq⟩)
                    by_cases h39 : x = 39
                    · have b39 : ((s[k].toNat : Int) == 39) = true := by rw [HXV.out, h39]; rfl
                      have HT2 : Hid (splitT (s[k], d, some c) ((bl s).drop (k + 1)) = splitT (0, [], none) (bl s)) := by
                        rw [HXV.out, ← HT.out]; exact (HX.out _ (stepW_quote hb0 hqx hsp hq (.inl h39))).symm
                      clear hq h39 hqx hb0 hsp
                      go_wp2
                      go_roundw
                      case rel => exact ⟨k + 1, s[k], d, some c, d.length + 1, by omega, by go_num, rfl, rfl, by omega, HND.out, by simp at hcl0 ⊢; omega, HT2, OW.out, BW.out⟩
                      case measure => simp [intOf]; omega
                    · have b39 : ((s[k].toNat : Int) == 39) = false := by rw [HXV.out]; exact beq_u8 h39
                      by_cases h34 : x = 34
                      · have b34 : ((s[k].toNat : Int) == 34) = true := by rw [HXV.out, h34]; rfl
                        have HT2 : Hid (splitT (s[k], d, some c) ((bl s).drop (k + 1)) = splitT (0, [], none) (bl s)) := by
                          rw [HXV.out, ← HT.out]; exact (HX.out _ (stepW_quote hb0 hqx hsp hq (.inr h34))).symm
                        clear hq h39 h34 hqx hb0 hsp
                        go_wp2
                        go_roundw
                        case rel => exact ⟨k + 1, s[k], d, some c, d.length + 1, by omega, by go_num, rfl, rfl, by omega, HND.out, by simp at hcl0 ⊢; omega, HT2, OW.out, BW.out⟩
                        case measure => simp [intOf]; omega
                      · have b34 : ((s[k].toNat : Int) == 34) = false := by rw [HXV.out]; exact beq_u8 h34
                        have HT2 : Hid (splitT (q, d, some (c ++ [x])) ((bl s).drop (k + 1)) = splitT (0, [], none) (bl s)) := by
                          rw [← HT.out]; exact (HX.out _ (stepW_more hb0 hqx hsp (by rintro ⟨_, h | h⟩; exact h39 h; exact h34 h))).symm
                        clear hq h39 h34 hqx hb0 hsp
                        go_wp2_with fail
                        have j1 : IntKind.i64.wrap ((d.length : Int) + 1 - 1) = (d.length : Int) := by rw [show ((d.length : Int) + 1 - 1) = (d.length : Int) by omega]; exact IntWalk.i64_in _ (by omega)
                        have j2 : IntKind.i64.wrap ((k : Int) + 1) = (k : Int) + 1 := IntWalk.i64_in _ (by omega)
                        have j3 : IntKind.i64.wrap (d.length : Int) = (d.length : Int) := IntWalk.i64_in _ (by omega)
                        have j4 : (0 : Int) ≤ (d.length : Int) := by omega
                        have j5 : (d.length : Int) < (d.length : Int) + 1 := by omega
                        have j6 : (k : Int) ≤ (k : Int) + 1 := by omega
                        have j7 : (k : Int) + 1 ≤ (s.size : Int) := by omega
                        have j8 : ((k : Int) + 1).toNat = k + 1 := by omega
                        have j9 : (0 : Int) ≤ (k : Int) + 1 := by omega
                        have hes1 : (s.extract k (k + 1)).size ≤ 1 := by rw [HES.out]; exact Nat.le_refl _
                        have hez : (mkS c).size ≤ k := by rw [mkS_size]; simpa using hcl0
                        have HEX : Hid (s.extract k (k + 1) = mkS [x]) := by rw [← HT1.out, mkS_bl]; rfl
                        have OF : Hid ((wr.setCell ⟨g, d.length, none⟩ (.string ((mkS c) ++ s.extract k (k + 1)))).drew.ownsRow w.heap.size 9 1 (.slice (some ⟨g, 0, none⟩) (d.length + 1) cv) (d.length + 1) (((d ++ [c ++ [x]]).map mkS).map strV)) := own_len_eq HSS.out rfl (set_moreW d c [x] _ _ rfl HEX.out)
                        have BF : Hid (Below w.heap.size w (wr.setCell ⟨g, d.length, none⟩ (.string ((mkS c) ++ s.extract k (k + 1)))).drew) := (BW.out.setCell (p := ⟨g, d.length, none⟩) hBg _).drew
                        have HNF : Hid (d.length + 1 = (d ++ (some (c ++ [x])).toList).length) := by show _ = _; simp
                        have hlf : ((some (c ++ [x])).getD []).length ≤ k + 1 := by simp at hcl0 ⊢; omega
                        go_region
                        go_wp2
                        go_roundw
                        case rel => exact ⟨k + 1, q, d, some (c ++ [x]), d.length + 1, by omega, by go_num, rfl, rfl, by omega, HNF.out, hlf, HT2, OF.out, BF.out⟩
                        case measure => simp [intOf]; omega
                  · have hq1 : ((q.toNat : Int) == 0) = false := beq_u8 hq
                    have HT2 : Hid (splitT (q, d, some (c ++ [x])) ((bl s).drop (k + 1)) = splitT (0, [], none) (bl s)) := by
                      rw [← HT.out]; exact (HX.out _ (stepW_more hb0 hqx hsp (by rintro ⟨h, _⟩; exact hq h))).symm
                    clear hq hqx hb0 hsp
                    rcases c32 : ((s[k].toNat : Int) == 32) with _ | _
                    all_goals
                      go_wp2_with fail
                      have j1 : IntKind.i64.wrap ((d.length : Int) + 1 - 1) = (d.length : Int) := by rw [show ((d.length : Int) + 1 - 1) = (d.length : Int) by omega]; exact IntWalk.i64_in _ (by omega)
                      have j2 : IntKind.i64.wrap ((k : Int) + 1) = (k : Int) + 1 := IntWalk.i64_in _ (by omega)
                      have j3 : IntKind.i64.wrap (d.length : Int) = (d.length : Int) := IntWalk.i64_in _ (by omega)
                      have j4 : (0 : Int) ≤ (d.length : Int) := by omega
                      have j5 : (d.length : Int) < (d.length : Int) + 1 := by omega
                      have j6 : (k : Int) ≤ (k : Int) + 1 := by omega
                      have j7 : (k : Int) + 1 ≤ (s.size : Int) := by omega
                      have j8 : ((k : Int) + 1).toNat = k + 1 := by omega
                      have j9 : (0 : Int) ≤ (k : Int) + 1 := by omega
                      have hes1 : (s.extract k (k + 1)).size ≤ 1 := by rw [HES.out]; exact Nat.le_refl _
                      have hez : (mkS c).size ≤ k := by rw [mkS_size]; simpa using hcl0
                      have HEX : Hid (s.extract k (k + 1) = mkS [x]) := by rw [← HT1.out, mkS_bl]; rfl
                      have OF : Hid ((wr.setCell ⟨g, d.length, none⟩ (.string ((mkS c) ++ s.extract k (k + 1)))).drew.ownsRow w.heap.size 9 1 (.slice (some ⟨g, 0, none⟩) (d.length + 1) cv) (d.length + 1) (((d ++ [c ++ [x]]).map mkS).map strV)) := own_len_eq HSS.out rfl (set_moreW d c [x] _ _ rfl HEX.out)
                      have BF : Hid (Below w.heap.size w (wr.setCell ⟨g, d.length, none⟩ (.string ((mkS c) ++ s.extract k (k + 1)))).drew) := (BW.out.setCell (p := ⟨g, d.length, none⟩) hBg _).drew
                      have HNF : Hid (d.length + 1 = (d ++ (some (c ++ [x])).toList).length) := by show _ = _; simp
                      have hlf : ((some (c ++ [x])).getD []).length ≤ k + 1 := by simp at hcl0 ⊢; omega
                      go_region
                      go_wp2
                      go_roundw
                      case rel => exact ⟨k + 1, q, d, some (c ++ [x]), d.length + 1, by omega, by go_num, rfl, rfl, by omega, HNF.out, hlf, HT2, OF.out, BF.out⟩
                      case measure => simp [intOf]; omega
    · have HTN : Hid (splitT (0, [], none) (bl s) = some (q, d, cu)) := by rw [← HT.out, List.drop_eq_nil_of_le (by rw [bl_len]; omega)]; rfl
      have HWN : Hid (n = (wordsW (q, d, cu)).length) := HN
      have hwr := B1.out.size
      by_cases hq : q = 0
      · have b1 : ((q.toNat : Int) != 0) = false := by rw [hq]; rfl
        by_cases h8 : 8 < n
        · have HR : Hid (splitR (bl s) = ([], false)) := splitR_no HTN.out (.inr (by rw [← HWN.out]; exact h8))
          clear hq
          go_wp2
          go_ret2
          exact ⟨_, by rw [HR.out]; rfl, by rw [HR.out]; exact own_mono (own_new wr #[] 9 0 rfl (by omega)) hwr, B1.out.alloc hwr _⟩
        · have HR : Hid (splitR (bl s) = ((wordsW (q, d, cu)).map mkS, true)) := splitR_yes HTN.out (by rw [← HWN.out]; rintro (h | h); exact h hq; omega)
          have h8' : decide (8 < (n : Int)) = false := by simp; omega
          clear hq
          go_wp2
          go_ret2
          exact ⟨_, by rw [HR.out]; rfl, by rw [HR.out]; exact own_len_eq O1.out (by rw [HWN.out]; simp) rfl, B1.out⟩
      · have HR : Hid (splitR (bl s) = ([], false)) := splitR_no HTN.out (.inl hq)
        have b1 : ((q.toNat : Int) != 0) = true := by
          have := beq_u8 hq
          simp only [bne]
          rw [show (0 : Int) = ((0 : UInt8).toNat : Int) from rfl, this]; rfl
        clear hq
        go_wp2
        go_ret2
        exact ⟨_, by rw [HR.out]; rfl, by rw [HR.out]; exact own_mono (own_new wr #[] 9 0 rfl (by omega)) hwr, B1.out.alloc hwr _⟩
end Go.Proofs.YtdiaonhmhmdplaaDoor
