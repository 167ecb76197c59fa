/- The reference's ReadSources (printed by gen_rds.py). -/
import Derived.Test.YtpplagecancccaaDoorRdI
import Derived.BigRegion
namespace Go.Proofs.YtpplagecancccaaDoor
open Go.RowKit

theorem set_moreR (L : List (List UInt8)) (c y : List UInt8) (cs us : ByteArray) (hc : cs = mkS c) (h : us = mkS y) : (((L ++ [c]).map mkS).map strV).set L.length (.string (cs ++ us)) = ((L ++ [c ++ y]).map mkS).map strV := by
  rw [List.map_map, set_last, List.map_map, List.map_append, hc, h, mkS_app]
  rfl
theorem cutAt_snoc (c b : UInt8) : ∀ l : List UInt8, cutAt c (l ++ [b]) = if b = c then cutAt c l ++ [[]] else (cutAt c l).dropLast ++ [(cutAt c l).getLastD [] ++ [b]] := by
  intro l
  induction l with
  | nil =>
    by_cases h : b = c
    · rw [if_pos h, List.nil_append]; show cutAt c [b] = _; unfold cutAt; rw [if_pos h]; rfl
    · rw [if_neg h, List.nil_append]; show cutAt c [b] = _; unfold cutAt; rw [if_neg h]; rfl
  | cons x l ih =>
    have hne := cutAt_ne c l
    obtain ⟨y, r, hy⟩ : ∃ y r, cutAt c l = y :: r := by
      cases hx : cutAt c l with
      | nil => exact absurd hx hne
      | cons y r => exact ⟨y, r, rfl⟩
    rw [List.cons_append, cutAt, ih]
    by_cases hb : b = c
    · rw [if_pos hb, if_pos hb, cutAt]
      split
      · rfl
      · rw [hy]; rfl
    · rw [if_neg hb, if_neg hb, cutAt]
      by_cases hx : x = c
      · rw [if_pos hx, if_pos hx, hy]
        rfl
      · rw [if_neg hx, if_neg hx, hy]
        cases r with
        | nil => simp
        | cons z r => simp
theorem cut_more {c : UInt8} {l : List UInt8} {d : List (List UInt8)} {u : List UInt8} {b : UInt8} (h : cutAt c l = d ++ [u]) (hb : ¬ b = c) : cutAt c (l ++ [b]) = d ++ [u ++ [b]] := by
  rw [cutAt_snoc, if_neg hb, h]
  simp
theorem cut_new {c : UInt8} {l : List UInt8} {d : List (List UInt8)} {u : List UInt8} {b : UInt8} (h : cutAt c l = d ++ [u]) (hb : b = c) : cutAt c (l ++ [b]) = d ++ [u] ++ [[]] := by
  rw [cutAt_snoc, if_pos hb, h]
theorem tw_spec : ∀ (m : Nat) (l : List UInt8), (∀ i (h : i < l.length), i < m → l[i] ≠ 59) → m ≤ l.length → (m = l.length ∨ l[m]? = some 59) → l.takeWhile (fun c => decide (c ≠ 59)) = l.take m ∧ l.dropWhile (fun c => decide (c ≠ 59)) = l.drop m := by
  intro m
  induction m with
  | zero =>
    intro l _ _ h
    cases l with
    | nil => exact ⟨rfl, rfl⟩
    | cons x l =>
      rcases h with h | h
      · simp at h
      · have : x = 59 := by simpa using h
        subst this
        exact ⟨by simp, by simp⟩
  | succ m ih =>
    intro l h1 h2 h3
    cases l with
    | nil => simp at h2
    | cons x l =>
      have hx := h1 0 (by simp) (by omega)
      obtain ⟨i1, i2⟩ := ih l (fun i hi him => by have := h1 (i + 1) (by simpa using hi) (by omega); simpa using this) (by simpa using h2) (h3.imp (fun h => by simpa using h) (fun h => by simpa using h))
      constructor
      · rw [List.takeWhile_cons_of_pos (by simpa using hx), i1]; rfl
      · rw [List.dropWhile_cons_of_pos (by simpa using hx), i2]; rfl
theorem bl_getR {s : ByteArray} {k : Nat} (h : k < s.size) : (bl s)[k]? = some s[k] := by
  unfold bl
  rw [List.getElem?_eq_getElem (by simpa using h)]
  rfl
/-- A piece that grows by a byte. -/
theorem piece_snoc {s : ByteArray} {a k : Nat} (ha : a ≤ k) (h : k < s.size) : ((bl s).drop a).take (k + 1 - a) = ((bl s).drop a).take (k - a) ++ [s[k]] := by
  have e : k + 1 - a = (k - a) + 1 := by omega
  rw [e, List.take_add_one, List.getElem?_drop, show a + (k - a) = k by omega, bl_getR h]
  rfl
theorem parse_at {s : ByteArray} {a e : Nat} (ha : a < s.size) (hae : a ≤ e) (he : e ≤ s.size) (hno : ∀ i (h : i < s.size), a ≤ i → i < e → s[i] ≠ 59) (hend : e = s.size ∨ ∃ h : e < s.size, s[e] = 59) : parse ((bl s).drop a) = mkSrc (cutAt 32 (((bl s).drop a).take (e - a))) :: parse ((bl s).drop (e + 2)) := by
  have hl : ((bl s).drop a).length = s.size - a := by rw [List.length_drop, bl_len]
  have hne : (bl s).drop a ≠ [] := fun h => by rw [h] at hl; simp at hl; omega
  obtain ⟨t1, t2⟩ := tw_spec (e - a) ((bl s).drop a) (by
    intro i hi him hx
    rw [hl] at hi
    have h1 : ((bl s).drop a)[i]? = some 59 := by rw [List.getElem?_eq_getElem (by rw [hl]; exact hi), hx]
    rw [List.getElem?_drop, bl_getR (by omega)] at h1
    injection h1 with h1
    exact hno (a + i) (by omega) (by omega) (by omega) h1) (by rw [hl]; omega) (by
    rcases hend with h | ⟨h, h2⟩
    · left; rw [hl]; omega
    · right
      rw [List.getElem?_drop, show a + (e - a) = e by omega, bl_getR h, h2])
  rw [parse_cons hne, t1, t2, List.drop_drop, List.drop_drop, show a + (e - a + 2) = e + 2 by omega]
theorem row_cur {w : World} {B : Nat} {e : TypeId} {v : Value} {n : Nat} {l : List Value} (h : w.ownsRow B e 1 v n l) (hn : 0 < n) : ∃ (g c : Nat) (cur : Array Value), v = .slice (some ⟨g, 0, none⟩) n c ∧ B ≤ g ∧ w.heap[g]? = some (.cells cur e (0, 0)) ∧ n ≤ c ∧ c ≤ 9223372036854775807 ∧ ∀ (i : Nat) (x : Value), l[i]? = some x → cur[i]? = some x := by
  obtain ⟨hl, h⟩ := h
  rcases h with ⟨_, h0⟩ | ⟨g, cap, cur, hv, hB, hg, hn', hm, hs, ht⟩
  · omega
  · refine ⟨g, cap, cur, hv, hB, hg, hn', by simpa [maxLen] using hm, fun i x hx => ?_⟩
    have hi : i < l.length := (List.getElem?_eq_some_iff.1 hx).1
    rw [← ht, List.getElem?_take, if_pos (by omega)] at hx
    simpa using hx
theorem parse_le (n : Nat) : ∀ l : List UInt8, l.length ≤ n → 2 * (parse l).length ≤ l.length + 1 ∧ ∀ t ∈ parse l, ∃ p : List UInt8, p.length ≤ l.length ∧ t = mkSrc (cutAt 32 p) := by
  induction n with
  | zero =>
    intro l h
    have := List.eq_nil_of_length_eq_zero (Nat.le_zero.1 h)
    subst this
    exact ⟨by rw [parse_nil]; simp, fun t ht => by rw [parse_nil] at ht; cases ht⟩
  | succ n ih =>
    intro l h
    by_cases hl : l = []
    · subst hl
      exact ⟨by rw [parse_nil]; simp, fun t ht => by rw [parse_nil] at ht; cases ht⟩
    · have hlen := congrArg List.length (List.takeWhile_append_dropWhile (p := fun c : UInt8 => decide (c ≠ 59)) (l := l))
      rw [List.length_append] at hlen
      have hr := rest_len hl
      obtain ⟨i1, i2⟩ := ih ((l.dropWhile fun c => decide (c ≠ 59)).drop 2) (by omega)
      rw [parse_cons hl]
      refine ⟨?_, fun t ht => ?_⟩
      · rw [List.length_cons]
        rw [List.length_drop] at i1 hr
        by_cases h2 : 2 ≤ l.length
        · have : 2 ≤ l.length := h2
          rcases Nat.lt_or_ge (l.dropWhile fun c => decide (c ≠ 59)).length 2 with h3 | h3
          · have : (parse ((l.dropWhile fun c => decide (c ≠ 59)).drop 2)).length = 0 := by omega
            omega
          · omega
        · have h0 : 0 < l.length := List.length_pos_iff.2 hl
          omega
      · rcases List.mem_cons.1 ht with rfl | ht
        · exact ⟨_, by omega, rfl⟩
        · obtain ⟨p, hp, e⟩ := i2 t ht
          exact ⟨p, by omega, e⟩

set_option maxRecDepth 100000 in
set_option maxHeartbeats 3200000 in
theorem spec_ReadSources (s : ByteArray) (w : World) (hs : s.size ≤ 1048576) :
    Calls Tryd.prog 13 #[.string s] w (ReadPost w (readR (bl s))) := by
  have OS0 := Lib.hid (ownN_new w #[] 40 2 0 rfl (by omega))
  have B0 : Hid (Below w.heap.size w (w.alloc (.cells #[] 40 (0, 0)))) := bel_new _
  go_enter Tryd.func13, Tryd.ntmps13
  go_wp2
  go_loopw [4, 5] (fun o t wr => ∃ (p nn : Nat) (l : List (ByteArray × Value)) (S : List Src), t = .int .i64 (p : Int) ∧ p ≤ s.size + 2 ∧ nn * 2 ≤ p ∧ Hid (S.length = nn) ∧ wr.ownsRow w.heap.size 40 2 o nn (prC l) ∧ Hid (SrcD wr w.heap.size l S) ∧ Hid (S ++ parse ((bl s).drop p) = parse (bl s)) ∧ Below w.heap.size w wr) (fun _ t _ => s.size + 2 - (intOf t).toNat)
  case atStart => exact ⟨0, 0, [], [], rfl, by omega, by omega, rfl, OS0.out, True.intro, rfl, B0.out⟩
  case round =>
    rename World => wo
    obtain ⟨p, nn, l, S, rfl, hp, hnn, HSL, own, HL, HS, hb⟩ := hrel
    clear OS0 B0
    have OS := Lib.hid own
    have BW := Lib.hid hb
    have hws := hb.size
    clear own hb
    by_cases hlt : p < s.size
    · go_wp2
      go_loop [6] (fun t => ∃ q : Nat, t = .int .i64 (q : Int) ∧ p ≤ q ∧ q ≤ s.size ∧ Hid (∀ i (h : i < s.size), p ≤ i → i < q → s[i] ≠ 59)) (fun t => s.size - (intOf t).toNat)
      case atStart => exact ⟨p, rfl, Nat.le_refl _, by omega, fun i _ h1 h2 => by omega⟩
      case round =>
        obtain ⟨q, rfl, hpq, hqs, HNO⟩ := hrel
        by_cases hq1 : q < s.size ∧ ¬ (s.data.toList.getD q 0) = 59
        · obtain ⟨hq, hne0⟩ := hq1
          have hne : ¬ s[q] = 59 := fun e => hne0 (by rw [List.getD_eq_getElem?_getD, show s.data.toList[q]? = some s[q] from bl_getR hq, e]; rfl)
          have hbq : ((s[q].toNat : Int) != 59) = true := by rw [bne_iff_ne]; intro e; exact hne (UInt8.toNat_inj.1 (by show s[q].toNat = 59; omega))
          have HNO2 : Hid (∀ i (h : i < s.size), p ≤ i → i < q + 1 → s[i] ≠ 59) := fun i h h1 h2 => by
            rcases Nat.lt_or_ge i q with h3 | h3
            · exact HNO.out i h h1 h3
            · obtain rfl : i = q := by omega
              exact hne
          clear hne hne0
          go_wp2
          go_round
          case rel => exact ⟨q + 1, by go_num, by omega, by omega, HNO2⟩
          case measure => simp [intOf]; omega
        · have hend : q = s.size ∨ ∃ h : q < s.size, s[q] = 59 := by
            rcases Nat.lt_or_ge q s.size with h | h
            · right
              refine ⟨h, Classical.byContradiction fun h2 => hq1 ⟨h, fun e => h2 ?_⟩⟩
              rw [List.getD_eq_getElem?_getD, show s.data.toList[q]? = some s[q] from bl_getR h] at e
              exact e
            · left; omega
          have HPA := Lib.hid (parse_at hlt hpq hqs HNO.out hend)
          have HNO' := HNO
          clear HNO hq1
          have hcase : (∃ hh : (q < s.size), ((s[q].toNat : Int) != 59) = false) ∨ s.size ≤ q := by
            rcases hend with h | ⟨h, h2⟩
            · right; omega
            · left; exact ⟨h, by rw [h2]; rfl⟩
          clear hend HNO'
          have OW0 := Lib.hid (own_new wo #[.string ⟨#[]⟩] 9 1 rfl (by omega))
          have HCUT0 : Hid (cutAt 32 (((bl s).drop p).take (p - p)) = [] ++ [[]]) := by show _ = _; rw [Nat.sub_self]; rfl
          rcases hcase with ⟨hh, hbq⟩ | hh
          all_goals
            go_wp2
            go_loopw [7, 8] (fun v7 t wr => ∃ (k : Nat) (d : List (List UInt8)) (c : List UInt8), t = .int .i64 (k : Int) ∧ p ≤ k ∧ k ≤ q ∧ d.length ≤ k ∧ c.length ≤ k ∧ Hid (cutAt 32 (((bl s).drop p).take (k - p)) = d ++ [c]) ∧ wr.ownsRow wo.heap.size 9 1 v7 (d.length + 1) (((d ++ [c]).map mkS).map strV) ∧ Below wo.heap.size wo wr) (fun _ t _ => q - (intOf t).toNat)
            case atStart => exact ⟨p, [], [], rfl, Nat.le_refl _, hpq, Nat.zero_le _, Nat.zero_le _, HCUT0, OW0.out, bel_new _⟩
            case round =>
              obtain ⟨k, d, c, rfl, hpk, hkq, hdk, hck, HCUT, ow, hbo⟩ := hrel
              clear OW0 HCUT0
              have OW := Lib.hid ow
              have BO := Lib.hid hbo
              have hwo := hbo.size
              clear ow hbo
              by_cases hkl : k < q
              · have hks : k < s.size := by omega
                have HPS := Lib.hid (piece_snoc hpk hks)
                obtain ⟨x, hx⟩ : ∃ x, s[k] = x := ⟨_, rfl⟩
                by_cases hsp : x = 32
                · have hb32 : ((x.toNat : Int) == 32) = true := by rw [hsp]; rfl
                  have HC2 : Hid (cutAt 32 (((bl s).drop p).take (k + 1 - p)) = (d ++ [c]) ++ [[]]) := by
                    show _ = _
                    rw [HPS.out, hx]
                    exact cut_new HCUT.out hsp
                  clear hsp
                  go_wp2_with (at_builtin; refine wpList_pushS (.tmp 38) (.tmp 39) wo.heap.size _ _ (d.length + 1) ((d ++ [c]).map mkS) OW.out hwo (by omega) rfl (by rfl) (by rfl) wr.heap.size rfl (by rfl) ?_; intro v5 w5 o5 b5; have OW5 := Lib.hid o5; have BO5 := Lib.hid (BO.out.trans b5); clear o5 b5)
                  go_wp2
                  go_roundw
                  case rel => exact ⟨k + 1, d ++ [c], [], by go_num, by omega, by omega, by rw [List.length_append]; show d.length + 1 ≤ k + 1; omega, Nat.zero_le _, HC2, own_len_eq OW5.out (by rw [List.length_append]; rfl) (by simp only [List.map_append]; rfl), BO5.out⟩
                  case measure => simp [intOf]; omega
                · have hb32 : ((x.toNat : Int) == 32) = false := by rw [beq_eq_false_iff_ne]; intro e; exact hsp (UInt8.toNat_inj.1 (by show x.toNat = 32; omega))
                  have HC2 : Hid (cutAt 32 (((bl s).drop p).take (k + 1 - p)) = d ++ [c ++ [x]]) := by
                    show _ = _
                    rw [HPS.out, hx]
                    exact cut_more HCUT.out hsp
                  obtain ⟨g, cv5, rfl, hBg, hgl, k5, k5', hc5⟩ := own_at OW.out (by omega)
                  have hcl : wr.cell? ⟨g, d.length, none⟩ = some (.string (mkS c)) := hc5 _ _ (by simp [strV])
                  obtain ⟨f0, _, hS, _⟩ := own_setn OW.out d.length (by omega) (.string (mkS c ++ s.extract k (k + 1)))
                  have ht1 : bl (s.extract k (k + 1)) = [x] := by rw [bl_one s k hks, hx]
                  have hes : (s.extract k (k + 1)).size = 1 := by rw [← bl_len, ht1]; rfl
                  have HEX : Hid (s.extract k (k + 1) = mkS [x]) := by show _ = _; rw [← ht1, mkS_bl]
                  have hcz : (mkS c).size ≤ k := by rw [mkS_size]; exact hck
                  have OF : Hid ((wr.setCell ⟨g, d.length, none⟩ (.string (mkS c ++ s.extract k (k + 1)))).drew.ownsRow wo.heap.size 9 1 (.slice (some ⟨g, 0, none⟩) (d.length + 1) cv5) (d.length + 1) (((d ++ [c ++ [x]]).map mkS).map strV)) := own_len_eq hS rfl (set_moreR d c [x] _ _ rfl HEX.out)
                  have BF : Hid (Below wo.heap.size wo (wr.setCell ⟨g, d.length, none⟩ (.string (mkS c ++ s.extract k (k + 1)))).drew) := (BO.out.setCell (p := ⟨g, d.length, none⟩) hBg _).drew
                  clear hc5 hS ht1 hsp OW
                  have j1 : IntKind.i64.wrap ((d.length : Int) + 1 - 1) = (d.length : Int) := by rw [show ((d.length : Int) + 1 - 1) = (d.length : Int) by omega]; exact IntWalk.i64_in _ (by omega)
                  have j2 : IntKind.i64.wrap ((k : Int) + 1) = (k : Int) + 1 := IntWalk.i64_in _ (by omega)
                  have j3 : IntKind.i64.wrap (d.length : Int) = (d.length : Int) := IntWalk.i64_in _ (by omega)
                  have j4 : (0 : Int) ≤ (d.length : Int) := by omega
                  have j5 : (d.length : Int) < (d.length : Int) + 1 := by omega
                  have j6 : (k : Int) ≤ (k : Int) + 1 := by omega
                  have j7 : (k : Int) + 1 ≤ (s.size : Int) := by omega
                  have j8 : ((k : Int) + 1).toNat = k + 1 := by omega
                  have j9 : (0 : Int) ≤ (k : Int) + 1 := by omega
                  go_wp2
                  go_region
                  go_wp2
                  go_roundw
                  case rel => exact ⟨k + 1, d, c ++ [x], by go_num, by omega, by omega, by omega, by rw [List.length_append]; show c.length + 1 ≤ k + 1; omega, HC2, OF.out, BF.out⟩
                  case measure => simp [intOf]; omega
              · obtain rfl : k = q := by omega
                obtain ⟨bw, cw, cur, hv7, hbw, hcell, hncw, hcw', hcur⟩ := row_cur OW.out (by omega)
                subst hv7
                obtain ⟨nw, hnw⟩ : ∃ nw, d.length + 1 = nw := ⟨_, rfl⟩
                have HWL : Hid ((d ++ [c]).length = nw) := by show _ = _; rw [List.length_append]; exact hnw
                have HCUR : Hid (∀ (i : Nat) (h : i < ((d ++ [c]).map mkS).length), cur[i]? = some (.string ((d ++ [c]).map mkS)[i])) := fun i h => hcur i _ (by rw [List.getElem?_map, List.getElem?_eq_getElem h]; rfl)
                have hw1 : 1 ≤ nw := by omega
                obtain ⟨K, hK⟩ : ∃ K, mkS ((d ++ [c]).headD []) = K := ⟨_, rfl⟩
                have hw0 : wr.cell? ⟨bw, 0, none⟩ = some (.string K) := by
                  rw [cell_of_row wr bw 0 _ _ _ hcell, HCUR.out 0 (by rw [List.length_map, HWL.out]; omega), List.getElem_map, ← hK]
                  exact congrArg (fun x => some (Value.string (mkS x))) (headD_get (by rw [HWL.out]; omega))
                obtain ⟨fa, fn, fc, hT⟩ : ∃ fa fn fc, tail1 bw nw cw = .slice fa fn fc := by
                  unfold tail1; split <;> exact ⟨_, _, _, rfl⟩
                have HT := Lib.hid hT
                have HSUB : Hid (SubS wr wo.heap.size bw (.slice fa fn fc) (mkSrc (d ++ [c])).F) := by
                  have := sub_tail (W := (d ++ [c]).map mkS) (c := cw) hT (by rw [List.length_map, HWL.out]) hw1 (by omega) hcw' hcell HCUR.out
                  rw [← List.map_tail] at this
                  obtain ⟨o, cc, cu, t1, t2, t3⟩ := this
                  exact ⟨o, cc, cu, t1, hbw, t3⟩
                have HKK : Hid ((mkSrc (d ++ [c])).K = K) := hK
                have OS3 := Lib.hid (ownN_below OS.out BO.out)
                have HQ3 : Hid (∀ q : Nat, u4.ownBlock = some q → w.heap.size ≤ q ∧ q < wo.heap.size) := fun q hq => ownN_ge OS.out q hq
                have hbwN : u4.ownBlock ≠ some bw := fun e => by have := HQ3.out bw e; omega
                have B3 : Hid (Below w.heap.size w wr) := BW.out.trans (BO.out.mono hws)
                have HKS : Hid (KeepStr wo wr) := KeepStr.of_below BO.out
                have HPA2 : Hid (parse ((bl s).drop p) = mkSrc (d ++ [c]) :: parse ((bl s).drop (k + 2))) := by show _ = _; rw [HPA.out, HCUT.out]
                have hwr : wo.heap.size ≤ wr.heap.size := hwo
                generalize hsrc : mkSrc (d ++ [c]) = src at *
                rw [hnw]
                clear hT hcell hcur HCUR HCUT OW HPA hbw
                go_wp2
                obtain ⟨H, hHH⟩ : ∃ H, wr.heap.size = H := ⟨_, rfl⟩
                have hHs : wr.drew.heap.size = H := hHH
                have HQ : Hid (∀ q : Nat, u4.ownBlock = some q → q < H) := fun q hq => by have := HQ3.out q hq; omega
                refine wp_region_any (by kernel_rfl) ?_
                rename_i KK hKK
                refine region_free (putSlot H w.heap.size nn bw nw cw u4 l K fa fn fc) (GPut H w.heap.size nn u4 l wr) 80 10 (by kernel_rfl) (Nat.le_refl 80) (by kernel_rfl) rfl rfl (by decide) ?start ?step ?done
                case start => exact ⟨grown_drewN (grown_refl _ _) 1, Nat.le_of_eq hHs.symm, fun _ => OS3.out, (by intro e; cases e)⟩
                case step =>
                  intro i o ho listed wx a hls hli hdp hG hD KC hK
                  have hlt : i < 10 := by have := (Array.getElem?_eq_some_iff.1 ho).1; simpa using this
                  rcases (show i = 0 ∨ i = 1 ∨ i = 2 ∨ i = 3 ∨ i = 4 ∨ i = 5 ∨ i = 6 ∨ i = 7 ∨ i = 8 ∨ i = 9 by omega) with rfl | rfl | rfl | rfl | rfl | rfl | rfl | rfl | rfl | rfl
                  · have h4 := hD.old 4 (by kernel_rfl)
                    obtain rfl := Option.some.inj ho
                    clear hD
                    unfold Oper.wp
                    simp [execOp, Act.eval, h4]
                    exact hK _ _ (.inr rfl) (fun _ _ _ _ h => h) (hG.keep (by decide) (grown_refl _ _))
                  · have h7 := hD.old 7 (by kernel_rfl)
                    obtain rfl := Option.some.inj ho
                    clear hD
                    unfold Oper.wp
                    simp [execOp, Act.eval, h7]
                    exact hK _ _ (.inr rfl) (fun _ _ _ _ h => h) (hG.keep (by decide) (grown_refl _ _))
                  · obtain ⟨v1, s1, rfl⟩ := hD.dep 1 59 rfl rfl (by obtain rfl := Option.some.inj ho; kernel_rfl)
                    obtain rfl := Option.some.inj ho
                    clear hD
                    unfold Oper.wp
                    simp [execOp, Act.eval, s1]
                    go_simp
                    (try rw [if_pos (by omega)])
                    exact hK _ _ (.inr rfl) (fun _ _ _ _ h => h) (hG.keep (by decide) (grown_refl _ _))
                  · obtain ⟨v2, s2, rfl⟩ := hD.dep 2 60 rfl rfl (by obtain rfl := Option.some.inj ho; kernel_rfl)
                    obtain rfl := Option.some.inj ho
                    clear hD
                    have hcc := hG.word hbwN hw0
                    unfold Oper.wp
                    simp [execOp, Act.eval, s2]
                    go_simp
                    exact hK _ _ (.inr rfl) (fun _ _ _ _ h => h) (hG.keep (by decide) (grown_refl _ _))
                  · have h7 := hD.old 7 (by kernel_rfl)
                    obtain rfl := Option.some.inj ho
                    clear hD
                    unfold Oper.wp
                    simp [execOp, Act.eval, h7]
                    exact hK _ _ (.inr rfl) (fun _ _ _ _ h => h) (hG.keep (by decide) (grown_refl _ _))
                  · obtain ⟨v4, s4, rfl⟩ := hD.dep 4 62 rfl rfl (by obtain rfl := Option.some.inj ho; kernel_rfl)
                    obtain rfl := Option.some.inj ho
                    clear hD
                    by_cases hc1 : cw = 1
                    · have hn1 : nw = 1 := by omega
                      subst hc1
                      subst hn1
                      obtain ⟨rfl, rfl, rfl⟩ : fa = some ⟨bw, 0, none⟩ ∧ fn = 0 ∧ fc = 0 := by have := HT.out; unfold tail1 at this; rw [if_pos rfl] at this; injection this with e1 e2 e3; exact ⟨e1.symm, e2.symm, e3.symm⟩
                      unfold Oper.wp
                      simp [execOp, Act.eval, s4]
                      go_simp
                      (try rw [if_pos (by omega)])
                      (try rw [if_pos (by omega)])
                      exact hK _ _ (.inr rfl) (fun _ _ _ _ h => h) (hG.keep (by decide) (grown_refl _ _))
                    · obtain ⟨rfl, rfl, rfl⟩ : fa = some ⟨bw, 1, none⟩ ∧ fn = nw - 1 ∧ fc = cw - 1 := by have := HT.out; unfold tail1 at this; rw [if_neg hc1] at this; injection this with e1 e2 e3; exact ⟨e1.symm, e2.symm, e3.symm⟩
                      unfold Oper.wp
                      simp [execOp, Act.eval, s4]
                      go_simp
                      (try rw [if_pos (by omega)])
                      (try rw [if_pos (by omega)])
                      exact hK _ _ (.inr rfl) (fun _ _ _ _ h => h) (hG.keep (by decide) (grown_refl _ _))
                  · obtain ⟨v3, s3, rfl⟩ := hD.dep 3 61 rfl rfl (by obtain rfl := Option.some.inj ho; kernel_rfl)
                    obtain ⟨v5, s5, rfl⟩ := hD.dep 5 63 rfl rfl (by obtain rfl := Option.some.inj ho; kernel_rfl)
                    obtain rfl := Option.some.inj ho
                    clear hD
                    unfold Oper.wp
                    simp [execOp, Act.eval, s3, s5]
                    go_simp
                    exact hK _ _ (.inr rfl) (fun _ _ _ _ h => h) (hG.keep (by decide) (grown_refl _ _))
                  · obtain ⟨v6, s6, rfl⟩ := hD.dep 6 64 rfl rfl (by obtain rfl := Option.some.inj ho; kernel_rfl)
                    obtain rfl := Option.some.inj ho
                    clear hD
                    unfold Oper.wp
                    simp [execOp, Act.eval, s6]
                    go_simp
                    exact hK _ _ (.inr ⟨_, hG.2.1, rfl, heap_alloc_new _ _⟩) (fun j u _ _ h => put_kept (KeepFrom.of_grown (World.grownBy_alloc _ _ none) (by intro j e; cases e)) (fun v n l o => ownN_below o (bel_new _)) j u h) (hG.keep (by decide) (World.grownBy_alloc _ _ _))
                  · obtain ⟨v0, s0, hv0⟩ := hD.dep 0 58 rfl rfl (by obtain rfl := Option.some.inj ho; kernel_rfl)
                    rw [show v0 = _ from hv0] at s0
                    obtain ⟨v7, s7, b7, hb7, rfl, hc7⟩ := hD.dep 7 65 rfl rfl (by obtain rfl := Option.some.inj ho; kernel_rfl)
                    obtain rfl := Option.some.inj ho
                    clear hD
                    have own := hG.2.2.1 hli
                    refine oper_pushSrc2 (.tmp 58) (.tmp 65) _ _ _ l K fa fn fc own (by have := hG.2.1; omega) (by omega) b7 hc7 rfl (by simp [Act.eval, s0]) (by simp [Act.eval, s7]) ?_
                    intro v' w' o' g'
                    exact hK _ _ (.inr o') (fun j u hj hl h => put_kept8 (KeepFrom.of_grown g' HQ.out) j u hj (fun e => by subst e; have := hG.2.2.2 hl; rw [hli] at this; cases this) h) (hG.push g')
                  · obtain ⟨v8, s8, own⟩ := hD.dep 8 66 rfl rfl (by obtain rfl := Option.some.inj ho; kernel_rfl)
                    have h8 := hdp 8 (by obtain rfl := Option.some.inj ho; kernel_rfl)
                    obtain rfl := Option.some.inj ho
                    clear hD
                    unfold Oper.wp
                    simp [execOp, Act.eval, s8]
                    exact hK _ _ (.inr own) (fun _ _ _ _ h => h) (hG.last h8)
                case done =>
                  intro listed a wx hall hd hsz hold hdst hG
                  obtain ⟨v4, h4, own4⟩ := hdst 9 4 _ rfl rfl
                  have hf := act_frame [58, 59, 60, 61, 62, 63, 64, 65, 66, 4] (by kernel_rfl) hd hsz hold
                  have e4 : a.tmps.getD 4 undef = v4 := by rw [Array.getD_eq_getD_getElem?, h4]; rfl
                  simp only [List.foldl_cons, List.foldl_nil] at hf
                  rw [e4] at hf
                  have HG := Lib.hid hG.1
                  have OS5 := Lib.hid own4
                  clear hall hd hsz hold hdst hG own4 h4 e4
                  generalize a.tmps.getD 58 undef = y58, a.tmps.getD 59 undef = y59, a.tmps.getD 60 undef = y60, a.tmps.getD 61 undef = y61, a.tmps.getD 62 undef = y62, a.tmps.getD 63 undef = y63, a.tmps.getD 64 undef = y64, a.tmps.getD 65 undef = y65, a.tmps.getD 66 undef = y66 at hf
                  refine hKK _ _ ?_
                  rw [hf]
                  clear hf
                  have ks := KeepStr.of_src OS3.out HG.out
                  have HL5 : Hid (SrcD wx w.heap.size (l ++ [(K, .slice fa fn fc)]) (S ++ [src])) := by
                    have h1 := SrcD.snoc (K := K) (HKS.out.trans ks) (HSUB.out.keep ks) l S _ hws HL.out
                    obtain ⟨sK, sF⟩ := src
                    rw [← show sK = K from HKK.out] at h1 ⊢
                    exact h1
                  have HS5 : Hid ((S ++ [src]) ++ parse ((bl s).drop (k + 2)) = parse (bl s)) := by
                    show _ = _
                    rw [← HS.out, HPA2.out, List.append_assoc]; rfl
                  have HSL5 : Hid ((S ++ [src]).length = nn + 1) := by show _ = _; rw [List.length_append, HSL.out]; rfl
                  have BX : Hid (Below w.heap.size w wx) := B3.out.grown HG.out B3.out.size (fun q hq => (HQ3.out q hq).1)
                  clear ks
                  go_wp2
                  go_roundw
                  case rel => exact ⟨k + 2, nn + 1, _, _, by go_num, by omega, by omega, HSL5, OS5.out, HL5, HS5, BX.out⟩
                  case measure => simp [intOf]; omega
    · have HSP : Hid (S = parse (bl s)) := by
        have := HS.out
        rwa [List.drop_eq_nil_of_le (by rw [bl_len]; omega), parse_nil, List.append_nil] at this
      have HYES := Lib.hid (@readR_yes (bl s)); have HNO := Lib.hid (@readR_no (bl s))
      obtain ⟨a5, c5, hv5, hc5, hc5', hat⟩ := srcs_ownD OS.out HL.out HSL.out
      have AT := Lib.hid (hat.mono (Nat.zero_le _))
      have HSO : Hid (∀ t ∈ S, SrcOk 1048576 t) := fun t ht => by
        rw [HSP.out] at ht
        obtain ⟨y, hy, rfl⟩ := (parse_le _ (bl s) (Nat.le_refl _)).2 t ht
        rw [bl_len] at hy
        exact mkSrc_ok (by omega)
      have CV := Lib.hid (fun W h => spec_SourcesValid a5 nn c5 S W h HSL.out (by omega) HSO.out)
      have CT := Lib.hid (fun W h => spec_SourcesText a5 nn c5 S W h HSL.out (by omega) HSO.out)
      rw [← HSP.out] at HYES HNO
      have hRO : readOk S (bl s) = (validB S && decide (srcTxt S = s)) := by
        rw [readOk]
        congr 1
        rw [decide_eq_decide]
        exact ⟨fun e => bl_inj e, fun e => by rw [e]⟩
      rw [hRO] at HYES HNO
      have htl := tl_yn (srcTxt S) s
      subst hv5
      clear hat HS HSP hRO
      rcases hv : validB S with _ | _
      · rw [hv] at CV HNO
        have HR := Lib.hid (HNO.out rfl)
        go_wp2_with fail
        refine (CV.out _ AT.out).mono ?_
        rintro e w6 ⟨rfl, b6⟩
        have B6 := Lib.hid (BW.out.trans (b6.mono BW.out.size))
        have O6 := Lib.hid (ownN_mono (ownN_new w6 #[] 40 2 0 rfl (by omega)) B6.out.size)
        clear b6
        go_wp2
        go_ret2
        rw [HR.out]
        exact ⟨_, [], rfl, O6.out, True.intro, B6.out.alloc B6.out.size _⟩
      · rw [hv] at CV HNO HYES
        rcases hd : decide (srcTxt S = s) with _ | _
        · rw [hd] at HNO htl
          have HR := Lib.hid (HNO.out rfl)
          clear HYES HNO
          go_wp2_with fail
          refine (CV.out _ AT.out).mono ?_
          rintro e w6 ⟨rfl, b6⟩
          have B6 := Lib.hid (BW.out.trans (b6.mono BW.out.size))
          have AT6 := Lib.hid (AT.out.below b6)
          clear b6
          go_wp2_with fail
          refine (CT.out _ AT6.out).mono ?_
          rintro e w7 ⟨rfl, b7⟩
          have B7 := Lib.hid (B6.out.trans (b7.mono B6.out.size))
          have O7 := Lib.hid (ownN_mono (ownN_new w7 #[] 40 2 0 rfl (by omega)) B7.out.size)
          clear b7
          generalize srcTxt S = y at *
          go_wp2
          go_ret2
          rw [HR.out]
          exact ⟨_, [], rfl, O7.out, True.intro, B7.out.alloc B7.out.size _⟩
        · rw [hd] at HYES htl
          have HR := Lib.hid (HYES.out rfl)
          clear HYES HNO
          go_wp2_with fail
          refine (CV.out _ AT.out).mono ?_
          rintro e w6 ⟨rfl, b6⟩
          have B6 := Lib.hid (BW.out.trans (b6.mono BW.out.size))
          have AT6 := Lib.hid (AT.out.below b6)
          have OS6 := Lib.hid (ownN_below OS.out b6)
          have HL6 := Lib.hid (SrcD.keep (KeepStr.of_below b6) _ _ _ HL.out)
          clear b6
          go_wp2_with fail
          refine (CT.out _ AT6.out).mono ?_
          rintro e w7 ⟨rfl, b7⟩
          have B7 := Lib.hid (B6.out.trans (b7.mono B6.out.size))
          have OS7 := Lib.hid (ownN_below OS6.out b7)
          have HL7 := Lib.hid (SrcD.keep (KeepStr.of_below b7) _ _ _ HL6.out)
          clear b7
          generalize srcTxt S = y at *
          go_wp2
          go_ret2
          rw [HR.out]
          exact ⟨_, l, rfl, len2 OS7.out HSL.out.symm, HL7.out, B7.out⟩
end Go.Proofs.YtpplagecancccaaDoor
