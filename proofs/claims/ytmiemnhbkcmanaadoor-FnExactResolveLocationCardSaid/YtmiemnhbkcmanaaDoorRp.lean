/- Queries read back, by the program. -/
import Derived.Test.YtmiemnhbkcmanaaDoorAsk
import Derived.Test.YtmiemnhbkcmanaaDoorUnp
import Derived.Test.YtmiemnhbkcmanaaDoorSpl
namespace Go.Proofs.YtmiemnhbkcmanaaDoor
open Go.RowKit

theorem pctB_free : ∀ b : UInt8, 38 ∉ pctB b := byte_allW (p := fun b => 38 ∉ pctB b) (by decide +kernel)
theorem nameC_free : ∀ b : UInt8, nameC b = true → b ≠ 38 ∧ b ≠ 61 := byte_allW (p := fun b => nameC b = true → b ≠ 38 ∧ b ≠ 61) (by decide +kernel)
theorem escP_free (l : List UInt8) : 38 ∉ escP l := by
  intro h
  obtain ⟨b, _, hb⟩ := List.mem_flatMap.1 h
  exact pctB_free b hb
theorem name_free {l : List UInt8} (h : nameB l = true) : 38 ∉ l ∧ 61 ∉ l := by
  unfold nameB at h
  rw [Bool.and_eq_true, List.all_eq_true] at h
  exact ⟨fun hm => (nameC_free _ (h.2 _ hm)).1 rfl, fun hm => (nameC_free _ (h.2 _ hm)).2 rfl⟩
theorem pair_name {x : ByteArray × ByteArray} (h : pairB x = true) : nameB (bl x.1) = true := by
  unfold pairB at h
  rw [Bool.and_eq_true] at h
  exact h.1
theorem askV_pair {P : List (ByteArray × ByteArray)} (h : askV P = true) : ∀ x ∈ P, pairB x = true := by
  unfold askV at h
  rw [Bool.and_eq_true, List.all_eq_true] at h
  exact h.2
theorem piece_free {x : ByteArray × ByteArray} (h : pairB x = true) : 38 ∉ pieceP x := by
  unfold pieceP
  rw [List.mem_append, List.mem_cons]
  rintro (h1 | h1 | h1)
  · exact (name_free (pair_name h)).1 h1
  · cases h1
  · exact escP_free _ h1
theorem ask_parts {Q : List (ByteArray × ByteArray)} {l : List UInt8} (hQ : askV Q = true) (hJ : askJ Q = l) (hl : l ≠ []) : Q.map pieceP = cutAt 38 l := by
  rw [← hJ]
  have hne : Q ≠ [] := by rintro rfl; exact hl hJ.symm
  unfold askJ
  rw [cutAt_join (by simpa using hne)]
  intro x hx
  obtain ⟨y, hy, rfl⟩ := List.mem_map.1 hx
  exact piece_free (askV_pair hQ y hy)
theorem ask_cut {x : ByteArray × ByteArray} (h : pairB x = true) : Lib.cut (pieceP x) [61] = (bl x.1, escP (bl x.2), true) := cut_pre 61 [] (escP (bl x.2)) (bl x.1) (name_free (pair_name h)).2
open Classical in
/-- A text is the text of a valid list of pairs. -/
noncomputable def askB (l : List UInt8) : Bool := if ∃ Q, askV Q = true ∧ askJ Q = l then true else false
theorem askB_yes {l : List UInt8} {Q : List (ByteArray × ByteArray)} (h : askV Q = true) (h2 : askJ Q = l) : askB l = true := by
  unfold askB
  rw [if_pos ⟨Q, h, h2⟩]
theorem askB_no {l : List UInt8} (h : ∀ Q, askV Q = true → askJ Q ≠ l) : askB l = false := by
  unfold askB
  rw [if_neg (fun ⟨Q, h1, h2⟩ => h Q h1 h2)]
theorem ret_nilP {v v' : Value} {b b' : Bool} (h : v = v') (h' : b = b') : Ending.returned (.tuple #[v, .bool b]) = .returned (.tuple #[v', .bool b']) := by rw [h, h']
/-- What a reader of pairs returns. -/
def RpPost (s : ByteArray) (w : World) (e : Ending) (w' : World) : Prop :=
  ∃ v ok P, e = .returned (.tuple #[v, .bool ok]) ∧ (ok = true → w'.ownsRow w.heap.size 60 2 v P.length (pairC P) ∧ P.length ≤ 2097152 ∧ ∀ x ∈ P, x.1.size ≤ 1048576 ∧ x.2.size ≤ 1048576) ∧ (∀ Q, askV Q = true → askJ Q = bl s → ok = true ∧ P = Q) ∧ Below w.heap.size w w'

set_option maxRecDepth 100000 in
set_option maxHeartbeats 3200000 in
theorem impl_readPairs (s : ByteArray) (w : World) (hm : MaxOk w) (hs : s.size ≤ 1048576) :
    Calls Tryd.prog 47 #[.string s, .string ⟨#[38]⟩] w (RpPost s w) := by
  have HMx := Lib.hid hm
  by_cases h0 : s.size = 0
  · have hs0 : s = ⟨#[]⟩ := by apply bl_inj; exact List.eq_nil_of_length_eq_zero (by rw [bl_len]; exact h0)
    subst hs0
    clear h0
    go_enter Tryd.func47, Tryd.ntmps47
    go_wp2
    go_ret2
    refine ⟨_, true, [], rfl, fun _ => ⟨ownN_new w #[] 60 2 0 rfl (by omega), Nat.zero_le _, fun x h => by cases h⟩, fun Q hQ hJ => ⟨rfl, ?_⟩, (Below.refl _ _).alloc (Nat.le_refl _) _⟩
    rcases Q with _ | ⟨x, r⟩
    · rfl
    · have := congrArg List.length hJ
      unfold askJ at this
      rw [List.map_cons, Lib.join_cons, List.length_append, pieceP, List.length_append, List.length_cons] at this
      have h2 : (bl ⟨#[]⟩).length = 0 := rfl
      omega
  have hne : (s.toList == ([] : List UInt8)) = false := by
    rw [beq_eq_false_iff_ne, ByteArray.toList_eq]
    intro e
    exact h0 (by rw [← bl_len]; exact congrArg List.length e)
  have hne2 : (s.toList.isEmpty) = false := by rw [ByteArray.toList_eq]; rcases hb : s.data.toList with _ | _; exact absurd (by rw [← bl_len]; exact congrArg List.length hb) h0; rfl
  have HPA : Hid (∀ Q, askV Q = true → askJ Q = bl s → Q.map pieceP = cutAt 38 (bl s)) := fun Q hQ hJ => ask_parts hQ hJ (fun e => h0 (by rw [← bl_len, e]; rfl))
  have HLn := Lib.hid (cutAt_len 38 s)
  have HLm : Hid (∀ x ∈ cutAt 38 (bl s), x.length ≤ 1048576) := fun x hx => Nat.le_trans (cutAt_mem 38 _ x hx) (by rw [bl_len]; exact hs)
  have CSP := Lib.hid (fun W hW => splitP_at s 38 W hW (by omega))
  clear h0 hm
  obtain ⟨L, hL⟩ : ∃ L, L = cutAt 38 (bl s) := ⟨_, rfl⟩
  rw [← hL] at HPA HLn HLm CSP
  clear hL
  obtain ⟨n, hn⟩ : ∃ n, n = L.length := ⟨_, rfl⟩
  rw [← hn] at HLn CSP
  have HN := Lib.hid hn
  have hn1 := HLn.out.1
  have hn2 := HLn.out.2
  clear hn HLn
  go_enter Tryd.func47, Tryd.ntmps47
  go_wp2_with fail
  have O0 := Lib.hid (ownN_new w #[] 60 2 0 rfl (by omega))
  have b0 : Below w.heap.size w (w.alloc (.cells #[] 60 (0, 0))) := (Below.refl _ _).alloc (Nat.le_refl _) _
  refine (CSP.out _ (HMx.out.below b0)).mono ?_
  rintro e w1 ⟨vp, rfl, op, b1⟩
  have hs0 := b0.size
  have B1 := Lib.hid (b0.trans (b1.mono hs0))
  have OP := Lib.hid (own_mono op hs0)
  have O1 := Lib.hid (ownN_below O0.out b1)
  obtain ⟨pb, pc, rfl, _, _, kp, kp', _⟩ := own_at op (by omega)
  clear b0 b1 op hs0 O0
  go_wp2
  go_loopw [6, 22] (fun v t wr => ∃ (k : Nat) (P : List (ByteArray × ByteArray)), k ≤ n ∧ t = .int .i64 (k : Int) ∧ P.length = k ∧ wr.ownsRow w.heap.size 60 2 v k (pairC P) ∧ wr.ownsRow w.heap.size 9 1 (.slice (some ⟨pb, 0, none⟩) n pc) n ((L.map mkS).map strV) ∧ Hid (∀ Q, askV Q = true → askJ Q = bl s → P = Q.take k) ∧ Hid (∀ x ∈ P, x.1.size ≤ 1048576 ∧ x.2.size ≤ 1048576) ∧ Below w.heap.size w wr) (fun _ t _ => n - (intOf t).toNat)
  case atStart => exact ⟨0, [], Nat.zero_le _, rfl, rfl, O1.out, OP.out, fun Q _ _ => rfl, fun x h => (by cases h), B1.out⟩
  case round =>
    clear O1 OP B1
    obtain ⟨k, P, hk, rfl, hP, own, op, HQ, HZ, hb⟩ := hrel
    have O2 := Lib.hid own; have OP := Lib.hid op; have B2 := Lib.hid hb; have HP := Lib.hid hP
    have hwr := hb.size
    obtain ⟨a2, c2, rfl, _, kv2, kv2', _⟩ := ownN_formn own
    have MX := Lib.hid (HMx.out.below B2.out)
    clear own hb hP
    by_cases hkn : k < n
    · have hkL : k < L.length := by rw [← HN.out]; exact hkn
      obtain ⟨g, c, hv, _, hlt, _, _, hcell⟩ := own_at op (by omega)
      injection hv with hv1 hv2 hv3
      injection hv1 with hv1
      injection hv1 with hv1
      subst hv1; subst hv3
      clear op hv2
      have hc1 := hcell k (.string (mkS L[k])) (by simp [strV, hkL])
      clear hcell
      have hyl : (mkS L[k]).size ≤ 1048576 := by rw [mkS_size]; exact HLm.out _ (List.getElem_mem hkL)
      have HS : Hid (∀ Q, askV Q = true → askJ Q = bl s → ∃ hq : k < Q.length, Lib.cut (bl (mkS L[k])) [61] = (bl Q[k].1, escP (bl Q[k].2), true)) := fun Q hQ hJ => by
        have h1 := HPA.out Q hQ hJ
        have hq : k < Q.length := by have := congrArg List.length h1; rw [List.length_map] at this; omega
        refine ⟨hq, ?_⟩
        have h2 : L[k] = pieceP Q[k] := by
          have h3 : (Q.map pieceP)[k]'(by rw [List.length_map]; exact hq) = L[k] := by congr 1
          rw [← h3, List.getElem_map]
        rw [bl_mkS, h2]
        exact ask_cut (askV_pair hQ _ (List.getElem_mem hq))
      generalize mkS L[k] = y at hc1 hyl HS
      have CC := Lib.hid (fun W hW => cut_any y ⟨#[61]⟩ W hW (by omega))
      have hbs : bl ⟨#[61]⟩ = [61] := rfl
      rw [hbs] at CC
      clear hbs
      have hcl := cut_le (bl y) [61]
      rw [bl_len] at hcl
      generalize Lib.cut (bl y) [61] = r at *
      obtain ⟨nm, rs, is⟩ := r
      have hcl1 : nm.length ≤ 1048576 := by have := hcl.1; simp only at this; omega
      have hcl2 : rs.length ≤ 1048576 := by have := hcl.2; simp only at this; omega
      clear hcl
      have CU := Lib.hid (fun W => impl_UnescapePart (mkS rs) W (by rw [mkS_size]; omega))
      rw [bl_mkS] at CU
      have hul := unP_le rs
      have HU : Hid (∀ t', rs = escP t' → unP rs = (t', true)) := fun t' h => unP_yes h.symm
      generalize unP rs = u at *
      obtain ⟨t, ok⟩ := u
      have htl : t.length ≤ 1048576 := by simp only at hul; omega
      clear hul
      rcases is with _ | _
      case false =>
        have HR : Hid (∀ Q, askV Q = true → askJ Q = bl s → False) := fun Q h1 h2 => by
          obtain ⟨_, e⟩ := HS.out Q h1 h2
          simp at e
        go_wp2_with fail
        refine (CC.out _ MX.out).mono ?_
        rintro e w2 ⟨rfl, q2, rfl⟩
        go_wp2_with fail
        refine (CU.out _).mono ?_
        rintro e w3 ⟨rfl, b3⟩
        have B3 := Lib.hid ((below_drewN B2.out q2).trans (b3.mono hwr))
        clear b3
        go_wp2
        go_ret2
        exact ⟨_, false, [], rfl, fun h => (by cases h), fun Q h1 h2 => (HR.out Q h1 h2).elim, B3.out⟩
      rcases ok with _ | _
      case false =>
        have HR : Hid (∀ Q, askV Q = true → askJ Q = bl s → False) := fun Q h1 h2 => by
          obtain ⟨_, e⟩ := HS.out Q h1 h2
          simp only [Prod.mk.injEq] at e
          have := HU.out _ e.2.1
          simp at this
        go_wp2_with fail
        refine (CC.out _ MX.out).mono ?_
        rintro e w2 ⟨rfl, q2, rfl⟩
        go_wp2_with fail
        refine (CU.out _).mono ?_
        rintro e w3 ⟨rfl, b3⟩
        have B3 := Lib.hid ((below_drewN B2.out q2).trans (b3.mono hwr))
        clear b3
        go_wp2
        go_ret2
        exact ⟨_, false, [], rfl, fun h => (by cases h), fun Q h1 h2 => (HR.out Q h1 h2).elim, B3.out⟩
      have HQ2 : Hid (∀ Q, askV Q = true → askJ Q = bl s → P ++ [(mkS nm, mkS t)] = Q.take (k + 1)) := fun Q h1 h2 => by
        obtain ⟨hq, e⟩ := HS.out Q h1 h2
        simp only [Prod.mk.injEq] at e
        have h3 := HU.out _ e.2.1
        simp only [Prod.mk.injEq] at h3
        rw [take_snocP hq, ← HQ.out Q h1 h2, e.1, h3.1, mkS_bl, mkS_bl]
      have HZ2 : Hid (∀ x ∈ P ++ [(mkS nm, mkS t)], x.1.size ≤ 1048576 ∧ x.2.size ≤ 1048576) := fun x hx => by
        rcases List.mem_append.1 hx with h | h
        · exact HZ.out x h
        · rw [List.mem_singleton.1 h]
          simp only [mkS_size]
          omega
      have HP2 : Hid ((P ++ [(mkS nm, mkS t)]).length = k + 1) := by show _ = _; rw [List.length_append, HP.out]; rfl
      go_wp2_with fail
      refine (CC.out _ MX.out).mono ?_
      rintro e w2 ⟨rfl, q2, rfl⟩
      go_wp2_with fail
      refine (CU.out _).mono ?_
      rintro e w3 ⟨rfl, b3⟩
      have bq : Below wr.heap.size wr w3 := (below_drewN (Below.refl _ _) q2).trans (b3.mono (Nat.le_refl _))
      have B3 := Lib.hid (B2.out.trans (bq.mono hwr))
      have O3 := Lib.hid (ownN_below O2.out bq)
      have OP3 := Lib.hid (own_below OP.out bq)
      have hw3 := B3.out.size
      clear b3 bq
      go_wp2_with (at_builtin; refine wpList_pushPair (.tmp 43) (.tmp 47) w.heap.size (mkS nm, mkS t) _ k P O3.out hw3 (by omega) rfl (by rfl) (by rfl) w3.heap.size rfl (by rfl) ?_; intro v5 w5 o5 g5; have O5 := Lib.hid o5; have OP5 := Lib.hid (ownN_other OP3.out g5 (fun q hq e => ownN_types_ne OP3.out O3.out (by decide) q hq e)); have B5 := Lib.hid (B3.out.grown g5 hw3 (fun q hq => (ownN_ge O3.out q hq).1)); clear o5 g5)
      go_roundw
      case rel => exact ⟨k + 1, P ++ [(mkS nm, mkS t)], by omega, by go_num, HP2.out, O5.out, OP5.out, HQ2, HZ2, B5.out⟩
      case measure => simp [intOf]; omega
    · obtain rfl : k = n := by omega
      go_wp2
      go_ret2
      refine ⟨_, true, P, rfl, fun _ => ⟨by rw [HP.out]; exact O2.out, by rw [HP.out]; omega, HZ.out⟩, fun Q h1 h2 => ⟨rfl, ?_⟩, B2.out⟩
      have h3 := congrArg List.length (HPA.out Q h1 h2)
      rw [List.length_map, ← HN.out] at h3
      rw [HQ.out Q h1 h2, List.take_of_length_le (by omega)]

set_option maxRecDepth 100000 in
set_option maxHeartbeats 1600000 in
theorem impl_ReadAsked (s : ByteArray) (w : World) (hm : MaxOk w) (hs : s.size ≤ 1048576) :
    Calls Tryd.prog 34 #[.string s] w fun e w' => (∃ v, e = .returned (.tuple #[v, .bool (askB (bl s))])) ∧ Below w.heap.size w w' := by
  have CR := Lib.hid (impl_readPairs s w hm hs)
  go_enter Tryd.func34, Tryd.ntmps34
  go_wp2_with fail
  refine CR.out.mono ?_
  rintro e w1 ⟨v, ok, P, rfl, ho, hq, b1⟩
  have HQ := Lib.hid hq
  have B1 := Lib.hid b1
  clear hq b1
  rcases ok with _ | _
  · have HR : Hid (askB (bl s) = false) := askB_no (fun Q h1 h2 => by have := (HQ.out Q h1 h2).1; cases this)
    clear ho
    go_wp2
    go_ret2
    exact ⟨⟨_, by rw [HR.out]; rfl⟩, B1.out⟩
  obtain ⟨own, hn, hz⟩ := ho rfl
  have O := Lib.hid own
  have CV := Lib.hid (impl_AskedValid v w.heap.size P.length P w1 own rfl hn hz)
  have CT : Hid (∀ W, Below w1.heap.size w1 W → Calls Tryd.prog 49 #[v] W fun e w' => e = .returned (.string (mkS (askT P))) ∧ Below W.heap.size W w') := fun W hW => impl_AskedText v w.heap.size P.length P W (ownN_below own hW) rfl hn hz
  clear own hn hz ho
  rcases hv : askV P with _ | _
  · rw [hv] at CV
    have HR : Hid (askB (bl s) = false) := askB_no (fun Q h1 h2 => by rw [(HQ.out Q h1 h2).2, h1] at hv; cases hv)
    clear hv
    go_wp2_with fail
    refine CV.out.mono ?_
    rintro e w2 ⟨rfl, b2⟩
    have B2 := Lib.hid (B1.out.trans (b2.mono B1.out.size))
    clear b2
    go_wp2
    go_ret2
    exact ⟨⟨_, by rw [HR.out]; rfl⟩, B2.out⟩
  rw [hv] at CV
  have HT := Lib.hid (askT_yes hv)
  have HV := Lib.hid hv
  clear hv
  rw [HT.out] at CT
  by_cases he : mkS (askJ P) = s
  · have HR : Hid (askB (bl s) = true) := askB_yes HV.out (by rw [← he, bl_mkS])
    rw [he] at CT
    clear he
    go_wp2_with fail
    refine CV.out.mono ?_
    rintro e w2 ⟨rfl, b2⟩
    have B2 := Lib.hid (B1.out.trans (b2.mono B1.out.size))
    go_wp2_with fail
    refine (CT.out _ b2).mono ?_
    rintro e w3 ⟨rfl, b3⟩
    have B3 := Lib.hid (B2.out.trans (b3.mono B2.out.size))
    clear b2 b3
    go_wp2
    go_ret2
    exact ⟨⟨_, by rw [HR.out]; rfl⟩, B3.out⟩
  · have HR : Hid (askB (bl s) = false) := askB_no (fun Q h1 h2 => he (by rw [(HQ.out Q h1 h2).2, h2, mkS_bl]))
    have hne := toList_no he
    generalize mkS (askJ P) = z at CT hne
    clear he
    go_wp2_with fail
    refine CV.out.mono ?_
    rintro e w2 ⟨rfl, b2⟩
    have B2 := Lib.hid (B1.out.trans (b2.mono B1.out.size))
    go_wp2_with fail
    refine (CT.out _ b2).mono ?_
    rintro e w3 ⟨rfl, b3⟩
    have B3 := Lib.hid (B2.out.trans (b3.mono B2.out.size))
    clear b2 b3
    go_wp2
    go_ret2
    exact ⟨⟨_, by rw [HR.out]; rfl⟩, B3.out⟩
end Go.Proofs.YtmiemnhbkcmanaaDoor
