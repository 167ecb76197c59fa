/- Joined texts (TokR, TabG). -/
import Derived.Test.YtdoomfckdjjlaaaRefB
import Derived.Deep.CutBlock
import Derived.Deep.CutRange
import Derived.Deep.RegionWith
import Derived.Test.YtdoomfckdjjlaaaTokG

/-! spec.Tokenize for all texts (printed by gen_tokr.py). -/
namespace Go.Proofs.Ytdoomfckdjjlaaa
open Go.RowKit

set_option maxRecDepth 100000 in
set_option maxHeartbeats 51200000 in
theorem spec_Tokenize (s : ByteArray) (w : World) (hs : s.size ≤ 1048576) :
    Calls Try.prog 39 #[.string s] w (TokAnsR w (tokR2 (bl s))) := by
  have TS := Lib.hid (tks_start w)
  go_enter Try.func39, Try.ntmps39
  go_wp2
  go_loopw [4, 6, 7, 8] (fun out buf pv t wr => ∃ (k : Nat) (d : CfR) (L : List TokP) (pg pc : Nat) (Q : List (ByteArray × ByteArray)), k ≤ s.size ∧ t = .int .i64 (k : Int) ∧ buf = .string (mkS d.buf) ∧ pv = .slice (some ⟨pg, 0, none⟩) d.p pc ∧ d.buf.length ≤ k ∧ Hid (RdS w s k d L pg pc Q out wr)) (fun _ _ _ t _ => s.size - (intOf t).toNat)
  case atStart => exact ⟨0, cr0, [], w.heap.size + 1 + 1, 0, [], Nat.zero_le _, rfl, rfl, rfl, Nat.zero_le _, rfl, ⟨val_zero, (by intro h; exact absurd h (by decide)), Nat.zero_le _, Nat.zero_le _⟩, rfl, rfl, (by intro t ht; cases ht), TS.out⟩
  case round =>
    clear TS
    obtain ⟨k, d, L, pg, pc, Q, hk, rfl, rfl, rfl, hbl, RD⟩ := hrel
    by_cases hks : k < s.size
    · have hi : (k : Int) < (s.size : Int) := by omega
      have hk0 : (0 : Int) ≤ (k : Int) := by omega
      have hi1 : ((k : Int) + 1) ≤ (s.size : Int) := by omega
      have HRN := Lib.hid (runR_next hks RD.out.run)
      have HOK := Lib.hid (fun d' (h : stepQ d s[k] = some d') => RD.out.ok.next h)
      have HNO : Hid (stepQ d s[k] = none → tokR2 (bl s) = none) := by
        intro h
        unfold tokR2
        rw [runR_none (k := k + 1) (by rw [HRN.out]; exact h)]
        split <;> rfl
      have HV := Lib.hid RD.out.ok.1
      have HL14 := Lib.hid RD.out.ok.2.1
      have hol : d.out.length ≤ 60 := RD.out.ok.2.2.1
      have hpl : d.p ≤ 60 := RD.out.ok.2.2.2
      have HSIG := Lib.hid RD.out.sig
      have HLEN := Lib.hid RD.out.len
      have HTX := Lib.hid RD.out.texts
      have TK := Lib.hid RD.out.mem
      have CS := Lib.hid (fun W => spec_StepState d.s s[k] W HV.out)
      have hcl := rawR_class HV.out s[k]
      have HRS := Lib.hid (rawR_s d s[k])
      clear RD
      obtain ⟨co, ⟨M, T, A, EE⟩, cb, cp⟩ := d
      simp only at hbl HSIG HLEN TK CS HL14 hol hpl HRS
      obtain ⟨N, T2, A2, E2, hn⟩ : ∃ N T2 A2 E2, stepM ⟨M, T, A, EE⟩ s[k] = ⟨N, T2, A2, E2⟩ := ⟨_, _, _, _, rfl⟩
      rw [hn] at CS HRS
      simp only [st_agg] at CS
      have HN := Lib.hid hn
      have hws := TK.out.b.size
      have TK0 := Lib.hid (TK.out.below (Below.refl _ _).drew)
      have s0 : wr.drew.cell? ⟨w.heap.size + 1, 0, none⟩ = some (.int .i64 (M : Int)) := TK0.out.cells.1.1
      have s1 : wr.drew.cell? ⟨w.heap.size + 1, 1, none⟩ = some (.string (mkS T)) := TK0.out.cells.1.2.1
      have s2 : wr.drew.cell? ⟨w.heap.size + 1, 2, none⟩ = some (.string (mkS A)) := TK0.out.cells.1.2.2.1
      have s3 : wr.drew.cell? ⟨w.heap.size + 1, 3, none⟩ = some (.bool EE) := TK0.out.cells.1.2.2.2
      have hsl : w.heap.size + 1 < wr.heap.size := bld_ltS TK.out.s
      go_upto_region 8 with fail
      go_cut [9] from 14 to 159 (fun v wx => ∃ nb : Nat, v = .pointer (some ⟨nb, 0, none⟩) ∧ Hid (TkM w u4 L ⟨M, T, A, EE⟩ pg cp pc Q nb ⟨N, T2, A2, E2⟩ wx))
      case first =>
        have hwr : w.heap.size ≤ wr.heap.size := hws
        obtain ⟨H, hHH⟩ : ∃ H, wr.heap.size = H := ⟨_, rfl⟩
        have hHs : wr.drew.heap.size = H := hHH
        have hslH : w.heap.size + 1 < H := by rw [← hHH]; exact hsl
        refine wp_region_any (by kernel_rfl) ?_
        rename_i KK hKK
        refine region_free2 (nxSlot H ⟨M, T, A, EE⟩ ⟨N, T2, A2, E2⟩ s (k : Int) (s[k].toNat : Int)) (fun listed a wx => GNx H ⟨N, T2, A2, E2⟩ wr.drew listed a wx) 180 7 (by kernel_rfl) (Nat.le_refl 180) (by kernel_rfl) rfl rfl (by decide) ?start ?step ?done
        case start => exact ⟨Below.refl _ _, Nat.le_of_eq hHH.symm, fun h => absurd h (by decide)⟩
        case step =>
          intro i o ho listed wx a hls hli hdp hG hD KC hK
          have hlt : i < 7 := by have := (Array.getElem?_eq_some_iff.1 ho).1; simpa using this
          rcases (show i = 0 ∨ i = 1 ∨ i = 2 ∨ i = 3 ∨ i = 4 ∨ i = 5 ∨ i = 6 by omega) with rfl | rfl | rfl | rfl | rfl | rfl | rfl
          · have h5 := hD.old 5 (by kernel_rfl)
            obtain rfl := Option.some.inj ho
            clear hD
            have q0 := (hG.1.cell (p := ⟨w.heap.size + 1, 0, none⟩) hslH).trans s0
            have q1 := (hG.1.cell (p := ⟨w.heap.size + 1, 1, none⟩) hslH).trans s1
            have q2 := (hG.1.cell (p := ⟨w.heap.size + 1, 2, none⟩) hslH).trans s2
            have q3 := (hG.1.cell (p := ⟨w.heap.size + 1, 3, none⟩) hslH).trans s3
            unfold Oper.wp
            simp [execOp, Act.eval, h5]
            go_simp
            exact hK _ _ (.inr rfl) (fun _ _ _ _ _ _ h => h) (hG.keep (by decide) hli (Below.refl _ _))
          · have h0 := hD.old 0 (by kernel_rfl)
            obtain rfl := Option.some.inj ho
            clear hD
            unfold Oper.wp
            simp [execOp, Act.eval, h0]
            exact hK _ _ (.inr rfl) (fun _ _ _ _ _ _ h => h) (hG.keep (by decide) hli (Below.refl _ _))
          · have h8 := hD.old 8 (by kernel_rfl)
            obtain rfl := Option.some.inj ho
            clear hD
            unfold Oper.wp
            simp [execOp, Act.eval, h8]
            exact hK _ _ (.inr rfl) (fun _ _ _ _ _ _ h => h) (hG.keep (by decide) hli (Below.refl _ _))
          · obtain ⟨v1, t1, rfl⟩ := hD.dep 1 21 rfl rfl (by obtain rfl := Option.some.inj ho; kernel_rfl)
            obtain ⟨v2, t2, rfl⟩ := hD.dep 2 22 rfl rfl (by obtain rfl := Option.some.inj ho; kernel_rfl)
            obtain rfl := Option.some.inj ho
            clear hD
            unfold Oper.wp
            simp [execOp, Act.eval, t1, t2]
            go_simp
            exact hK _ _ (.inr rfl) (fun _ _ _ _ _ _ h => h) (hG.keep (by decide) hli (Below.refl _ _))
          · obtain ⟨v0, t0, hv0⟩ := hD.dep 0 20 rfl rfl (by obtain rfl := Option.some.inj ho; kernel_rfl)
            obtain ⟨v3, t3, hv3⟩ := hD.dep 3 23 rfl rfl (by obtain rfl := Option.some.inj ho; kernel_rfl)
            rw [show v0 = _ from hv0, st_agg] at t0
            rw [show v3 = _ from hv3] at t3
            obtain rfl := Option.some.inj ho
            clear hD
            unfold Oper.wp
            simp [execOp]
            go_simp
            refine (CS.out _).mono ?_
            rintro e w2 ⟨rfl, b2⟩
            exact hK _ _ (.inr rfl) (fun j u _ _ _ _ h => nx_kept b2 j u h) (hG.keep (by decide) hli b2)
          · obtain rfl := Option.some.inj ho
            clear hD
            unfold Oper.wp
            simp [execOp]
            go_simp
            exact hK _ _ (.inr ⟨_, hG.2.1, rfl, heap_alloc_new _ _⟩) (fun j u _ _ _ _ h => nx_kept ((Below.refl _ _).alloc (Nat.le_refl _) _) j u h) (hG.keep (by decide) hli ((Below.refl _ _).alloc (Nat.le_refl _) _))
          · have hall : ∀ i, i < 6 → listed.getD i true = true := fun i hi => hdp i (by obtain rfl := Option.some.inj ho; rcases (show i = 0 ∨ i = 1 ∨ i = 2 ∨ i = 3 ∨ i = 4 ∨ i = 5 by omega) with rfl | rfl | rfl | rfl | rfl | rfl <;> kernel_rfl)
            obtain ⟨v5, t5, nb, hnb, hv5, hm⟩ := hD.dep 5 9 rfl rfl (by obtain rfl := Option.some.inj ho; kernel_rfl)
            obtain ⟨v4, t4, hv4⟩ := hD.dep 4 24 rfl rfl (by obtain rfl := Option.some.inj ho; kernel_rfl)
            subst hv5
            rw [show v4 = _ from hv4, st_agg] at t4
            obtain rfl := Option.some.inj ho
            clear hD
            obtain ⟨c0, c1, c2, c3⟩ := st_cells hm
            have f0 := row_frozen hm 0
            have f1 := row_frozen hm 1
            have f2 := row_frozen hm 2
            have f3 := row_frozen hm 3
            unfold Oper.wp
            simp [execOp, Act.eval, t5, t4]
            go_simp
            refine hK (.bool false) _ (.inl rfl) (fun j u _ _ hno _ h => nx_kept6 j u (fun e => by subst e; rw [show onlyB _ _ 6 5 = true by kernel_rfl] at hno; cases hno) h) ⟨?_, ?_, fun _ => ⟨fun i hi => by rw [listed_keep (by omega)]; exact hall i hi, nb, hnb, t5, ?_⟩⟩
            · exact (((hG.1.setCell (p := ⟨nb, 0, none⟩) hnb _).setCell (p := ⟨nb, 1, none⟩) hnb _).setCell (p := ⟨nb, 2, none⟩) hnb _).setCell (p := ⟨nb, 3, none⟩) hnb _
            · simp; exact hG.2.1
            · exact heap_setCell_same _ _ 3 _ _ _ (heap_setCell_same _ _ 2 _ _ _ (heap_setCell_same _ _ 1 _ _ _ (heap_setCell_same _ _ 0 _ _ _ hm)))
        case done =>
          intro listed a wx hall hd hsz hold hdst hG
          obtain ⟨_, nb, hnb, h9, hm⟩ := hG.2.2 (hall 6 (by omega))
          have hf := act_frame [20, 21, 22, 23, 24, 9] (by kernel_rfl) hd hsz hold
          have e9 : a.tmps.getD 9 undef = .pointer (some ⟨nb, 0, none⟩) := by rw [Array.getD_eq_getD_getElem?, h9]; rfl
          simp only [List.foldl_cons, List.foldl_nil] at hf
          rw [e9] at hf
          have BX := Lib.hid (TK.out.below ((Below.refl _ wr).drew.trans (hG.1.mono (Nat.le_of_eq hHH))))
          have TX : Hid (TkM w u4 L ⟨M, T, A, EE⟩ pg cp pc Q nb ⟨N, T2, A2, E2⟩ wx) := ⟨BX.out, hm, by omega⟩
          clear hall hd hsz hold hdst hG h9 e9 hm
          generalize a.tmps.getD 20 undef = y20, a.tmps.getD 21 undef = y21, a.tmps.getD 22 undef = y22, a.tmps.getD 23 undef = y23, a.tmps.getD 24 undef = y24 at hf
          refine hKK _ _ ?_
          rw [hf]
          clear hf
          go_meet
          exact ⟨nb, rfl, TX.out⟩
      case rest =>
        obtain ⟨nb, rfl, TM⟩ := hcut
        clear CS s0 s1 s2 s3 hws hsl TK TK0
        have hone : s.extract k (k + 1) = mkS [s[k]] := bl_inj (by rw [bl_one s k hks, bl_mkS])
        have HONE : Hid (mkS cb ++ s.extract k (k + 1) = mkS (cb ++ [s[k]])) := by show _ = _; rw [hone, mkS_app]
        have hx1 : (s.extract k (k + 1)).size = 1 := by rw [hone, mkS_size]; rfl
        have hxc : ¬ 9223372036854775807 < (mkS cb).size + (s.extract k (k + 1)).size := by rw [mkS_size, hx1]; omega
        have hcs : (mkS cb).size = cb.length := mkS_size cb
        obtain ⟨d', hd'⟩ : ∃ d', rawR ⟨co, ⟨M, T, A, EE⟩, cb, cp⟩ s[k] = d' := ⟨_, rfl⟩
        have HST : Hid (stepQ ⟨co, ⟨M, T, A, EE⟩, cb, cp⟩ s[k] = if 60 < d'.out.length ∨ 60 < d'.p then none else some d') := by show _ = _; rw [← hd']; rfl
        rw [hd'] at hcl HRS
        obtain ⟨ln, hln⟩ : ∃ ln, L.length = ln := ⟨_, rfl⟩
        have hln60 : ln ≤ 60 := by rw [← hln, ← List.length_map (f := sigR), HSIG.out]; exact hol
        have HLN := Lib.hid hln
        clear hone hd' hln
        go_upto_block 2 with fail
        go_cut [4, 6, 7] from 14 to 159 (fun o b pv wx => ∃ (L' : List TokP) (oa : Option Addr) (oc pg' pc' : Nat) (Q' : List (ByteArray × ByteArray)), o = .slice oa L'.length oc ∧ b = .string (mkS d'.buf) ∧ pv = .slice (some ⟨pg', 0, none⟩) d'.p pc' ∧ Hid (d'.buf.length ≤ k + 1) ∧ Hid (L'.map sigR = d'.out) ∧ Hid (Q'.length = d'.p) ∧ Hid (∀ t ∈ L', t.V.size ≤ 1048576) ∧ Hid (TkM w (.slice oa L'.length oc) L' ⟨M, T, A, EE⟩ pg' d'.p pc' Q' nb ⟨N, T2, A2, E2⟩ wx))
        case first =>
          cases hcl with
          | text h1 h2 =>
            as_aux_lemma =>
              simp only [HN.out] at h1 h2
              subst h1; subst h2
              have CA := Lib.hid (fun W => inF (M := 0) (lo := 2) (hi := 8) (by omega) W)
              obtain ⟨oa, oc, ho4, _⟩ := ownN_formn (own_lenN TM.out.h.o HLN.out)
              subst ho4
              have s0 : wc.cell? ⟨w.heap.size + 1, 0, none⟩ = some (.int .i64 0) := TM.out.h.cells.1.1
              have s1 : wc.cell? ⟨w.heap.size + 1, 1, none⟩ = some (.string (mkS T)) := TM.out.h.cells.1.2.1
              have s2 : wc.cell? ⟨w.heap.size + 1, 2, none⟩ = some (.string (mkS A)) := TM.out.h.cells.1.2.2.1
              have s3 : wc.cell? ⟨w.heap.size + 1, 3, none⟩ = some (.bool EE) := TM.out.h.cells.1.2.2.2
              have m0 : wc.cell? ⟨nb, 0, none⟩ = some (.int .i64 0) := TM.out.cells.1
              have m1 : wc.cell? ⟨nb, 1, none⟩ = some (.string (mkS T2)) := TM.out.cells.2.1
              have m2 : wc.cell? ⟨nb, 2, none⟩ = some (.string (mkS A2)) := TM.out.cells.2.2.1
              have m3 : wc.cell? ⟨nb, 3, none⟩ = some (.bool E2) := TM.out.cells.2.2.2
              go_wp2_with fail
              refine (CA.out _).mono ?_
              rintro e w1 ⟨rfl, rfl⟩
              go_wp2_with fail
              refine (CA.out _).mono ?_
              rintro e w1 ⟨rfl, rfl⟩
              go_wp2
              go_meet
              exact ⟨L, oa, oc, pg, pc, Q, (by rw [HLN.out]), (congrArg Value.string HONE.out), rfl, (show _ ≤ _ by rw [List.length_append]; exact Nat.succ_le_succ hbl), HSIG.out, HLEN.out, HTX.out, (by rw [HLN.out]; exact TM.out)⟩
          | open1 h1 h2 =>
            as_aux_lemma =>
              simp only [HN.out] at h1 h2
              subst h1; subst h2
              have CA := Lib.hid (fun W => inF (M := 1) (lo := 2) (hi := 8) (by omega) W)
              have CB := Lib.hid (fun W => inF (M := 1) (lo := 11) (hi := 14) (by omega) W)
              obtain ⟨oa, oc, ho4, _⟩ := ownN_formn (own_lenN TM.out.h.o HLN.out)
              subst ho4
              have s0 : wc.cell? ⟨w.heap.size + 1, 0, none⟩ = some (.int .i64 1) := TM.out.h.cells.1.1
              have s1 : wc.cell? ⟨w.heap.size + 1, 1, none⟩ = some (.string (mkS T)) := TM.out.h.cells.1.2.1
              have s2 : wc.cell? ⟨w.heap.size + 1, 2, none⟩ = some (.string (mkS A)) := TM.out.h.cells.1.2.2.1
              have s3 : wc.cell? ⟨w.heap.size + 1, 3, none⟩ = some (.bool EE) := TM.out.h.cells.1.2.2.2
              have m0 : wc.cell? ⟨nb, 0, none⟩ = some (.int .i64 (N : Int)) := TM.out.cells.1
              have m1 : wc.cell? ⟨nb, 1, none⟩ = some (.string (mkS T2)) := TM.out.cells.2.1
              have m2 : wc.cell? ⟨nb, 2, none⟩ = some (.string (mkS A2)) := TM.out.cells.2.2.1
              have m3 : wc.cell? ⟨nb, 3, none⟩ = some (.bool false) := TM.out.cells.2.2.2
              go_wp2_with fail
              refine (CA.out _).mono ?_
              rintro e w1 ⟨rfl, rfl⟩
              go_wp2_with fail
              refine (CA.out _).mono ?_
              rintro e w1 ⟨rfl, rfl⟩
              go_wp2_with fail
              refine (CB.out _).mono ?_
              rintro e w1 ⟨rfl, rfl⟩
              go_wp2
              go_meet
              exact ⟨L, oa, oc, pg, pc, Q, (by rw [HLN.out]), rfl, rfl, (Nat.le_succ_of_le hbl), HSIG.out, HLEN.out, HTX.out, (by rw [HLN.out]; exact TM.out)⟩
          | say h1 h2 =>
            as_aux_lemma =>
              simp only [HN.out] at h1 h2
              subst h1
              have nf0 : ((N : Int) == 0) = false := kindF (n := 0) (by omega)
              have CA := Lib.hid (fun W => inF (M := 10) (lo := 2) (hi := 8) (by omega) W)
              obtain ⟨oa, oc, ho4, _⟩ := ownN_formn (own_lenN TM.out.h.o HLN.out)
              subst ho4
              have s0 : wc.cell? ⟨w.heap.size + 1, 0, none⟩ = some (.int .i64 10) := TM.out.h.cells.1.1
              have s1 : wc.cell? ⟨w.heap.size + 1, 1, none⟩ = some (.string (mkS T)) := TM.out.h.cells.1.2.1
              have s2 : wc.cell? ⟨w.heap.size + 1, 2, none⟩ = some (.string (mkS A)) := TM.out.h.cells.1.2.2.1
              have s3 : wc.cell? ⟨w.heap.size + 1, 3, none⟩ = some (.bool EE) := TM.out.h.cells.1.2.2.2
              have m0 : wc.cell? ⟨nb, 0, none⟩ = some (.int .i64 (N : Int)) := TM.out.cells.1
              have m1 : wc.cell? ⟨nb, 1, none⟩ = some (.string (mkS T2)) := TM.out.cells.2.1
              have m2 : wc.cell? ⟨nb, 2, none⟩ = some (.string (mkS A2)) := TM.out.cells.2.2.1
              have m3 : wc.cell? ⟨nb, 3, none⟩ = some (.bool E2) := TM.out.cells.2.2.2
              go_wp2_with fail
              refine (CA.out _).mono ?_
              rintro e w1 ⟨rfl, rfl⟩
              go_wp2_with fail
              refine (CA.out _).mono ?_
              rintro e w1 ⟨rfl, rfl⟩
              go_wp2
              go_meet
              exact ⟨L, oa, oc, pg, pc, Q, (by rw [HLN.out]), (congrArg Value.string HONE.out), rfl, (show _ ≤ _ by rw [List.length_append]; exact Nat.succ_le_succ hbl), HSIG.out, HLEN.out, HTX.out, (by rw [HLN.out]; exact TM.out)⟩
          | name h1 h2 h3 =>
            as_aux_lemma =>
              simp only [HN.out] at h1 h2 h3
              subst h1; subst h3
              have nf0 : ((N : Int) == 0) = false := kindF (n := 0) (by omega)
              have CA := Lib.hid (fun W => inF (M := 9) (lo := 2) (hi := 8) (by omega) W)
              have CB := Lib.hid (fun W => inF (M := 9) (lo := 11) (hi := 14) (by omega) W)
              obtain ⟨oa, oc, ho4, _⟩ := ownN_formn (own_lenN TM.out.h.o HLN.out)
              subst ho4
              have s0 : wc.cell? ⟨w.heap.size + 1, 0, none⟩ = some (.int .i64 9) := TM.out.h.cells.1.1
              have s1 : wc.cell? ⟨w.heap.size + 1, 1, none⟩ = some (.string (mkS T)) := TM.out.h.cells.1.2.1
              have s2 : wc.cell? ⟨w.heap.size + 1, 2, none⟩ = some (.string (mkS A)) := TM.out.h.cells.1.2.2.1
              have s3 : wc.cell? ⟨w.heap.size + 1, 3, none⟩ = some (.bool EE) := TM.out.h.cells.1.2.2.2
              have m0 : wc.cell? ⟨nb, 0, none⟩ = some (.int .i64 (N : Int)) := TM.out.cells.1
              have m1 : wc.cell? ⟨nb, 1, none⟩ = some (.string (mkS T2)) := TM.out.cells.2.1
              have m2 : wc.cell? ⟨nb, 2, none⟩ = some (.string (mkS A2)) := TM.out.cells.2.2.1
              have m3 : wc.cell? ⟨nb, 3, none⟩ = some (.bool false) := TM.out.cells.2.2.2
              go_wp2_with fail
              refine (CA.out _).mono ?_
              rintro e w1 ⟨rfl, rfl⟩
              go_wp2_with fail
              refine (CA.out _).mono ?_
              rintro e w1 ⟨rfl, rfl⟩
              go_wp2_with fail
              refine (CB.out _).mono ?_
              rintro e w1 ⟨rfl, rfl⟩
              go_wp2
              go_meet
              exact ⟨L, oa, oc, pg, pc, Q, (by rw [HLN.out]), rfl, rfl, (Nat.le_succ_of_le hbl), HSIG.out, HLEN.out, HTX.out, (by rw [HLN.out]; exact TM.out)⟩
          | val h1 h2 h3 h4 h5 h6 =>
            as_aux_lemma =>
              simp only [HN.out] at h1 h2 h3 h4 h5 h6
              subst h6
              have mf0 : ((M : Int) == 0) = false := kindF (n := 0) (by omega)
              have mf10 : ((M : Int) == 10) = false := kindF (n := 10) (by omega)
              have mf9 : ((M : Int) == 9) = false := kindF (n := 9) (by omega)
              have mf14 : ((M : Int) == 14) = false := kindF (n := 14) (by omega)
              have nf0 : ((N : Int) == 0) = false := kindF (n := 0) (by omega)
              have nf11 : ((N : Int) == 11) = false := kindF (n := 11) (by omega)
              have nf3 : ((N : Int) == 3) = false := kindF (n := 3) (by omega)
              have CA := Lib.hid (fun W => inT (M := M) (lo := 2) (hi := 8) (by omega) (by omega) W)
              have CB := Lib.hid (fun W => inF (M := M) (lo := 11) (hi := 14) (by omega) W)
              obtain ⟨oa, oc, ho4, _⟩ := ownN_formn (own_lenN TM.out.h.o HLN.out)
              subst ho4
              have s0 : wc.cell? ⟨w.heap.size + 1, 0, none⟩ = some (.int .i64 (M : Int)) := TM.out.h.cells.1.1
              have s1 : wc.cell? ⟨w.heap.size + 1, 1, none⟩ = some (.string (mkS T)) := TM.out.h.cells.1.2.1
              have s2 : wc.cell? ⟨w.heap.size + 1, 2, none⟩ = some (.string (mkS A)) := TM.out.h.cells.1.2.2.1
              have s3 : wc.cell? ⟨w.heap.size + 1, 3, none⟩ = some (.bool EE) := TM.out.h.cells.1.2.2.2
              have m0 : wc.cell? ⟨nb, 0, none⟩ = some (.int .i64 (N : Int)) := TM.out.cells.1
              have m1 : wc.cell? ⟨nb, 1, none⟩ = some (.string (mkS T2)) := TM.out.cells.2.1
              have m2 : wc.cell? ⟨nb, 2, none⟩ = some (.string (mkS A2)) := TM.out.cells.2.2.1
              have m3 : wc.cell? ⟨nb, 3, none⟩ = some (.bool true) := TM.out.cells.2.2.2
              go_wp2_with fail
              refine (CA.out _).mono ?_
              rintro e w1 ⟨rfl, rfl⟩
              go_wp2_with fail
              refine (CA.out _).mono ?_
              rintro e w1 ⟨rfl, rfl⟩
              go_wp2_with fail
              refine (CB.out _).mono ?_
              rintro e w1 ⟨rfl, rfl⟩
              go_wp2
              go_meet
              exact ⟨L, oa, oc, pg, pc, Q, (by rw [HLN.out]), (congrArg Value.string HONE.out), rfl, (show _ ≤ _ by rw [List.length_append]; exact Nat.succ_le_succ hbl), HSIG.out, HLEN.out, HTX.out, (by rw [HLN.out]; exact TM.out)⟩
          | rest h1 h2 h3 h4 h5 h6 =>
            as_aux_lemma =>
              simp only [HN.out] at h1 h2 h3 h4 h5 h6
              subst h6
              have mf0 : ((M : Int) == 0) = false := kindF (n := 0) (by omega)
              have mf10 : ((M : Int) == 10) = false := kindF (n := 10) (by omega)
              have mf9 : ((M : Int) == 9) = false := kindF (n := 9) (by omega)
              have mf14 : ((M : Int) == 14) = false := kindF (n := 14) (by omega)
              have nf0 : ((N : Int) == 0) = false := kindF (n := 0) (by omega)
              have nf11 : ((N : Int) == 11) = false := kindF (n := 11) (by omega)
              have nf3 : ((N : Int) == 3) = false := kindF (n := 3) (by omega)
              have CA := Lib.hid (fun W => inT (M := M) (lo := 2) (hi := 8) (by omega) (by omega) W)
              have CB := Lib.hid (fun W => inF (M := M) (lo := 11) (hi := 14) (by omega) W)
              obtain ⟨oa, oc, ho4, _⟩ := ownN_formn (own_lenN TM.out.h.o HLN.out)
              subst ho4
              have s0 : wc.cell? ⟨w.heap.size + 1, 0, none⟩ = some (.int .i64 (M : Int)) := TM.out.h.cells.1.1
              have s1 : wc.cell? ⟨w.heap.size + 1, 1, none⟩ = some (.string (mkS T)) := TM.out.h.cells.1.2.1
              have s2 : wc.cell? ⟨w.heap.size + 1, 2, none⟩ = some (.string (mkS A)) := TM.out.h.cells.1.2.2.1
              have s3 : wc.cell? ⟨w.heap.size + 1, 3, none⟩ = some (.bool EE) := TM.out.h.cells.1.2.2.2
              have m0 : wc.cell? ⟨nb, 0, none⟩ = some (.int .i64 (N : Int)) := TM.out.cells.1
              have m1 : wc.cell? ⟨nb, 1, none⟩ = some (.string (mkS T2)) := TM.out.cells.2.1
              have m2 : wc.cell? ⟨nb, 2, none⟩ = some (.string (mkS A2)) := TM.out.cells.2.2.1
              have m3 : wc.cell? ⟨nb, 3, none⟩ = some (.bool false) := TM.out.cells.2.2.2
              go_wp2_with fail
              refine (CA.out _).mono ?_
              rintro e w1 ⟨rfl, rfl⟩
              go_wp2_with fail
              refine (CA.out _).mono ?_
              rintro e w1 ⟨rfl, rfl⟩
              go_wp2_with fail
              refine (CB.out _).mono ?_
              rintro e w1 ⟨rfl, rfl⟩
              go_wp2
              go_meet
              exact ⟨L, oa, oc, pg, pc, Q, (by rw [HLN.out]), rfl, rfl, (Nat.le_succ_of_le hbl), HSIG.out, HLEN.out, HTX.out, (by rw [HLN.out]; exact TM.out)⟩
          | less2 h1 h2 =>
            as_aux_lemma =>
              simp only [HN.out] at h1 h2
              subst h1
              have nf9 : ((N : Int) == 9) = false := kindF (n := 9) (by omega)
              have CA := Lib.hid (fun W => inF (M := 14) (lo := 2) (hi := 8) (by omega) W)
              have CB := Lib.hid (fun W => inT (M := 14) (lo := 11) (hi := 14) (by omega) (by omega) W)
              obtain ⟨oa, oc, ho4, _⟩ := ownN_formn (own_lenN TM.out.h.o HLN.out)
              subst ho4
              have s0 : wc.cell? ⟨w.heap.size + 1, 0, none⟩ = some (.int .i64 14) := TM.out.h.cells.1.1
              have s1 : wc.cell? ⟨w.heap.size + 1, 1, none⟩ = some (.string (mkS T)) := TM.out.h.cells.1.2.1
              have s2 : wc.cell? ⟨w.heap.size + 1, 2, none⟩ = some (.string (mkS A)) := TM.out.h.cells.1.2.2.1
              have s3 : wc.cell? ⟨w.heap.size + 1, 3, none⟩ = some (.bool EE) := TM.out.h.cells.1.2.2.2
              have m0 : wc.cell? ⟨nb, 0, none⟩ = some (.int .i64 (N : Int)) := TM.out.cells.1
              have m1 : wc.cell? ⟨nb, 1, none⟩ = some (.string (mkS T2)) := TM.out.cells.2.1
              have m2 : wc.cell? ⟨nb, 2, none⟩ = some (.string (mkS A2)) := TM.out.cells.2.2.1
              have m3 : wc.cell? ⟨nb, 3, none⟩ = some (.bool E2) := TM.out.cells.2.2.2
              go_wp2_with fail
              refine (CA.out _).mono ?_
              rintro e w1 ⟨rfl, rfl⟩
              go_wp2_with fail
              refine (CA.out _).mono ?_
              rintro e w1 ⟨rfl, rfl⟩
              go_wp2_with fail
              refine (CB.out _).mono ?_
              rintro e w1 ⟨rfl, rfl⟩
              go_wp2
              go_meet
              exact ⟨L, oa, oc, pg, pc, Q, (by rw [HLN.out]), (congrArg Value.string HONE.out), rfl, (show _ ≤ _ by rw [List.length_append]; exact Nat.succ_le_succ hbl), HSIG.out, HLEN.out, HTX.out, (by rw [HLN.out]; exact TM.out)⟩
          | code h1 h2 =>
            as_aux_lemma =>
              simp only at h1 h2
              have mf0 : ((M : Int) == 0) = false := kindF (n := 0) (by omega)
              have mf10 : ((M : Int) == 10) = false := kindF (n := 10) (by omega)
              have mf9 : ((M : Int) == 9) = false := kindF (n := 9) (by omega)
              have mf14 : ((M : Int) == 14) = false := kindF (n := 14) (by omega)
              have CA := Lib.hid (fun W => inF (M := M) (lo := 2) (hi := 8) (by omega) W)
              have CB := Lib.hid (fun W => inT (M := M) (lo := 11) (hi := 14) (by omega) (by omega) W)
              obtain ⟨oa, oc, ho4, _⟩ := ownN_formn (own_lenN TM.out.h.o HLN.out)
              subst ho4
              have s0 : wc.cell? ⟨w.heap.size + 1, 0, none⟩ = some (.int .i64 (M : Int)) := TM.out.h.cells.1.1
              have s1 : wc.cell? ⟨w.heap.size + 1, 1, none⟩ = some (.string (mkS T)) := TM.out.h.cells.1.2.1
              have s2 : wc.cell? ⟨w.heap.size + 1, 2, none⟩ = some (.string (mkS A)) := TM.out.h.cells.1.2.2.1
              have s3 : wc.cell? ⟨w.heap.size + 1, 3, none⟩ = some (.bool EE) := TM.out.h.cells.1.2.2.2
              have m0 : wc.cell? ⟨nb, 0, none⟩ = some (.int .i64 (N : Int)) := TM.out.cells.1
              have m1 : wc.cell? ⟨nb, 1, none⟩ = some (.string (mkS T2)) := TM.out.cells.2.1
              have m2 : wc.cell? ⟨nb, 2, none⟩ = some (.string (mkS A2)) := TM.out.cells.2.2.1
              have m3 : wc.cell? ⟨nb, 3, none⟩ = some (.bool E2) := TM.out.cells.2.2.2
              go_wp2_with fail
              refine (CA.out _).mono ?_
              rintro e w1 ⟨rfl, rfl⟩
              go_wp2_with fail
              refine (CA.out _).mono ?_
              rintro e w1 ⟨rfl, rfl⟩
              go_wp2_with fail
              refine (CB.out _).mono ?_
              rintro e w1 ⟨rfl, rfl⟩
              go_wp2
              go_meet
              exact ⟨L, oa, oc, pg, pc, Q, (by rw [HLN.out]), (congrArg Value.string HONE.out), rfl, (show _ ≤ _ by rw [List.length_append]; exact Nat.succ_le_succ hbl), HSIG.out, HLEN.out, HTX.out, (by rw [HLN.out]; exact TM.out)⟩
          | bad h1 h2 =>
            as_aux_lemma =>
              simp only [HN.out] at h1 h2
              subst h1; subst h2
              have CA := Lib.hid (fun W => inF (M := 15) (lo := 2) (hi := 8) (by omega) W)
              have CB := Lib.hid (fun W => inF (M := 15) (lo := 11) (hi := 14) (by omega) W)
              obtain ⟨oa, oc, ho4, _⟩ := ownN_formn (own_lenN TM.out.h.o HLN.out)
              subst ho4
              have s0 : wc.cell? ⟨w.heap.size + 1, 0, none⟩ = some (.int .i64 15) := TM.out.h.cells.1.1
              have s1 : wc.cell? ⟨w.heap.size + 1, 1, none⟩ = some (.string (mkS T)) := TM.out.h.cells.1.2.1
              have s2 : wc.cell? ⟨w.heap.size + 1, 2, none⟩ = some (.string (mkS A)) := TM.out.h.cells.1.2.2.1
              have s3 : wc.cell? ⟨w.heap.size + 1, 3, none⟩ = some (.bool EE) := TM.out.h.cells.1.2.2.2
              have m0 : wc.cell? ⟨nb, 0, none⟩ = some (.int .i64 (N : Int)) := TM.out.cells.1
              have m1 : wc.cell? ⟨nb, 1, none⟩ = some (.string (mkS T2)) := TM.out.cells.2.1
              have m2 : wc.cell? ⟨nb, 2, none⟩ = some (.string (mkS A2)) := TM.out.cells.2.2.1
              have m3 : wc.cell? ⟨nb, 3, none⟩ = some (.bool false) := TM.out.cells.2.2.2
              go_wp2_with fail
              refine (CA.out _).mono ?_
              rintro e w1 ⟨rfl, rfl⟩
              go_wp2_with fail
              refine (CA.out _).mono ?_
              rintro e w1 ⟨rfl, rfl⟩
              go_wp2_with fail
              refine (CB.out _).mono ?_
              rintro e w1 ⟨rfl, rfl⟩
              go_wp2
              go_meet
              exact ⟨L, oa, oc, pg, pc, Q, (by rw [HLN.out]), rfl, rfl, (Nat.le_succ_of_le hbl), HSIG.out, HLEN.out, HTX.out, (by rw [HLN.out]; exact TM.out)⟩
          | said h1 h2 =>
            as_aux_lemma =>
              simp only [HN.out] at h1 h2
              subst h1; subst h2
              have OWL := Lib.hid (own_lenN TM.out.h.o HLN.out)
              have s0 : wc.cell? ⟨w.heap.size + 1, 0, none⟩ = some (.int .i64 10) := TM.out.h.cells.1.1
              have s1 : wc.cell? ⟨w.heap.size + 1, 1, none⟩ = some (.string (mkS T)) := TM.out.h.cells.1.2.1
              have s2 : wc.cell? ⟨w.heap.size + 1, 2, none⟩ = some (.string (mkS A)) := TM.out.h.cells.1.2.2.1
              have s3 : wc.cell? ⟨w.heap.size + 1, 3, none⟩ = some (.bool EE) := TM.out.h.cells.1.2.2.2
              have m0 : wc.cell? ⟨nb, 0, none⟩ = some (.int .i64 0) := TM.out.cells.1
              have m1 : wc.cell? ⟨nb, 1, none⟩ = some (.string (mkS T2)) := TM.out.cells.2.1
              have m2 : wc.cell? ⟨nb, 2, none⟩ = some (.string (mkS A2)) := TM.out.cells.2.2.1
              have m3 : wc.cell? ⟨nb, 3, none⟩ = some (.bool E2) := TM.out.cells.2.2.2
              go_wp2_with (at_builtin; refine wpList_pushTokP (.tmp 54) (.tmp 57) w.heap.size (⟨4, ⟨#[]⟩, mkS cb, none, 0, 0⟩ : TokP) _ ln L OWL.out TM.out.h.b.size (by omega) rfl (by rfl) (by rfl) (wc.heap.size) (by simp) (by rfl) ?_; intro v5 w5 o5 g5 a5; have TM5 := Lib.hid (TM.out.put (L' := L ++ [(⟨4, ⟨#[]⟩, mkS cb, none, 0, 0⟩ : TokP)]) (own_lenN o5 (by rw [List.length_append, HLN.out]; rfl)) g5); obtain ⟨oa, oc, hv5, _⟩ := ownN_formn o5; subst hv5; clear o5 g5 a5)
              go_meet
              exact ⟨L ++ [(⟨4, ⟨#[]⟩, mkS cb, none, 0, 0⟩ : TokP)], oa, oc, pg, pc, Q, (by rw [List.length_append, HLN.out]; rfl), rfl, rfl, (Nat.zero_le _), sigR_snoc HSIG.out rfl, HLEN.out, textR_snoc HTX.out (by show (mkS cb).size ≤ _; rw [mkS_size]; omega), (by rw [List.length_append, HLN.out]; exact TM5.out)⟩
          | fin h1 h2 =>
            as_aux_lemma =>
              simp only [HN.out] at h1 h2
              subst h1; subst h2
              have OWL := Lib.hid (own_lenN TM.out.h.o HLN.out)
              have s0 : wc.cell? ⟨w.heap.size + 1, 0, none⟩ = some (.int .i64 9) := TM.out.h.cells.1.1
              have s1 : wc.cell? ⟨w.heap.size + 1, 1, none⟩ = some (.string (mkS T)) := TM.out.h.cells.1.2.1
              have s2 : wc.cell? ⟨w.heap.size + 1, 2, none⟩ = some (.string (mkS A)) := TM.out.h.cells.1.2.2.1
              have s3 : wc.cell? ⟨w.heap.size + 1, 3, none⟩ = some (.bool EE) := TM.out.h.cells.1.2.2.2
              have m0 : wc.cell? ⟨nb, 0, none⟩ = some (.int .i64 0) := TM.out.cells.1
              have m1 : wc.cell? ⟨nb, 1, none⟩ = some (.string (mkS T2)) := TM.out.cells.2.1
              have m2 : wc.cell? ⟨nb, 2, none⟩ = some (.string (mkS A2)) := TM.out.cells.2.2.1
              have m3 : wc.cell? ⟨nb, 3, none⟩ = some (.bool E2) := TM.out.cells.2.2.2
              go_wp2_with (at_builtin; refine wpList_pushTokP (.tmp 68) (.tmp 72) w.heap.size (⟨3, mkS T, ⟨#[]⟩, none, 0, 0⟩ : TokP) _ ln L OWL.out TM.out.h.b.size (by omega) rfl (by rfl) (by rfl) (wc.heap.size) (by simp) (by rfl) ?_; intro v5 w5 o5 g5 a5; have TM5 := Lib.hid (TM.out.put (L' := L ++ [(⟨3, mkS T, ⟨#[]⟩, none, 0, 0⟩ : TokP)]) (own_lenN o5 (by rw [List.length_append, HLN.out]; rfl)) g5); obtain ⟨oa, oc, hv5, _⟩ := ownN_formn o5; subst hv5; clear o5 g5 a5)
              go_meet
              exact ⟨L ++ [(⟨3, mkS T, ⟨#[]⟩, none, 0, 0⟩ : TokP)], oa, oc, pg, pc, Q, (by rw [List.length_append, HLN.out]; rfl), rfl, rfl, (Nat.zero_le _), sigR_snoc HSIG.out rfl, HLEN.out, textR_snoc HTX.out (Nat.zero_le _), (by rw [List.length_append, HLN.out]; exact TM5.out)⟩
          | less h1 h2 =>
            as_aux_lemma =>
              simp only [HN.out] at h1 h2
              subst h1; subst h2
              have OWL := Lib.hid (own_lenN TM.out.h.o HLN.out)
              have CU := Lib.hid (fun W => spec_UnescapeText (mkS cb) W (by rw [mkS_size]; omega))
              simp only [bl_mkS] at CU
              have HUL : Hid ((unescR cb).length ≤ 1048576) := by have := unescR_len2 cb; show _ ≤ _; omega
              have s0 : wc.cell? ⟨w.heap.size + 1, 0, none⟩ = some (.int .i64 0) := TM.out.h.cells.1.1
              have s1 : wc.cell? ⟨w.heap.size + 1, 1, none⟩ = some (.string (mkS T)) := TM.out.h.cells.1.2.1
              have s2 : wc.cell? ⟨w.heap.size + 1, 2, none⟩ = some (.string (mkS A)) := TM.out.h.cells.1.2.2.1
              have s3 : wc.cell? ⟨w.heap.size + 1, 3, none⟩ = some (.bool EE) := TM.out.h.cells.1.2.2.2
              have m0 : wc.cell? ⟨nb, 0, none⟩ = some (.int .i64 1) := TM.out.cells.1
              have m1 : wc.cell? ⟨nb, 1, none⟩ = some (.string (mkS T2)) := TM.out.cells.2.1
              have m2 : wc.cell? ⟨nb, 2, none⟩ = some (.string (mkS A2)) := TM.out.cells.2.2.1
              have m3 : wc.cell? ⟨nb, 3, none⟩ = some (.bool E2) := TM.out.cells.2.2.2
              go_wp2_with fail
              refine (CU.out _).mono ?_
              rintro e w2 ⟨rfl, b2⟩
              have TM2 := Lib.hid (TM.out.below b2)
              have OW2 := Lib.hid (own_lenN TM2.out.h.o HLN.out)
              generalize unescR cb = U at *
              have CP := Lib.hid (spec_l6Put u4 w.heap.size ln L ⟨1, ⟨#[]⟩, mkS U, none, 0, 0⟩ w2 OW2.out (by omega) TM2.out.h.b.size (.inl rfl))
              go_wp2_with fail
              refine (CP.out).mono ?_
              rintro e w3 ⟨v3, rfl, p1, p2, g3, _⟩
              obtain ⟨L3, hs3, ht3, own3⟩ := put_new HSIG.out HTX.out HLN.out HUL.out p1 p2
              have TM3 := Lib.hid (TM2.out.put own3 g3)
              obtain ⟨oa, oc, hv3, _⟩ := ownN_formn own3
              subst hv3
              have HS3 := Lib.hid hs3
              have HT3 := Lib.hid ht3
              clear own3 g3 p1 p2 b2 hs3 ht3
              have TM4 := Lib.hid (TM3.out.pairs (Q' := []) (ownN_mono (ownN_new w3 #[] 60 2 0 rfl (by omega)) TM3.out.h.b.size) ((Below.refl _ _).alloc (Nat.le_refl _) _))
              go_wp2
              go_meet
              exact ⟨L3, oa, oc, w3.heap.size, 0, [], rfl, rfl, rfl, (Nat.zero_le _), HS3.out, rfl, HT3.out, TM4.out⟩
          | ends h1 h2 =>
            as_aux_lemma =>
              simp only [HN.out] at h1 h2
              subst h1; subst h2
              have hne : cb ≠ [] := HL14.out rfl
              have hl1 : 1 ≤ cb.length := List.length_pos_iff.2 hne
              have CA := Lib.hid (fun W => inF (M := 14) (lo := 2) (hi := 8) (by omega) W)
              have hdl : (mkS cb).extract 0 (cb.length - 1) = mkS cb.dropLast := bl_inj (by rw [bl_ext, bl_mkS, bl_mkS, List.drop_zero, List.dropLast_eq_take])
              have HUL : Hid (cb.dropLast.length ≤ 1048576) := by show _ ≤ _; rw [List.length_dropLast]; omega
              have s0 : wc.cell? ⟨w.heap.size + 1, 0, none⟩ = some (.int .i64 14) := TM.out.h.cells.1.1
              have s1 : wc.cell? ⟨w.heap.size + 1, 1, none⟩ = some (.string (mkS T)) := TM.out.h.cells.1.2.1
              have s2 : wc.cell? ⟨w.heap.size + 1, 2, none⟩ = some (.string (mkS A)) := TM.out.h.cells.1.2.2.1
              have s3 : wc.cell? ⟨w.heap.size + 1, 3, none⟩ = some (.bool EE) := TM.out.h.cells.1.2.2.2
              have m0 : wc.cell? ⟨nb, 0, none⟩ = some (.int .i64 9) := TM.out.cells.1
              have m1 : wc.cell? ⟨nb, 1, none⟩ = some (.string (mkS T2)) := TM.out.cells.2.1
              have m2 : wc.cell? ⟨nb, 2, none⟩ = some (.string (mkS A2)) := TM.out.cells.2.2.1
              have m3 : wc.cell? ⟨nb, 3, none⟩ = some (.bool E2) := TM.out.cells.2.2.2
              have hsb : ∀ W, (Instr.slice 9 (.string (mkS cb)) none (some (.int .i64 ((cb.length : Int) - 1))) none).run Try.prog W = .ok (.string (mkS cb.dropLast)) W := by
                intro W
                have := run_slice_string_h (P := Try.prog) W 9 (mkS cb) Try.underlying9 .i64 ((cb.length : Int) - 1) (by omega) (by rw [mkS_size]; omega)
                have e : ((cb.length : Int) - 1).toNat = cb.length - 1 := by omega
                simpa [e, hdl] using this
              have hsb2 := hsb wc
              go_wp2_with fail
              refine (CA.out _).mono ?_
              rintro e w1 ⟨rfl, rfl⟩
              go_wp2_with fail
              refine (CA.out _).mono ?_
              rintro e w1 ⟨rfl, rfl⟩
              have CP := Lib.hid (spec_l6Put u4 w.heap.size ln L ⟨5, ⟨#[]⟩, mkS cb.dropLast, none, 0, 0⟩ wc (own_lenN TM.out.h.o HLN.out) (by omega) TM.out.h.b.size (.inr rfl))
              go_wp2_with fail
              refine (CP.out).mono ?_
              rintro e w3 ⟨v3, rfl, p1, p2, g3, _⟩
              obtain ⟨L3, hs3, ht3, own3⟩ := put_new HSIG.out HTX.out HLN.out HUL.out p1 p2
              have TM3 := Lib.hid (TM.out.put own3 g3)
              obtain ⟨oa, oc, hv3, _⟩ := ownN_formn own3
              subst hv3
              have HS3 := Lib.hid hs3
              have HT3 := Lib.hid ht3
              clear own3 g3 p1 p2 hs3 ht3
              go_wp2
              go_meet
              exact ⟨L3, oa, oc, pg, pc, Q, rfl, rfl, rfl, (Nat.zero_le _), HS3.out, HLEN.out, HT3.out, TM3.out⟩
          | sep h1 h2 h3 =>
            as_aux_lemma =>
              simp only [HN.out] at h1 h2 h3
              subst h3
              have mf0 : ((M : Int) == 0) = false := kindF (n := 0) (by omega)
              have mf10 : ((M : Int) == 10) = false := kindF (n := 10) (by omega)
              have mf9 : ((M : Int) == 9) = false := kindF (n := 9) (by omega)
              have CA := Lib.hid (fun W => inT (M := M) (lo := 2) (hi := 8) (by omega) (by omega) W)
              have s0 : wc.cell? ⟨w.heap.size + 1, 0, none⟩ = some (.int .i64 (M : Int)) := TM.out.h.cells.1.1
              have s1 : wc.cell? ⟨w.heap.size + 1, 1, none⟩ = some (.string (mkS T)) := TM.out.h.cells.1.2.1
              have s2 : wc.cell? ⟨w.heap.size + 1, 2, none⟩ = some (.string (mkS A)) := TM.out.h.cells.1.2.2.1
              have s3 : wc.cell? ⟨w.heap.size + 1, 3, none⟩ = some (.bool EE) := TM.out.h.cells.1.2.2.2
              have m0 : wc.cell? ⟨nb, 0, none⟩ = some (.int .i64 3) := TM.out.cells.1
              have m1 : wc.cell? ⟨nb, 1, none⟩ = some (.string (mkS T2)) := TM.out.cells.2.1
              have m2 : wc.cell? ⟨nb, 2, none⟩ = some (.string (mkS A2)) := TM.out.cells.2.2.1
              have m3 : wc.cell? ⟨nb, 3, none⟩ = some (.bool E2) := TM.out.cells.2.2.2
              have CC := Lib.hid (spec_l6Close ⟨M, T, A, EE⟩ (mkS cb) pg cp pc w.heap.size Q wc TM.out.h.q HLEN.out (by omega) TM.out.h.b.size (by rw [mkS_size]; omega))
              simp only [st_agg] at CC
              go_wp2_with fail
              refine (CA.out _).mono ?_
              rintro e w1 ⟨rfl, rfl⟩
              go_wp2_with fail
              refine (CA.out _).mono ?_
              rintro e w1 ⟨rfl, rfl⟩
              go_wp2_with fail
              refine (CC.out).mono ?_
              rintro e w3 ⟨pg3, pc3, Q3, rfl, hq3, own3, b3⟩
              have TM3 := Lib.hid (TM.out.pairs own3 b3)
              have HQ3 := Lib.hid hq3
              clear own3 hq3
              obtain ⟨oa, oc, ho4, _⟩ := ownN_formn (own_lenN TM3.out.h.o HLN.out)
              subst ho4
              go_wp2
              go_meet
              exact ⟨L, oa, oc, pg3, pc3, Q3, (by rw [HLN.out]), rfl, rfl, (Nat.zero_le _), HSIG.out, HQ3.out, HTX.out, (by rw [HLN.out]; exact TM3.out)⟩
          | close h1 h2 h3 =>
            as_aux_lemma =>
              simp only [HN.out] at h1 h2 h3
              have mf0 : ((M : Int) == 0) = false := kindF (n := 0) (by omega)
              have mf10 : ((M : Int) == 10) = false := kindF (n := 10) (by omega)
              have mf9 : ((M : Int) == 9) = false := kindF (n := 9) (by omega)
              have CA := Lib.hid (fun W => inT (M := M) (lo := 2) (hi := 8) (by omega) (by omega) W)
              have CC := Lib.hid (spec_l6Close ⟨M, T, A, EE⟩ (mkS cb) pg cp pc w.heap.size Q wc TM.out.h.q HLEN.out (by omega) TM.out.h.b.size (by rw [mkS_size]; omega))
              simp only [st_agg] at CC
              rcases h3 with e | e
              · subst e
                have s0 : wc.cell? ⟨w.heap.size + 1, 0, none⟩ = some (.int .i64 (M : Int)) := TM.out.h.cells.1.1
                have s1 : wc.cell? ⟨w.heap.size + 1, 1, none⟩ = some (.string (mkS T)) := TM.out.h.cells.1.2.1
                have s2 : wc.cell? ⟨w.heap.size + 1, 2, none⟩ = some (.string (mkS A)) := TM.out.h.cells.1.2.2.1
                have s3 : wc.cell? ⟨w.heap.size + 1, 3, none⟩ = some (.bool EE) := TM.out.h.cells.1.2.2.2
                have m0 : wc.cell? ⟨nb, 0, none⟩ = some (.int .i64 0) := TM.out.cells.1
                have m1 : wc.cell? ⟨nb, 1, none⟩ = some (.string (mkS T2)) := TM.out.cells.2.1
                have m2 : wc.cell? ⟨nb, 2, none⟩ = some (.string (mkS A2)) := TM.out.cells.2.2.1
                have m3 : wc.cell? ⟨nb, 3, none⟩ = some (.bool E2) := TM.out.cells.2.2.2
                go_wp2_with fail
                refine (CA.out _).mono ?_
                rintro e w1 ⟨rfl, rfl⟩
                go_wp2_with fail
                refine (CC.out).mono ?_
                rintro e w3 ⟨pg3, pc3, Q3, rfl, hq3, own3, b3⟩
                have TM3 := Lib.hid (TM.out.pairs own3 b3)
                have HQ3 := Lib.hid hq3
                clear own3 hq3
                have OW3 := Lib.hid (own_lenN TM3.out.h.o HLN.out)
                have t0 : w3.cell? ⟨w.heap.size + 1, 0, none⟩ = some (.int .i64 (M : Int)) := TM3.out.h.cells.1.1
                have t1 : w3.cell? ⟨w.heap.size + 1, 1, none⟩ = some (.string (mkS T)) := TM3.out.h.cells.1.2.1
                have t2 : w3.cell? ⟨w.heap.size + 1, 2, none⟩ = some (.string (mkS A)) := TM3.out.h.cells.1.2.2.1
                have t3 : w3.cell? ⟨w.heap.size + 1, 3, none⟩ = some (.bool EE) := TM3.out.h.cells.1.2.2.2
                go_wp2_with (at_builtin; refine wpList_pushTokP (.tmp 92) (.tmp 97) w.heap.size (⟨2, mkS T, ⟨#[]⟩, some ⟨pg3, 0, none⟩, clR M cp, pc3⟩ : TokP) _ ln L OW3.out TM3.out.h.b.size (by omega) rfl (by rfl) (by rfl) w3.heap.size (by simp) (by rfl) ?_; intro v5 w5 o5 g5 a5; have TM5 := Lib.hid (TM3.out.put (L' := L ++ [(⟨2, mkS T, ⟨#[]⟩, some ⟨pg3, 0, none⟩, clR M cp, pc3⟩ : TokP)]) (own_lenN o5 (by rw [List.length_append, HLN.out]; rfl)) g5); obtain ⟨oa, oc, hv5, _⟩ := ownN_formn o5; subst hv5; clear o5 g5 a5)
                go_meet
                exact ⟨L ++ [(⟨2, mkS T, ⟨#[]⟩, some ⟨pg3, 0, none⟩, clR M cp, pc3⟩ : TokP)], oa, oc, pg3, pc3, Q3, (by rw [List.length_append, HLN.out]; rfl), rfl, rfl, (Nat.zero_le _), sigR_snoc HSIG.out rfl, HQ3.out, textR_snoc HTX.out (Nat.zero_le _), (by rw [List.length_append, HLN.out]; exact TM5.out)⟩
              · subst e
                have s0 : wc.cell? ⟨w.heap.size + 1, 0, none⟩ = some (.int .i64 (M : Int)) := TM.out.h.cells.1.1
                have s1 : wc.cell? ⟨w.heap.size + 1, 1, none⟩ = some (.string (mkS T)) := TM.out.h.cells.1.2.1
                have s2 : wc.cell? ⟨w.heap.size + 1, 2, none⟩ = some (.string (mkS A)) := TM.out.h.cells.1.2.2.1
                have s3 : wc.cell? ⟨w.heap.size + 1, 3, none⟩ = some (.bool EE) := TM.out.h.cells.1.2.2.2
                have m0 : wc.cell? ⟨nb, 0, none⟩ = some (.int .i64 11) := TM.out.cells.1
                have m1 : wc.cell? ⟨nb, 1, none⟩ = some (.string (mkS T2)) := TM.out.cells.2.1
                have m2 : wc.cell? ⟨nb, 2, none⟩ = some (.string (mkS A2)) := TM.out.cells.2.2.1
                have m3 : wc.cell? ⟨nb, 3, none⟩ = some (.bool E2) := TM.out.cells.2.2.2
                go_wp2_with fail
                refine (CA.out _).mono ?_
                rintro e w1 ⟨rfl, rfl⟩
                go_wp2_with fail
                refine (CC.out).mono ?_
                rintro e w3 ⟨pg3, pc3, Q3, rfl, hq3, own3, b3⟩
                have TM3 := Lib.hid (TM.out.pairs own3 b3)
                have HQ3 := Lib.hid hq3
                clear own3 hq3
                have OW3 := Lib.hid (own_lenN TM3.out.h.o HLN.out)
                have t0 : w3.cell? ⟨w.heap.size + 1, 0, none⟩ = some (.int .i64 (M : Int)) := TM3.out.h.cells.1.1
                have t1 : w3.cell? ⟨w.heap.size + 1, 1, none⟩ = some (.string (mkS T)) := TM3.out.h.cells.1.2.1
                have t2 : w3.cell? ⟨w.heap.size + 1, 2, none⟩ = some (.string (mkS A)) := TM3.out.h.cells.1.2.2.1
                have t3 : w3.cell? ⟨w.heap.size + 1, 3, none⟩ = some (.bool EE) := TM3.out.h.cells.1.2.2.2
                go_wp2_with (at_builtin; refine wpList_pushTokP (.tmp 92) (.tmp 97) w.heap.size (⟨2, mkS T, ⟨#[]⟩, some ⟨pg3, 0, none⟩, clR M cp, pc3⟩ : TokP) _ ln L OW3.out TM3.out.h.b.size (by omega) rfl (by rfl) (by rfl) w3.heap.size (by simp) (by rfl) ?_; intro v5 w5 o5 g5 a5; have TM5 := Lib.hid (TM3.out.put (L' := L ++ [(⟨2, mkS T, ⟨#[]⟩, some ⟨pg3, 0, none⟩, clR M cp, pc3⟩ : TokP)]) (own_lenN o5 (by rw [List.length_append, HLN.out]; rfl)) g5); obtain ⟨oa, oc, hv5, _⟩ := ownN_formn o5; subst hv5; clear o5 g5 a5)
                go_meet
                exact ⟨L ++ [(⟨2, mkS T, ⟨#[]⟩, some ⟨pg3, 0, none⟩, clR M cp, pc3⟩ : TokP)], oa, oc, pg3, pc3, Q3, (by rw [List.length_append, HLN.out]; rfl), rfl, rfl, (Nat.zero_le _), sigR_snoc HSIG.out rfl, HQ3.out, textR_snoc HTX.out (Nat.zero_le _), (by rw [List.length_append, HLN.out]; exact TM5.out)⟩
        case rest =>
          obtain ⟨L2, oa, oc, pg2, pc2, Q2, rfl, rfl, rfl, HBL, HSIG2, HLEN2, HTX2, TM2⟩ := hcut
          clear hcl HL14 hol hpl HSIG HLEN HTX TM HV HONE hx1 hxc hcs hln60 HLN
          have s0 : wc.cell? ⟨w.heap.size + 1, 0, none⟩ = some (.int .i64 (M : Int)) := TM2.out.h.cells.1.1
          have s1 : wc.cell? ⟨w.heap.size + 1, 1, none⟩ = some (.string (mkS T)) := TM2.out.h.cells.1.2.1
          have s2 : wc.cell? ⟨w.heap.size + 1, 2, none⟩ = some (.string (mkS A)) := TM2.out.h.cells.1.2.2.1
          have s3 : wc.cell? ⟨w.heap.size + 1, 3, none⟩ = some (.bool EE) := TM2.out.h.cells.1.2.2.2
          have m0 : wc.cell? ⟨nb, 0, none⟩ = some (.int .i64 (N : Int)) := TM2.out.cells.1
          have m1 : wc.cell? ⟨nb, 1, none⟩ = some (.string (mkS T2)) := TM2.out.cells.2.1
          have m2 : wc.cell? ⟨nb, 2, none⟩ = some (.string (mkS A2)) := TM2.out.cells.2.2.1
          have m3 : wc.cell? ⟨nb, 3, none⟩ = some (.bool E2) := TM2.out.cells.2.2.2
          have f0 : wc.frozen? ⟨w.heap.size + 1, 0, none⟩ = false := TM2.out.h.cells.2.1
          have f1 : wc.frozen? ⟨w.heap.size + 1, 1, none⟩ = false := TM2.out.h.cells.2.2.1
          have f2 : wc.frozen? ⟨w.heap.size + 1, 2, none⟩ = false := TM2.out.h.cells.2.2.2.1
          have f3 : wc.frozen? ⟨w.heap.size + 1, 3, none⟩ = false := TM2.out.h.cells.2.2.2.2
          obtain ⟨l2, hl2⟩ : ∃ l2, L2.length = l2 := ⟨_, rfl⟩
          have HL2 := Lib.hid hl2
          have hol2 : d'.out.length = l2 := by rw [← HSIG2.out, List.length_map, hl2]
          obtain ⟨dout, ds, dbuf, dp⟩ := d'
          simp only at *
          have HRS2 := HRS.out
          subst HRS2
          rw [hl2]
          clear hl2
          have BB := Lib.hid TM2.out.h.b
          have TH := Lib.hid (TM2.out.setS)
          by_cases h60 : 60 < l2
          · have HNN : Hid (tokR2 (bl s) = none) := HNO.out (by rw [HST.out, if_pos (.inl (by rw [hol2]; exact h60))])
            have q1 : (60 : Int) < (l2 : Int) := by omega
            have BE := Lib.hid TH.out.b
            clear TH HST HOK HRN HNO
            go_wp2
            exact bodyPost_ret (v := .tuple #[.slice (some ⟨_, 0, none⟩) 0 0, .bool false]) (by simp [results, Try.results39, go_sem]; rfl) rfl (tokAnsR_none HNN.out (BE.out.alloc BE.out.size _))
          · by_cases hp60 : 60 < dp
            · have HNN : Hid (tokR2 (bl s) = none) := HNO.out (by rw [HST.out, if_pos (.inr hp60)])
              have q1 : ¬ (60 : Int) < (l2 : Int) := by omega
              have q2 : (60 : Int) < (dp : Int) := by omega
              have BE := Lib.hid TH.out.b
              clear TH HST HOK HRN HNO
              go_wp2
              exact bodyPost_ret (v := .tuple #[.slice (some ⟨_, 0, none⟩) 0 0, .bool false]) (by simp [results, Try.results39, go_sem]; rfl) rfl (tokAnsR_none HNN.out (BE.out.alloc BE.out.size _))
            · have HS2 : Hid (stepQ ⟨co, ⟨M, T, A, EE⟩, cb, cp⟩ s[k] = some ⟨dout, ⟨N, T2, A2, E2⟩, dbuf, dp⟩) := by show _ = _; rw [HST.out, if_neg (by omega)]
              have q1 : ¬ (60 : Int) < (l2 : Int) := by omega
              have q2 : ¬ (60 : Int) < (dp : Int) := by omega
              go_wp2
              go_roundw
              case rel => exact ⟨k + 1, ⟨dout, ⟨N, T2, A2, E2⟩, dbuf, dp⟩, L2, pg2, pc2, Q2, by omega, by go_num, rfl, rfl, HBL.out, by rw [HRN.out]; exact HS2.out, HOK.out _ HS2.out, HSIG2.out, HLEN2.out, HTX2.out, by rw [← HL2.out] at *; exact TH.out⟩
              case measure => simp [intOf]; omega
    · have e : k = s.size := by omega
      subst e
      have HA : Hid (tokR2 (bl s) = if textB (bl s) = true then endR d else none) := by
        have hr := RD.out.run
        rw [List.take_of_length_le (by rw [bl_len]; exact Nat.le_refl _)] at hr
        show _ = _
        unfold tokR2
        rw [hr]; rfl
      have HSIG := Lib.hid RD.out.sig
      have HTX := Lib.hid RD.out.texts
      have TK := Lib.hid RD.out.mem
      have hol : d.out.length ≤ 60 := RD.out.ok.2.2.1
      obtain ⟨co, ⟨M, T, A, EE⟩, cb, cp⟩ := d
      simp only at hbl HSIG TK HA hol
      clear RD
      obtain ⟨ln, hln⟩ : ∃ ln, L.length = ln := ⟨_, rfl⟩
      have hln60 : ln ≤ 60 := by rw [← hln, ← List.length_map (f := sigR), HSIG.out]; exact hol
      have HLN := Lib.hid hln
      have CU := Lib.hid (fun W => spec_UnescapeText (mkS cb) W (by rw [mkS_size]; omega))
      simp only [bl_mkS] at CU
      have HUL : Hid ((unescR cb).length ≤ 1048576) := by have := unescR_len2 cb; show _ ≤ _; omega
      have HEO : Hid (endO ⟨co, ⟨M, T, A, EE⟩, cb, cp⟩ = putR co 1 (unescR cb)) := rfl
      have CV := Lib.hid (fun W => spec_TextValid s W (by omega))
      clear hln
      go_wp2_with fail
      refine (CU.out _).mono ?_
      rintro e w2 ⟨rfl, b2⟩
      have TK2 := Lib.hid (TK.out.below b2)
      have OW2 := Lib.hid (own_lenN TK2.out.o HLN.out)
      generalize unescR cb = U at *
      have CP := Lib.hid (spec_l6Put u4 w.heap.size ln L ⟨1, ⟨#[]⟩, mkS U, none, 0, 0⟩ w2 OW2.out (by omega) TK2.out.b.size (.inl rfl))
      go_wp2_with fail
      refine (CP.out).mono ?_
      rintro e w3 ⟨v3, rfl, p1, p2, g3, _⟩
      obtain ⟨L3, hs3, ht3, own3⟩ := put_new HSIG.out HTX.out HLN.out HUL.out p1 p2
      have TK3 := Lib.hid (TK2.out.put own3 g3)
      obtain ⟨oa, oc, hv3, _⟩ := ownN_formn own3
      subst hv3
      have HS3 := Lib.hid hs3
      have HT3 := Lib.hid ht3
      clear own3 g3 p1 p2 b2 hs3 ht3 CU CP TK TK2 OW2
      obtain ⟨l3, hl3⟩ : ∃ l3, L3.length = l3 := ⟨_, rfl⟩
      have HL3 := Lib.hid hl3
      rw [hl3]
      clear hl3
      by_cases h0 : M = 0
      · subst h0
        have s0 : w3.cell? ⟨w.heap.size + 1, 0, none⟩ = some (.int .i64 0) := TK3.out.cells.1.1
        rcases htv : textB (bl s) with _ | _
        · have HNN : Hid (tokR2 (bl s) = none) := by show _ = _; rw [HA.out, htv]; rfl
          rw [htv] at CV
          clear htv HA
          go_wp2_with fail
          refine (CV.out _).mono ?_
          rintro e w4 ⟨rfl, rfl⟩
          go_wp2
          exact bodyPost_ret (v := .tuple #[.slice (some ⟨_, 0, none⟩) 0 0, .bool false]) (by simp [results, Try.results39, go_sem]; rfl) rfl (tokAnsR_none HNN.out (TK3.out.b.alloc TK3.out.b.size _))
        · by_cases h60 : 60 < l3
          · have HNN : Hid (tokR2 (bl s) = none) := by show _ = _; rw [HA.out, htv, if_pos rfl]; unfold endR; rw [if_neg (fun h => by have h2 := h.2; rw [HEO.out, ← HS3.out, List.length_map, HL3.out] at h2; omega)]
            have q1 : (60 : Int) < (l3 : Int) := by omega
            rw [htv] at CV
            clear htv HA
            go_wp2_with fail
            refine (CV.out _).mono ?_
            rintro e w4 ⟨rfl, rfl⟩
            go_wp2
            exact bodyPost_ret (v := .tuple #[.slice (some ⟨_, 0, none⟩) 0 0, .bool false]) (by simp [results, Try.results39, go_sem]; rfl) rfl (tokAnsR_none HNN.out (TK3.out.b.alloc TK3.out.b.size _))
          · have HYE : Hid (tokR2 (bl s) = some (L3.map sigR)) := by show _ = _; rw [HA.out, htv, if_pos rfl]; unfold endR; rw [if_pos ⟨rfl, by rw [HEO.out, ← HS3.out, List.length_map, HL3.out]; omega⟩, HEO.out, HS3.out]
            have q1 : ¬ (60 : Int) < (l3 : Int) := by omega
            have q2 : l3 ≤ 60 := by omega
            rw [htv] at CV
            clear htv HA h60
            go_wp2_with fail
            refine (CV.out _).mono ?_
            rintro e w4 ⟨rfl, rfl⟩
            go_wp2
            exact bodyPost_ret (v := .tuple #[.slice oa l3 oc, .bool true]) (by simp [results, Try.results39, go_sem]) rfl (by rw [HYE.out]; exact ⟨_, L3, rfl, rfl, by rw [HL3.out]; exact q2, HT3.out, by have := TK3.out.o; rw [HL3.out] at this ⊢; exact this, TK3.out.b⟩)
      · have HNN : Hid (tokR2 (bl s) = none) := by
          show _ = _
          rw [HA.out]
          split
          · unfold endR; rw [if_neg (fun h => h0 h.1)]
          · rfl
        have mf : ((M : Int) != 0) = true := by simp; omega
        have s0 : w3.cell? ⟨w.heap.size + 1, 0, none⟩ = some (.int .i64 (M : Int)) := TK3.out.cells.1.1
        clear HA h0
        go_wp2
        exact bodyPost_ret (v := .tuple #[.slice (some ⟨_, 0, none⟩) 0 0, .bool false]) (by simp [results, Try.results39, go_sem]; rfl) rfl (tokAnsR_none HNN.out (TK3.out.b.alloc TK3.out.b.size _))
end Go.Proofs.Ytdoomfckdjjlaaa

/-! TableRows of both sides, for all texts: what they answer. -/
namespace Go.Proofs.Ytdoomfckdjjlaaa
open Go.RowKit

/-- Tokens with the number of their attributes that are those of a table. -/
def ResO (o : List (Tok × Nat)) : Prop := tabB (rowsOf (o.map (·.1))) = true ∧ o.map (·.1) = tabToks (rowsOf (o.map (·.1))) ∧ ∀ x ∈ o, x.2 = 0
def ResIs (r : Option (List (Tok × Nat))) (T : Option (List (List ByteArray))) : Prop :=
  match r with
  | none => T = none
  | some o => (ResO o ∧ T = some (rowsOf (o.map (·.1)))) ∨ (¬ ResO o ∧ T = none)
theorem resIs_ex (r : Option (List (Tok × Nat))) : ∃ T, ResIs r T := by
  cases r with
  | none => exact ⟨none, rfl⟩
  | some o =>
    by_cases h : ResO o
    · exact ⟨_, .inl ⟨h, rfl⟩⟩
    · exact ⟨_, .inr ⟨h, rfl⟩⟩
theorem resIs_some {r : Option (List (Tok × Nat))} {T : List (List ByteArray)} (h : ResIs r (some T)) : ∃ o, r = some o ∧ tabB T = true ∧ o.map (·.1) = tabToks T ∧ ∀ x ∈ o, x.2 = 0 := by
  cases r with
  | none => cases h
  | some o =>
    rcases h with ⟨h1, h2⟩ | ⟨_, h2⟩
    · injection h2 with h2
      subst h2
      exact ⟨o, rfl, h1⟩
    · cases h2
theorem resOk_iff {L : List TokP} {o : List (Tok × Nat)} (h : L.map sigR = o) : ResOk L ↔ ResO o := by
  subst h
  unfold ResOk ResO
  rw [List.map_map]
  have e : ((fun x : Tok × Nat => x.1) ∘ sigR) = TokP.core := rfl
  rw [show ((·.1) ∘ sigR : TokP → Tok) = TokP.core from rfl]
  refine and_congr_right fun _ => and_congr_right fun _ => ⟨fun h x hx => ?_, fun h t ht => ?_⟩
  · obtain ⟨t, ht, rfl⟩ := List.mem_map.1 hx
    exact h t ht
  · exact h _ (List.mem_map_of_mem ht)
theorem core_map {L : List TokP} {o : List (Tok × Nat)} (h : L.map sigR = o) : L.map TokP.core = o.map (·.1) := by
  subst h
  rw [List.map_map]; rfl
/-- What TableRows answers: rows, or none. -/
def RowsAns (w : World) (T : Option (List (List ByteArray))) (e : Ending) (w' : World) : Prop :=
  match T with
  | some T => (∃ v vs, e = .returned (.tuple #[v, .bool true]) ∧ w'.ownsRow w.heap.size 31 1 v T.length vs ∧ OwnLs w' w.heap.size vs T) ∧ Below w.heap.size w w'
  | none => (∃ a c, e = .returned (.tuple #[.slice a 0 c, .bool false])) ∧ Below w.heap.size w w'
theorem rows_ans {w w' : World} {e : Ending} {o : List (Tok × Nat)} {T : Option (List (List ByteArray))} (h : RowsPost w (fun L => L.map sigR = o) e w') (hT : ResIs (some o) T) : RowsAns w T e w' := by
  obtain ⟨L, hL, hb, h⟩ := h
  have hi := resOk_iff hL
  have hc := core_map hL
  rcases hT with ⟨h1, rfl⟩ | ⟨h1, rfl⟩
  · rcases h with ⟨_, v, vs, rfl, h3, h4⟩ | ⟨h2, _⟩
    · rw [hc] at h3 h4
      exact ⟨⟨v, vs, rfl, h3, h4⟩, hb⟩
    · exact absurd (hi.2 h1) h2
  · rcases h with ⟨h2, _⟩ | ⟨_, v, rfl, a, c, rfl⟩
    · exact absurd (hi.1 h2) h1
    · exact ⟨⟨a, c, rfl⟩, hb⟩
set_option maxRecDepth 100000 in
theorem impl_TableRowsG (s : ByteArray) (T : Option (List (List ByteArray))) (w : World) (hs : s.size ≤ 1048576) (hT : ResIs (tokI (bl s)) T) : Calls Try.prog 13 #[.string s] w (RowsAns w T) := by
  have h := impl_TokenizeG s w hs
  cases hr : tokI (bl s) with
  | none =>
    rw [hr] at h hT
    obtain rfl := hT
    have CT := Lib.hid h
    clear h hr
    go_enter Try.func13, Try.ntmps13
    go_wp2_with fail
    refine CT.out.mono ?_
    rintro e w1 ⟨rfl, b1⟩
    go_wp2
    exact bodyPost_ret (v := .tuple #[.slice none 0 0, .bool false]) (by simp [results, Try.results13, go_sem]) rfl ⟨⟨none, 0, rfl⟩, b1⟩
  | some o =>
    rw [hr] at h hT
    refine (impl_TableRows s w (fun L => L.map sigP = o) h).mono ?_
    intro e w' hp
    exact rows_ans hp hT
set_option maxRecDepth 100000 in
set_option maxHeartbeats 800000 in
theorem spec_TableRowsG (s : ByteArray) (T : Option (List (List ByteArray))) (w : World) (hs : s.size ≤ 1048576) (hT : ResIs (tokI (bl s)) T) : Calls Try.prog 16 #[.string s] w (RowsAns w T) := by
  have h := spec_Tokenize s w hs
  rw [tok_same] at hT
  cases hr : tokR2 (bl s) with
  | none =>
    rw [hr] at h hT
    obtain rfl := hT
    have CT := Lib.hid h
    have hx60 := tokR_len []
    obtain ⟨X, hX⟩ : ∃ X, tokR [] = X := ⟨_, rfl⟩
    have CI := Lib.hid (fun (a : Option Addr) (c : Nat) W => spec_TableTokens a 0 c [] W (fun i h => by simp at h) rfl (by omega) ⟨Nat.zero_le _, fun r hr => by cases hr⟩)
    rw [hX] at CI hx60
    obtain ⟨x, hx⟩ : ∃ x, X.length = x := ⟨_, rfl⟩
    have HX := Lib.hid hx
    clear h hr hX hx
    go_enter Try.func16, Try.ntmps16
    go_wp2_with fail
    refine CT.out.mono ?_
    rintro e w1 ⟨⟨b, rfl⟩, b1⟩
    have B1 := Lib.hid b1
    have hw1 := b1.size
    have B2 : Hid (Below w.heap.size w (w1.alloc (.cells #[] 31 (0, 0)))) := b1.alloc hw1 _
    clear b1
    go_wp2
    go_loop [6, 7] (fun q t => q = .slice (some ⟨w1.heap.size, 0, none⟩) 0 0 ∧ t = .int .i64 0) (fun _ _ => 0)
    case atStart => exact ⟨rfl, rfl⟩
    case round =>
      obtain ⟨rfl, rfl⟩ := hrel
      go_wp2_with fail
      refine (CI.out _ _ _).mono ?_
      rintro e w2 ⟨v, rfl, o2, b2⟩
      rw [HX.out] at o2
      obtain ⟨xa, xc, rfl, _⟩ := toks_own o2 HX.out
      have B3 := Lib.hid (B2.out.trans (b2.mono B2.out.size))
      clear o2 b2
      go_wp2
      exact bodyPost_ret (v := .tuple #[.slice (some ⟨_, 0, none⟩) 0 0, .bool false]) (by simp [results, Try.results16, go_sem]; rfl) rfl ⟨⟨_, _, rfl⟩, B3.out.alloc B3.out.size _⟩
  | some o =>
    rw [hr] at h hT
    refine (spec_TableRowsY s w (fun L => L.map sigR = o) h).mono ?_
    intro e w' hp
    exact rows_ans hp hT
/-- Bounds of a table. -/
theorem tab_small {T : List (List ByteArray)} (h : tabB T = true) : T.length ≤ 4 ∧ ∀ r ∈ T, r.length ≤ 6 ∧ ∀ t ∈ r, t.size ≤ 30 := by
  unfold tabB at h
  rw [Bool.and_eq_true, Bool.and_eq_true, decide_eq_true_iff, List.all_eq_true] at h
  refine ⟨h.1.1, fun r hr => ?_⟩
  have h2 := h.1.2 r hr
  unfold rowB at h2
  rw [Bool.and_eq_true, decide_eq_true_iff, List.all_eq_true] at h2
  refine ⟨h2.1, fun t ht => ?_⟩
  have h3 := h2.2 t ht
  unfold cellB at h3
  rw [Bool.and_eq_true, decide_eq_true_iff] at h3
  exact h3.2
theorem tab_okN {T : List (List ByteArray)} (h : tabB T = true) : TabOkN 1048576 T := by
  obtain ⟨h1, h2⟩ := tab_small h
  exact ⟨by omega, fun r hr => ⟨by have := (h2 r hr).1; omega, fun t ht => by have := (h2 r hr).2 t ht; omega⟩⟩
end Go.Proofs.Ytdoomfckdjjlaaa
