/- The program's ReadSources (printed by gen_rdi.py). -/
import Derived.Test.YtpplagecancccaaDoorRdD
namespace Go.Proofs.YtpplagecancccaaDoor
open Go.RowKit

/-- What a call of ReadSources returns. -/
def ReadPost (w : World) (r : List Src × Bool) (e : Ending) (w' : World) : Prop :=
  ∃ (v : Value) (l : List (ByteArray × Value)), e = .returned (.tuple #[v, .bool r.2]) ∧ w'.ownsRow w.heap.size 40 2 v r.1.length (prC l) ∧ SrcD w' w.heap.size l r.1 ∧ Below w.heap.size w w'
theorem emptyR {s : ByteArray} (h : ¬ s = ⟨#[]⟩) : s.toList.isEmpty = false := by
  rw [ByteArray.toList_eq]
  rcases hb : s.data.toList.isEmpty with _ | _
  · rfl
  · rw [List.isEmpty_iff] at hb
    exact absurd (bl_inj (a := s) (b := ⟨#[]⟩) hb) h
theorem own_nil0 (w : World) (B : Nat) (e : TypeId) (k : Nat) : w.ownsRow B e k (.slice none 0 0) 0 [] := ⟨by simp, .inl ⟨rfl, rfl⟩⟩
theorem len2 {w : World} {B : Nat} {e : TypeId} {k n m : Nat} {v : Value} {l : List Value} (h : w.ownsRow B e k v n l) (hn : n = m) : w.ownsRow B e k v m l := by subst hn; exact h
theorem parse_take {L : List (List UInt8)} {k : Nat} (h : k < L.length) : (L.take (k + 1)).map (fun p => mkSrc (cutAt 32 p)) = (L.take k).map (fun p => mkSrc (cutAt 32 p)) ++ [mkSrc (cutAt 32 L[k])] := by
  rw [List.take_succ_eq_append_getElem h, List.map_append]; rfl
theorem headD_get {L : List (List UInt8)} (h : 0 < L.length) : L[0] = L.headD [] := by cases L with
  | nil => simp at h
  | cons y r => rfl
theorem readR_nil : readR (bl ⟨#[]⟩) = ([], true) := by
  have : readOk (parse (bl ⟨#[]⟩)) (bl ⟨#[]⟩) = true := by
    rw [readOk_iff]
    exact ⟨rfl, rfl⟩
  exact readR_yes this

set_option maxRecDepth 100000 in
set_option maxHeartbeats 1600000 in
theorem impl_ReadSources (s : ByteArray) (w : World) (hs : s.size ≤ 1048576) (hm : MaxOk w) :
    Calls Tryd.prog 11 #[.string s] w (ReadPost w (readR (bl s))) := by
  have HM := Lib.hid hm
  clear hm
  have OS0 := Lib.hid (ownN_new w #[] 40 2 0 rfl (by omega))
  have B0 : Hid (Below w.heap.size w (w.alloc (.cells #[] 40 (0, 0)))) := bel_new _
  by_cases he : s = ⟨#[]⟩
  · subst he
    rw [readR_nil]
    go_enter Tryd.func11, Tryd.ntmps11
    go_wp2
    go_ret2
    exact ⟨_, [], rfl, OS0.out, True.intro, B0.out⟩
  · have hem := emptyR he
    have HP : Hid (parseI (bl s) = (split2 (bl s)).map fun p => mkSrc (cutAt 32 p)) := by
      show _ = _
      rw [parseI, if_neg (show ¬ bl s = [] from fun e => he (bl_inj (a := s) (b := ⟨#[]⟩) e))]
    have hln := split2_len s
    have HPL : Hid (∀ p ∈ split2 (bl s), p.length ≤ s.size) := fun p hp => by
      have := splitK_mem _ _ p hp
      rwa [bl_len] at this
    have HYES := Lib.hid (@readI_yes (bl s)); have HNO := Lib.hid (@readI_no (bl s))
    have CSP := Lib.hid (fun W h => split2_at s W h hs)
    clear he
    obtain ⟨L, hL⟩ : ∃ L, split2 (bl s) = L := ⟨_, rfl⟩
    rw [hL] at HP hln HPL CSP
    clear hL
    obtain ⟨np, hnp⟩ : ∃ np, L.length = np := ⟨_, rfl⟩
    rw [hnp] at hln CSP
    have HNP := Lib.hid hnp
    clear hnp
    go_enter Tryd.func11, Tryd.ntmps11
    go_wp2_with fail
    refine (CSP.out _ (HM.out.below (bel_new _))).mono ?_
    rintro e w1 ⟨rfl, rfl⟩
    obtain ⟨pb, hpb⟩ : ∃ pb, (w.alloc (.cells #[] 40 (0, 0))).heap.size = pb := ⟨_, rfl⟩
    have hnew := heap_alloc_new (w.alloc (.cells #[] 40 (0, 0))) (.cells (strArr L) 9 (0, 0))
    have OS1 := Lib.hid (ownN_below OS0.out (bel_new (.cells (strArr L) 9 (0, 0))))
    have B1 : Hid (Below w.heap.size w ((w.alloc (.cells #[] 40 (0, 0))).alloc (.cells (strArr L) 9 (0, 0)))) := B0.out.alloc B0.out.size _
    rw [hpb] at hnew
    have hpb1 : pb = w.heap.size + 1 := by rw [← hpb, World.size_alloc]
    rw [hpb]
    generalize hw1 : (w.alloc (.cells #[] 40 (0, 0))).alloc (.cells (strArr L) 9 (0, 0)) = w1 at *
    have HPB := Lib.hid hnew
    clear hw1 hnew OS0 B0 CSP hpb
    subst hpb1
    go_wp2
    go_loopw [4, 15] (fun o t wr => ∃ (k : Nat) (l : List (ByteArray × Value)) (S : List Src), t = .int .i64 (k : Int) ∧ k ≤ np ∧ wr.ownsRow w.heap.size 40 2 o k (prC l) ∧ Hid (SrcD wr w.heap.size l S) ∧ Hid (S = (L.take k).map fun p => mkSrc (cutAt 32 p)) ∧ Hid (wr.heap[w.heap.size + 1]? = some (.cells (strArr L) 9 (0, 0))) ∧ Below w.heap.size w wr) (fun _ t _ => np - (intOf t).toNat)
    case atStart => exact ⟨0, [], [], rfl, Nat.zero_le _, OS1.out, True.intro, rfl, HPB.out, B1.out⟩
    case round =>
      obtain ⟨k, l, S, rfl, hk, own, HL, HS, HC, hb⟩ := hrel
      clear OS1 B1 HPB
      have OS := Lib.hid own
      have BW := Lib.hid hb
      have hws := hb.size
      clear own hb
      by_cases hlt : k < np
      · have hkL : k < L.length := by rw [HNP.out]; exact hlt
        have hpc : wr.cell? ⟨w.heap.size + 1, k, none⟩ = some (.string (mkS L[k])) := by
          rw [cell_of_row wr (w.heap.size + 1) k _ _ _ HC.out, strArr_get L k (by simpa using hkL), List.getElem_map]
        have hpl : L[k].length ≤ s.size := HPL.out _ (List.getElem_mem _)
        have hpbl : w.heap.size + 1 < wr.heap.size := (Array.getElem?_eq_some_iff.1 HC.out).1
        have HPT := Lib.hid (parse_take hkL)
        generalize L[k] = p at hpc hpl HPT
        have hps : (mkS p).size ≤ 1048576 := by rw [mkS_size]; omega
        have CS2 := Lib.hid (split_at (mkS p) 32 wr (HM.out.below BW.out) hps)
        rw [bl_mkS] at CS2
        have hcl := cutAt_len 32 p
        have HSO : Hid (SrcOk 1048576 (mkSrc (cutAt 32 p))) := mkSrc_ok (by omega)
        go_wp2_with fail
        refine CS2.out.mono ?_
        rintro e w3 ⟨rfl, rfl⟩
        obtain ⟨bw, hbw⟩ : ∃ bw, wr.heap.size = bw := ⟨_, rfl⟩
        have hnew := heap_alloc_new wr (.cells (strArr (cutAt 32 p)) 9 (0, 0))
        have OS3 := Lib.hid (ownN_below OS.out (bel_new (.cells (strArr (cutAt 32 p)) 9 (0, 0))))
        have HQ3 : Hid (∀ q : Nat, u4.ownBlock = some q → w.heap.size ≤ q ∧ q < bw) := fun q hq => by have := ownN_ge OS.out q hq; omega
        have B3 : Hid (Below w.heap.size w (wr.alloc (.cells (strArr (cutAt 32 p)) 9 (0, 0)))) := BW.out.alloc hws _
        have HC3 : Hid ((wr.alloc (.cells (strArr (cutAt 32 p)) 9 (0, 0))).heap[w.heap.size + 1]? = some (.cells (strArr L) 9 (0, 0))) := by
          show _ = _
          rw [heap_alloc_old _ _ hpbl]; exact HC.out
        have HKS : Hid (KeepStr wr (wr.alloc (.cells (strArr (cutAt 32 p)) 9 (0, 0)))) := KeepStr.of_below (bel_new _)
        have hsz3 : (wr.alloc (.cells (strArr (cutAt 32 p)) 9 (0, 0))).heap.size = bw + 1 := by rw [World.size_alloc, hbw]
        rw [hbw] at hnew
        generalize hw3 : wr.alloc (.cells (strArr (cutAt 32 p)) 9 (0, 0)) = w3 at *
        obtain ⟨K, hK⟩ : ∃ K, mkS ((cutAt 32 p).headD []) = K := ⟨_, rfl⟩
        obtain ⟨nw, hnw⟩ : ∃ nw, (cutAt 32 p).length = nw := ⟨_, rfl⟩
        rw [hnw] at hcl
        have hw0 : w3.cell? ⟨bw, 0, none⟩ = some (.string K) := by
          rw [cell_of_row w3 bw 0 _ _ _ hnew, strArr_get (cutAt 32 p) 0 (by rw [List.length_map]; omega), List.getElem_map, ← hK]
          exact congrArg (fun x => some (Value.string (mkS x))) (headD_get (by omega))
        obtain ⟨fa, fn, fc, hT⟩ : ∃ fa fn fc, tail1 bw nw nw = .slice fa fn fc := by
          unfold tail1; split <;> exact ⟨_, _, _, rfl⟩
        have HT := Lib.hid hT
        have HSUB : Hid (SubS w3 bw bw (.slice fa fn fc) (mkSrc (cutAt 32 p)).F) := by
          have := sub_tail (W := (cutAt 32 p).map mkS) (c := nw) hT (by rw [List.length_map, hnw]) (by omega) (Nat.le_refl _) (by omega) hnew (fun i hi => strArr_get _ i hi)
          rwa [← List.map_tail] at this
        have HKK : Hid ((mkSrc (cutAt 32 p)).K = K) := hK
        have hbwne : u4.ownBlock ≠ some bw := fun e => by have := HQ3.out bw e; omega
        have HBWN := Lib.hid hbwne
        clear hw3 hnew hT hK hbwne OS
        generalize hsrc : mkSrc (cutAt 32 p) = src at *
        rw [hnw]
        clear hnw hsrc
        go_wp2
        obtain ⟨H, hHH⟩ : ∃ H, w3.heap.size = H := ⟨_, rfl⟩
        have hHs : w3.drew.heap.size = H := hHH
        have hbwN := HBWN.out
        have HQ : Hid (∀ q : Nat, u4.ownBlock = some q → q < H) := fun q hq => by have := HQ3.out q hq; omega
        refine wp_region_any (by kernel_rfl) ?_
        rename_i KK hKK
        refine region_free (putSlot H w.heap.size k bw nw nw u4 l K fa fn fc) (GPut H w.heap.size k u4 l w3) 41 10 (by kernel_rfl) (Nat.le_refl 41) (by kernel_rfl) rfl rfl (by decide) ?start ?step ?done
        case start => exact ⟨grown_drewN (grown_refl _ _) 1, Nat.le_of_eq hHs.symm, fun _ => OS3.out, (by intro e; cases e)⟩
        case step =>
          intro i o ho listed wx a hls hli hdp hG hD KC hK
          have hlt : i < 10 := by have := (Array.getElem?_eq_some_iff.1 ho).1; simpa using this
          rcases (show i = 0 ∨ i = 1 ∨ i = 2 ∨ i = 3 ∨ i = 4 ∨ i = 5 ∨ i = 6 ∨ i = 7 ∨ i = 8 ∨ i = 9 by omega) with rfl | rfl | rfl | rfl | rfl | rfl | rfl | rfl | rfl | rfl
          · have h4 := hD.old 4 (by kernel_rfl)
            obtain rfl := Option.some.inj ho
            clear hD
            unfold Oper.wp
            simp [execOp, Act.eval, h4]
            exact hK _ _ (.inr rfl) (fun _ _ _ _ h => h) (hG.keep (by decide) (grown_refl _ _))
          · have h7 := hD.old 7 (by kernel_rfl)
            obtain rfl := Option.some.inj ho
            clear hD
            unfold Oper.wp
            simp [execOp, Act.eval, h7]
            exact hK _ _ (.inr rfl) (fun _ _ _ _ h => h) (hG.keep (by decide) (grown_refl _ _))
          · obtain ⟨v1, s1, rfl⟩ := hD.dep 1 22 rfl rfl (by obtain rfl := Option.some.inj ho; kernel_rfl)
            obtain rfl := Option.some.inj ho
            clear hD
            unfold Oper.wp
            simp [execOp, Act.eval, s1]
            go_simp
            (try rw [if_pos (by omega)])
            exact hK _ _ (.inr rfl) (fun _ _ _ _ h => h) (hG.keep (by decide) (grown_refl _ _))
          · obtain ⟨v2, s2, rfl⟩ := hD.dep 2 23 rfl rfl (by obtain rfl := Option.some.inj ho; kernel_rfl)
            obtain rfl := Option.some.inj ho
            clear hD
            have hcc := hG.word hbwN hw0
            unfold Oper.wp
            simp [execOp, Act.eval, s2]
            go_simp
            exact hK _ _ (.inr rfl) (fun _ _ _ _ h => h) (hG.keep (by decide) (grown_refl _ _))
          · have h7 := hD.old 7 (by kernel_rfl)
            obtain rfl := Option.some.inj ho
            clear hD
            unfold Oper.wp
            simp [execOp, Act.eval, h7]
            exact hK _ _ (.inr rfl) (fun _ _ _ _ h => h) (hG.keep (by decide) (grown_refl _ _))
          · obtain ⟨v4, s4, rfl⟩ := hD.dep 4 25 rfl rfl (by obtain rfl := Option.some.inj ho; kernel_rfl)
            obtain rfl := Option.some.inj ho
            clear hD
            by_cases hc1 : nw = 1
            · subst hc1
              obtain ⟨rfl, rfl, rfl⟩ : fa = some ⟨bw, 0, none⟩ ∧ fn = 0 ∧ fc = 0 := by have := HT.out; unfold tail1 at this; rw [if_pos rfl] at this; injection this with e1 e2 e3; exact ⟨e1.symm, e2.symm, e3.symm⟩
              unfold Oper.wp
              simp [execOp, Act.eval, s4]
              go_simp
              (try rw [if_pos (by omega)])
              (try rw [if_pos (by omega)])
              exact hK _ _ (.inr rfl) (fun _ _ _ _ h => h) (hG.keep (by decide) (grown_refl _ _))
            · obtain ⟨rfl, rfl, rfl⟩ : fa = some ⟨bw, 1, none⟩ ∧ fn = nw - 1 ∧ fc = nw - 1 := by have := HT.out; unfold tail1 at this; rw [if_neg hc1] at this; injection this with e1 e2 e3; exact ⟨e1.symm, e2.symm, e3.symm⟩
              unfold Oper.wp
              simp [execOp, Act.eval, s4]
              go_simp
              (try rw [if_pos (by omega)])
              (try rw [if_pos (by omega)])
              exact hK _ _ (.inr rfl) (fun _ _ _ _ h => h) (hG.keep (by decide) (grown_refl _ _))
          · obtain ⟨v3, s3, rfl⟩ := hD.dep 3 24 rfl rfl (by obtain rfl := Option.some.inj ho; kernel_rfl)
            obtain ⟨v5, s5, rfl⟩ := hD.dep 5 26 rfl rfl (by obtain rfl := Option.some.inj ho; kernel_rfl)
            obtain rfl := Option.some.inj ho
            clear hD
            unfold Oper.wp
            simp [execOp, Act.eval, s3, s5]
            go_simp
            exact hK _ _ (.inr rfl) (fun _ _ _ _ h => h) (hG.keep (by decide) (grown_refl _ _))
          · obtain ⟨v6, s6, rfl⟩ := hD.dep 6 27 rfl rfl (by obtain rfl := Option.some.inj ho; kernel_rfl)
            obtain rfl := Option.some.inj ho
            clear hD
            unfold Oper.wp
            simp [execOp, Act.eval, s6]
            go_simp
            exact hK _ _ (.inr ⟨_, hG.2.1, rfl, heap_alloc_new _ _⟩) (fun j u _ _ h => put_kept (KeepFrom.of_grown (World.grownBy_alloc _ _ none) (by intro j e; cases e)) (fun v n l o => ownN_below o (bel_new _)) j u h) (hG.keep (by decide) (World.grownBy_alloc _ _ _))
          · obtain ⟨v0, s0, hv0⟩ := hD.dep 0 21 rfl rfl (by obtain rfl := Option.some.inj ho; kernel_rfl)
            rw [show v0 = _ from hv0] at s0
            obtain ⟨v7, s7, b7, hb7, rfl, hc7⟩ := hD.dep 7 28 rfl rfl (by obtain rfl := Option.some.inj ho; kernel_rfl)
            obtain rfl := Option.some.inj ho
            clear hD
            have own := hG.2.2.1 hli
            refine oper_pushSrc2 (.tmp 21) (.tmp 28) _ _ _ l K fa fn fc own (by have := hG.2.1; omega) (by omega) b7 hc7 rfl (by simp [Act.eval, s0]) (by simp [Act.eval, s7]) ?_
            intro v' w' o' g'
            exact hK _ _ (.inr o') (fun j u hj hl h => put_kept8 (KeepFrom.of_grown g' HQ.out) j u hj (fun e => by subst e; have := hG.2.2.2 hl; rw [hli] at this; cases this) h) (hG.push g')
          · obtain ⟨v8, s8, own⟩ := hD.dep 8 29 rfl rfl (by obtain rfl := Option.some.inj ho; kernel_rfl)
            have h8 := hdp 8 (by obtain rfl := Option.some.inj ho; kernel_rfl)
            obtain rfl := Option.some.inj ho
            clear hD
            unfold Oper.wp
            simp [execOp, Act.eval, s8]
            exact hK _ _ (.inr own) (fun _ _ _ _ h => h) (hG.last h8)
        case done =>
          intro listed a wx hall hd hsz hold hdst hG
          obtain ⟨v4, h4, own4⟩ := hdst 9 4 _ rfl rfl
          have hf := act_frame [21, 22, 23, 24, 25, 26, 27, 28, 29, 4] (by kernel_rfl) hd hsz hold
          have e4 : a.tmps.getD 4 undef = v4 := by rw [Array.getD_eq_getD_getElem?, h4]; rfl
          simp only [List.foldl_cons, List.foldl_nil] at hf
          rw [e4] at hf
          have HG := Lib.hid hG.1
          have OS5 := Lib.hid own4
          clear hall hd hsz hold hdst hG own4 h4 e4
          generalize a.tmps.getD 21 undef = y21, a.tmps.getD 22 undef = y22, a.tmps.getD 23 undef = y23, a.tmps.getD 24 undef = y24, a.tmps.getD 25 undef = y25, a.tmps.getD 26 undef = y26, a.tmps.getD 27 undef = y27, a.tmps.getD 28 undef = y28, a.tmps.getD 29 undef = y29 at hf
          refine hKK _ _ ?_
          rw [hf]
          clear hf
          have ks := KeepStr.of_src OS3.out HG.out
          have HL5 : Hid (SrcD wx w.heap.size (l ++ [(K, .slice fa fn fc)]) (S ++ [src])) := by
            have h1 := SrcD.snoc (K := K) (HKS.out.trans ks) (by rw [hbw]; exact HSUB.out.keep ks) l S _ hws HL.out
            obtain ⟨sK, sF⟩ := src
            rw [← show sK = K from HKK.out] at h1 ⊢
            exact h1
          have HS5 : Hid (S ++ [src] = (L.take (k + 1)).map fun p => mkSrc (cutAt 32 p)) := by show _ = _; rw [HPT.out, HS.out]
          have HC5 : Hid (wx.heap[w.heap.size + 1]? = some (.cells (strArr L) 9 (0, 0))) := ks _ _ HC3.out
          have BX : Hid (Below w.heap.size w wx) := B3.out.grown HG.out B3.out.size (fun q hq => (HQ3.out q hq).1)
          clear ks
          go_wp2
          go_roundw
          case rel => exact ⟨k + 1, _, _, by go_num, by omega, OS5.out, HL5, HS5, HC5, BX.out⟩
          case measure => simp [intOf]; omega
      · obtain rfl : k = np := by omega
        have HSP : Hid (S = parseI (bl s)) := by
          show _ = _
          rw [HS.out, HP.out, List.take_of_length_le (by rw [HNP.out]; exact Nat.le_refl _)]
        have hSl : S.length = k := by rw [HS.out, List.length_map, List.length_take, HNP.out]; omega
        obtain ⟨a5, c5, hv5, hc5, hc5', hat⟩ := srcs_ownD OS.out HL.out hSl
        have AT := Lib.hid (hat.mono (Nat.zero_le _))
        have HSO : Hid (∀ t ∈ S, SrcOk 1048576 t) := fun t ht => by
          rw [HS.out] at ht
          obtain ⟨p, hp, rfl⟩ := List.mem_map.1 ht
          exact mkSrc_ok (by have := HPL.out p (List.mem_of_mem_take hp); omega)
        have HSL := Lib.hid hSl
        have CV := Lib.hid (fun W h => impl_SourcesValid a5 k c5 S W h hSl (by omega) hc5 hc5' HSO.out)
        have CT := Lib.hid (fun W h => impl_SourcesText a5 k c5 S W h hSl (by omega) hc5 hc5' HSO.out)
        rw [← HSP.out] at HYES HNO
        have hRO : readOk S (bl s) = (validB S && decide (srcTxt S = s)) := by
          rw [readOk]
          congr 1
          rw [decide_eq_decide]
          exact ⟨fun e => bl_inj e, fun e => by rw [e]⟩
        rw [hRO] at HYES HNO
        have htl := tl_yn (srcTxt S) s
        subst hv5
        clear hat hSl HS HP HPL HSP hRO HC
        rcases hv : validB S with _ | _
        · rw [hv] at CV HNO
          have HR := Lib.hid (HNO.out rfl)
          go_wp2_with fail
          refine (CV.out _ AT.out).mono ?_
          rintro e w6 ⟨rfl, b6⟩
          go_wp2
          go_ret2
          rw [HR.out]
          exact ⟨_, [], rfl, own_nil0 _ _ _ _, True.intro, BW.out.trans (b6.mono BW.out.size)⟩
        · rw [hv] at CV HNO HYES
          rcases hd : decide (srcTxt S = s) with _ | _
          · rw [hd] at HNO htl
            have HR := Lib.hid (HNO.out rfl)
            clear HYES HNO
            go_wp2_with fail
            refine (CV.out _ AT.out).mono ?_
            rintro e w6 ⟨rfl, b6⟩
            have B6 := Lib.hid (BW.out.trans (b6.mono BW.out.size))
            have AT6 := Lib.hid (AT.out.below b6)
            clear b6
            go_wp2_with fail
            refine (CT.out _ AT6.out).mono ?_
            rintro e w7 ⟨rfl, b7⟩
            generalize srcTxt S = y at *
            go_wp2
            go_ret2
            rw [HR.out]
            exact ⟨_, [], rfl, own_nil0 _ _ _ _, True.intro, B6.out.trans (b7.mono B6.out.size)⟩
          · rw [hd] at HYES htl
            have HR := Lib.hid (HYES.out rfl)
            clear HYES HNO
            go_wp2_with fail
            refine (CV.out _ AT.out).mono ?_
            rintro e w6 ⟨rfl, b6⟩
            have B6 := Lib.hid (BW.out.trans (b6.mono BW.out.size))
            have AT6 := Lib.hid (AT.out.below b6)
            have OS6 := Lib.hid (ownN_below OS.out b6)
            have HL6 := Lib.hid (SrcD.keep (KeepStr.of_below b6) _ _ _ HL.out)
            clear b6
            go_wp2_with fail
            refine (CT.out _ AT6.out).mono ?_
            rintro e w7 ⟨rfl, b7⟩
            have B7 := Lib.hid (B6.out.trans (b7.mono B6.out.size))
            have OS7 := Lib.hid (ownN_below OS6.out b7)
            have HL7 := Lib.hid (SrcD.keep (KeepStr.of_below b7) _ _ _ HL6.out)
            clear b7
            generalize srcTxt S = y at *
            go_wp2
            go_ret2
            rw [HR.out]
            exact ⟨_, l, rfl, len2 OS7.out HSL.out.symm, HL7.out, B7.out⟩
end Go.Proofs.YtpplagecancccaaDoor
