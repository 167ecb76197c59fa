/- The walk of drawn sources (printed by gen_srcdraw3.py). -/
import Derived.Test.YtpplagecancccaaDoorSrcDrawB
import Derived.Test.YtpplagecancccaaDoorDrawS
import Derived.Deep.DeepCutAuto
import Derived.Deep.CutBlock
namespace Go.Proofs.YtpplagecancccaaDoor
open Go.RowKit

def SrcsPost (w : World) (R k : Nat) (e : Ending) (w' : World) : Prop :=
  ∃ (v : Value) (l : List (ByteArray × Value)) (S : List Src), e = .returned v ∧ S.length ≤ 5 ∧ w'.ownsRow w.heap.size 40 2 v S.length (prC l) ∧ SrcL w' w.heap.size l S ∧ (∀ s ∈ S, SrcSm s) ∧ w.grownBy w' (some R) ∧ Rdr w' R (k - 60)
theorem _root_.Go.World.grownBy.row {a b : World} {R : Nat} (h : a.grownBy b none) : a.grownBy b (some R) := ⟨h.os, h.tape, h.output, h.size, fun i hi _ => h.block i hi (by simp)⟩
theorem own_len_eq2 {w : World} {B : Nat} {e : TypeId} {k : Nat} {v : Value} {n m : Nat} {l : List Value} (h : w.ownsRow B e k v n l) (hn : n = m) : w.ownsRow B e k v m l := by subst hn; exact h
def noneF : List ByteArray := [⟨#[110, 111, 110, 101]⟩]
theorem noneF_sm {K : ByteArray} (h : K.size ≤ 10) : SrcSm ⟨K, noneF⟩ := ⟨h, by show noneF.length ≤ 4; decide, by show ∀ t ∈ noneF, t.size ≤ 10; decide⟩
set_option maxRecDepth 100000 in
set_option maxHeartbeats 1600000 in
theorem sources_any (w : World) (R k : Nat) (m : Int) (h : Rdr w R k) (hk : 60 ≤ k) (hm : -2147483648 ≤ m) (hm' : m ≤ 2147483647) :
    Calls Tryd.prog 18 #[.pointer (some ⟨R, 0, none⟩), .int .i64 m] w (SrcsPost w R k) := by
  have hRlt := h.lt
  have HR := Lib.hid h
  clear h
  have OS0 := Lib.hid (ownN_new w #[] 40 2 0 rfl (by omega))
  have OK0 : Hid (((w.alloc (.cells #[] 40 (0, 0))).alloc (.cells #[.string ⟨#[100, 101, 102, 97, 117, 108, 116]⟩, .string ⟨#[115, 99, 114, 105, 112, 116]⟩, .string ⟨#[105, 109, 97, 103, 101]⟩, .string ⟨#[115, 116, 121, 108, 101]⟩] 9 (0, 0))).ownsRow w.heap.size 9 1 (.slice (some ⟨w.heap.size + 1, 0, none⟩) 4 4) 4 (kindsL.map strV)) := by
    have := ownN_mono (OwnS.new (w.alloc (.cells #[] 40 (0, 0))) kindsL 4 rfl (by omega) #[.string ⟨#[100, 101, 102, 97, 117, 108, 116]⟩, .string ⟨#[115, 99, 114, 105, 112, 116]⟩, .string ⟨#[105, 109, 97, 103, 101]⟩, .string ⟨#[115, 116, 121, 108, 101]⟩] rfl) (B' := w.heap.size) (by simp)
    have e : (w.alloc (.cells #[] 40 (0, 0))).heap.size = w.heap.size + 1 := World.size_alloc _ _
    rw [e] at this
    exact this
  have OS1 := Lib.hid (ownN_below OS0.out ((Below.refl _ _).alloc (Nat.le_refl _) (.cells #[.string ⟨#[100, 101, 102, 97, 117, 108, 116]⟩, .string ⟨#[115, 99, 114, 105, 112, 116]⟩, .string ⟨#[105, 109, 97, 103, 101]⟩, .string ⟨#[115, 116, 121, 108, 101]⟩] 9 (0, 0))))
  go_enter Tryd.func18, Tryd.ntmps18
  go_wp2_with fail
  refine (pick_any _ _ _ _ ((HR.out.alloc_ _).alloc_ _) (by omega) (by omega) (by omega)).mono ?_
  rintro e w1 ⟨x1, rfl, hx1, hg1, hr1⟩
  have hx1' : x1 ≤ 1 := by omega
  have OS2 := Lib.hid (ownN_R OS1.out hg1 hRlt)
  have OK1 := Lib.hid (ownN_R OK0.out hg1 hRlt)
  have G1 := Lib.hid ((((World.grownBy_alloc w _ none).trans (World.grownBy_alloc _ _ none)).row (R := R)).trans hg1)
  have R1 := Lib.hid hr1
  clear hg1 hr1 OS0 OS1 OK0 HR hx1
  go_upto_region 4 with fail
  go_cut [8] from 12 to 77 (fun s wx => ∃ x3 : Nat, s = .int .i64 (x3 : Int) ∧ x3 ≤ 4 ∧ w1.grownBy wx (some R) ∧ Rdr wx R (k - 60 + 2 + 10 * (5 - x1)))
  case first =>
    go_wp2_with fail
    refine (pick_any _ _ _ _ R1.out (by omega) (by omega) (by omega)).mono ?_
    rintro e w2 ⟨x2, rfl, hx2, hg2, hr2⟩
    have hx2' : x2 ≤ 3 := by omega
    have G2 := Lib.hid hg2
    have R2 := Lib.hid (hr2.less (k' := k - 60 + 2 + 10 * (5 - x1)) (by omega))
    clear hg2 hr2 hx2
    go_wp2
    all_goals go_meet
    case rel => exact ⟨x1 + x2, by rw [Int.natCast_add], by omega, G2.out, R2.out⟩
    case rel => exact ⟨4, rfl, by omega, G2.out, R2.out⟩
  case rest =>
    obtain ⟨x3, rfl, hx3, hg2, hr2⟩ := hcut
    have OS3 := Lib.hid (ownN_R OS2.out hg2 hRlt)
    have OK2 := Lib.hid (ownN_R OK1.out hg2 hRlt)
    have G2 := Lib.hid (G1.out.trans hg2)
    have R2 := Lib.hid hr2
    clear hg2 hr2 R1 OS2 OK1 G1
    go_wp2
    go_loopw [5, 9] (fun o t wr => ∃ (j nn : Nat) (l : List (ByteArray × Value)) (S : List Src), t = .int .i64 (j : Int) ∧ j ≤ 4 ∧ nn ≤ j ∧ Hid (S.length = nn) ∧ wr.ownsRow w.heap.size 40 2 o nn (prC l) ∧ Hid (SrcL wr w.heap.size l S) ∧ Hid (∀ s ∈ S, SrcSm s) ∧ wr.ownsRow w.heap.size 9 1 (.slice (some ⟨w.heap.size + 1, 0, none⟩) 4 4) 4 (kindsL.map strV) ∧ w.grownBy wr (some R) ∧ Rdr wr R (k - 60 + 2 + 10 * (5 - j))) (fun _ t _ => 5 - (intOf t).toNat)
    case atStart => exact ⟨x1, 0, [], [], rfl, by omega, by omega, rfl, OS3.out, True.intro, (by intro s hs; cases hs), OK2.out, G2.out, R2.out⟩
    case round =>
      obtain ⟨j, nn, l, S, rfl, hj5, hnj, HS, own, HL, HSM, ok, hg, hr⟩ := hrel
      have OS := Lib.hid own; have OK := Lib.hid ok; have GR := Lib.hid hg; have RD := Lib.hid hr
      clear own ok hg hr OS3 OK2 G2 R2
      by_cases hlt : j < x3
      · have hj4 : j < 4 := by omega
        obtain ⟨K, hKc, hKs⟩ : ∃ K : ByteArray, wr.cell? ⟨w.heap.size + 1, j, none⟩ = some (.string K) ∧ K.size ≤ 10 := by
          refine ⟨kindsL[j]'hj4, ?_, kindsL_small _ (List.getElem_mem _)⟩
          have := OK.out.cellAt j (by omega)
          rw [this, List.getElem?_map, List.getElem?_eq_getElem hj4]
          rfl
        have hws := GR.out.size
        have hnew := heap_alloc_new wr (.cells #[.string K, .slice none 0 0] 40 (0, 0))
        obtain ⟨g, hgg⟩ : ∃ g, wr.heap.size = g := ⟨_, rfl⟩
        rw [hgg] at hnew
        have HN0 := Lib.hid hnew
        have hRg : R < g := by omega
        clear hnew
        go_wp2_with fail
        refine (pick_any _ R _ 3 (RD.out.alloc_ _) (by omega) (by omega) (by omega)).mono ?_
        rintro e w4 ⟨x4, rfl, hx4, hg4, hr4⟩
        have hx4' : x4 ≤ 2 := by omega
        have HN4 := Lib.hid (heap_row_kept hg4 (by omega) HN0.out)
        have G4 := Lib.hid ((World.grownBy_alloc wr _ none).row.trans hg4)
        have R4 := Lib.hid (hr4.less (k' := k - 60 + 2 + 10 * (5 - (j + 1)) + 4 + (1 + x4)) (by omega))
        have hs4 : g < w4.heap.size := by have := hg4.size; rw [World.size_alloc] at this; omega
        clear hg4 hr4 hx4 HN0
        go_wp2
        go_loopw [11] (fun t wi => ∃ (q mF : Nat) (vF : Value) (F : List ByteArray), t = .int .i64 (q : Int) ∧ mF + q ≤ 3 ∧ Hid (F.length = mF) ∧ Hid (wr.grownBy wi (some R)) ∧ Hid (wi.heap[g]? = some (.cells #[.string K, vF] 40 (0, 0))) ∧ Hid (wi.ownsRow g 9 1 vF mF (F.map strV)) ∧ Hid (∀ t ∈ F, t.size ≤ 10) ∧ Hid (Rdr wi R (k - 60 + 2 + 10 * (5 - (j + 1)) + 4 + q)) ∧ g < wi.heap.size) (fun t _ => (intOf t).toNat)
        case atStart => exact ⟨1 + x4, 0, .slice none 0 0, [], by rw [Int.natCast_add]; rfl, by omega, rfl, G4.out, HN4.out, OwnS.nil _ _, (by intro s hs; cases hs), R4.out, hs4⟩
        case round =>
          rename World => wi
          obtain ⟨q, mF, vF, F, rfl, hq, hmF, GI, HC, OF, HF, RI, hgi⟩ := hrel
          clear G4 HN4 R4
          by_cases hq0 : 0 < q
          · obtain ⟨H, hHH⟩ : ∃ H, wi.heap.size = H := ⟨_, rfl⟩
            have hHs : wi.drew.heap.size = H := hHH
            have hwg : wr.heap.size ≤ g := by omega
            have hHg : g ≤ g := Nat.le_refl _
            have hRH : R < g := hRg
            have HQ : Hid (∀ q : Nat, vF.ownBlock = some q → q < H) := fun q hq => by have := (own_ge OF.out q hq).2; omega
            go_wp2
            refine wp_region_any (by kernel_rfl) ?_
            rename_i KK hKK
            refine region_draw2 R (k - 60 + 2 + 10 * (5 - (j + 1)) + 4 + (q - 1)) srcWt (srcSlot H R g g mF vF F) (G12 H R g g mF vF F K wr) 78 11 (by kernel_rfl) (Nat.le_refl 78) (by kernel_rfl) rfl rfl (by decide) ?start ((RI.out.kept (grown_drewN (grown_refl _ none) 1) (by simp)).less (by show _ + 1 ≤ _; omega)) ?step ?done
            case start => exact ⟨grown_drewN GI.out 1, Nat.le_of_eq hHs.symm, (by intro e; cases e), (by intro e; cases e), (fun _ => OF.out), (fun _ => HC.out), (by intro e; cases e)⟩
            case step =>
              intro i o ho listed wx a mb hls hli hdp hm hG hr hD KC hK
              have hlt : i < 11 := by have := (Array.getElem?_eq_some_iff.1 ho).1; simpa using this
              rcases (show i = 0 ∨ i = 1 ∨ i = 2 ∨ i = 3 ∨ i = 4 ∨ i = 5 ∨ i = 6 ∨ i = 7 ∨ i = 8 ∨ i = 9 ∨ i = 10 by omega) with rfl | rfl | rfl | rfl | rfl | rfl | rfl | rfl | rfl | rfl | rfl
              · have h10 := hD.old 10 (by kernel_rfl)
                obtain rfl := Option.some.inj ho
                clear hD
                unfold Oper.wp
                simp [execOp, Act.eval, h10]
                go_simp
                exact hK _ _ (.inr rfl) (fun _ _ _ _ h => h) (hG.keep (by decide) (by decide) (grown_refl _ _) (Nat.le_refl _) hRH hHg) (by exact hr)
              · obtain ⟨v0, s0, rfl⟩ := hD.dep 0 39 rfl rfl (by obtain rfl := Option.some.inj ho; kernel_rfl)
                obtain rfl := Option.some.inj ho
                clear hD
                have h10 : listed.getD 10 true = false := hG.no10 (.inl hli)
                have hcg := cell_of_row _ g 1 _ _ _ (hG.2.2.2.2.2.1 h10)
                simp at hcg
                unfold Oper.wp
                simp [execOp, Act.eval, s0]
                go_simp
                exact hK _ _ (.inr rfl) (fun _ _ _ _ h => h) (hG.keep (by decide) (by decide) (grown_refl _ _) (Nat.le_refl _) hRH hHg) (by exact hr)
              · obtain rfl := Option.some.inj ho
                clear hD
                unfold Oper.wp
                simp [execOp, Act.eval]
                go_simp
                exact hK _ _ (.inr (LitSl.new _ _ _ 4 rfl hG.2.1)) (fun j u _ _ h => src_kept (KeepFrom.of_grown (World.grownBy_alloc _ _ none) (by intro j e; cases e)) (fun v n l o => ownN_below o ((Below.refl _ _).alloc (Nat.le_refl _) _)) j u h) (hG.keep (by decide) (by decide) (World.grownBy_alloc _ _ _) (by simp) hRH hHg) (by exact hr.kept (World.grownBy_alloc _ _ none) (by simp))
              · have h0 := hD.old 0 (by kernel_rfl)
                obtain rfl := Option.some.inj ho
                clear hD
                unfold Oper.wp
                simp [execOp, Act.eval, h0]
                exact hK _ _ (.inr rfl) (fun _ _ _ _ h => h) (hG.keep (by decide) (by decide) (grown_refl _ _) (Nat.le_refl _) hRH hHg) (by exact hr)
              · obtain ⟨v3, s3, rfl⟩ := hD.dep 3 42 rfl rfl (by obtain rfl := Option.some.inj ho; kernel_rfl)
                obtain rfl := Option.some.inj ho
                clear hD
                unfold Oper.wp
                simp [execOp]
                go_simp
                refine (pick_any _ _ _ _ hr (by exact hm) (by omega) (by omega)).mono ?_
                rintro e w1 ⟨x, rfl, hx, hg, hr1⟩
                exact hK _ _ (.inr ⟨x, by omega, rfl⟩) (fun j u _ _ h => src_kept (KeepFrom.of_grown hg (by intro j e; injection e with e; omega)) (fun v n l o => ownN_R o hg hRH) j u h) (hG.keep (by decide) (by decide) hg hg.size hRH hHg) hr1
              · obtain ⟨v2, s2, b2, hb2, rfl, hc2⟩ := hD.dep 2 41 rfl rfl (by obtain rfl := Option.some.inj ho; kernel_rfl)
                obtain ⟨v4, s4, x4, hx4, rfl⟩ := hD.dep 4 43 rfl rfl (by obtain rfl := Option.some.inj ho; kernel_rfl)
                obtain rfl := Option.some.inj ho
                clear hD
                have hsz : (srcLits).size = 4 := rfl
                unfold Oper.wp
                simp [execOp, Act.eval, s2, s4]
                go_simp
                rw [if_pos (by omega)]
                exact hK _ _ (.inr ⟨b2, x4, hb2, by omega, rfl, hc2⟩) (fun _ _ _ _ h => h) (hG.keep (by decide) (by decide) (grown_refl _ _) (Nat.le_refl _) hRH hHg) (by exact hr)
              · obtain ⟨v5, s5, b5, i5, hb5, hi5, rfl, hc5⟩ := hD.dep 5 44 rfl rfl (by obtain rfl := Option.some.inj ho; kernel_rfl)
                obtain rfl := Option.some.inj ho
                clear hD
                obtain ⟨y, hcc, hq⟩ := load_lit hc5 hi5 (srcLits_all)
                unfold Oper.wp
                simp [execOp, Act.eval, s5]
                go_simp
                exact hK _ _ (.inr hq) (fun _ _ _ _ h => h) (hG.keep (by decide) (by decide) (grown_refl _ _) (Nat.le_refl _) hRH hHg) (by exact hr)
              · obtain ⟨v6, s6, q6, rfl, hq6⟩ := hD.dep 6 45 rfl rfl (by obtain rfl := Option.some.inj ho; kernel_rfl)
                obtain rfl := Option.some.inj ho
                clear hD
                unfold Oper.wp
                simp [execOp, Act.eval, s6]
                go_simp
                exact hK _ _ (.inr ⟨_, q6, hG.2.1, hq6, rfl, heap_alloc_new _ _⟩) (fun j u _ _ h => src_kept (KeepFrom.of_grown (World.grownBy_alloc _ _ none) (by intro j e; cases e)) (fun v n l o => ownN_below o ((Below.refl _ _).alloc (Nat.le_refl _) _)) j u h) (hG.keep (by decide) (by decide) (World.grownBy_alloc _ _ _) (by simp) hRH hHg) (by exact hr.kept (World.grownBy_alloc _ _ none) (by simp))
              · obtain ⟨v1, s1, hv1⟩ := hD.dep 1 40 rfl rfl (by obtain rfl := Option.some.inj ho; kernel_rfl)
                obtain rfl : v1 = vF := hv1
                obtain ⟨v7, s7, b7, q7, hb7, hq7, rfl, hc7⟩ := hD.dep 7 46 rfl rfl (by obtain rfl := Option.some.inj ho; kernel_rfl)
                obtain rfl := Option.some.inj ho
                clear hD
                have own := hG.2.2.2.2.1 hli
                refine oper_pushStr (.tmp 40) (.tmp 46) _ _ _ F q7 own (by have := hG.2.1; omega) (by omega) b7 hc7 rfl (by simp [Act.eval, s1]) (by simp [Act.eval, s7]) ?_
                intro v' w' o' g'
                exact hK _ _ (.inr ⟨q7, hq7, o'⟩) (fun j u hj _ h => src_kept8 (KeepFrom.of_grown g' HQ.out) j u hj h) (hG.push hli (hdp 1 (by kernel_rfl)) g' (grow_row hG.1 g' (fun q hq => by have := (own_ge own q hq).1; omega)) (fun hc e => own_ne_src own hc e)) (by exact hr.kept g' (fun q hq => by have := (own_ge own q hq).1; omega))
              · have h10 := hD.old 10 (by kernel_rfl)
                obtain rfl := Option.some.inj ho
                clear hD
                unfold Oper.wp
                simp [execOp, Act.eval, h10]
                go_simp
                exact hK _ _ (.inr rfl) (fun _ _ _ _ h => h) (hG.keep (by decide) (by decide) (grown_refl _ _) (Nat.le_refl _) hRH hHg) (by exact hr)
              · obtain ⟨v8, s8, q8, hq8, own⟩ := hD.dep 8 47 rfl rfl (by obtain rfl := Option.some.inj ho; kernel_rfl)
                obtain ⟨v9, s9, rfl⟩ := hD.dep 9 48 rfl rfl (by obtain rfl := Option.some.inj ho; kernel_rfl)
                have h8 := hdp 8 (by obtain rfl := Option.some.inj ho; kernel_rfl)
                obtain rfl := Option.some.inj ho
                clear hD
                have hcell := hG.2.2.2.2.2.1 hli
                have hcg := cell_of_row _ g 1 _ _ _ hcell
                have hfr : wx.frozen? ⟨g, 1, none⟩ = false := by simp [World.frozen?, hcell]
                simp at hcg
                obtain ⟨fa, fc, rfl, _⟩ := ownN_formn own
                unfold Oper.wp
                simp [execOp, Act.eval, s8, s9]
                go_simp
                have hgs := grown_setCell (grown_refl wx (some g)) 1 (.slice fa (mF + 1) fc)
                exact hK undef _ (.inl rfl) (fun j u _ _ h => src_kept (KeepFrom.of_grown hgs (by intro j e; injection e with e; omega)) (fun v n l o => ownN_other o hgs (fun j hj e => by injection e with e; subst e; exact own_ne_src o hcell hj)) j u h) (hG.store h8 (hG.2.2.1 h8) hq8 own hcell hwg) (by exact hr.kept hgs (fun q hq => by injection hq with hq; omega))
            case done =>
              intro listed a wx hall hd hsz hold hdst hG hr
              obtain ⟨v', q', hq', hc', ho'⟩ := hG.2.2.2.2.2.2 (hall 10 (by omega))
              have hf := act_frame [39, 40, 41, 42, 43, 44, 45, 46, 47, 48] (by kernel_rfl) hd hsz hold
              have G5 := Lib.hid hG.1
              have HC5 := Lib.hid hc'
              have OF5 := Lib.hid ho'
              have RI5 := Lib.hid hr
              have hs5 : g < wx.heap.size := (Array.getElem?_eq_some_iff.1 hc').1
              have HF5 : Hid (∀ t ∈ F ++ [q'], t.size ≤ 10) := fun t ht => by
                rcases List.mem_append.1 ht with ht | ht
                · exact HF.out t ht
                · rw [List.mem_singleton] at ht; subst ht; exact hq'
              have HM5 : Hid ((F ++ [q']).length = mF + 1) := by show _ = _; rw [List.length_append, hmF.out]; rfl
              generalize a.tmps.getD 39 undef = y39, a.tmps.getD 40 undef = y40, a.tmps.getD 41 undef = y41, a.tmps.getD 42 undef = y42, a.tmps.getD 43 undef = y43, a.tmps.getD 44 undef = y44, a.tmps.getD 45 undef = y45, a.tmps.getD 46 undef = y46, a.tmps.getD 47 undef = y47, a.tmps.getD 48 undef = y48 at hf
              clear hall hd hsz hold hdst hG hr ho' hc' hq'
              refine hKK _ _ ?_
              rw [hf]
              clear hf
              go_wp2
              go_roundw
              case rel => exact ⟨q - 1, mF + 1, v', F ++ [q'], by go_num, by omega, HM5, G5, HC5, OF5, HF5, RI5, hs5⟩
              case measure => simp [intOf]; omega
          · obtain rfl : q = 0 := by omega
            go_wp2_with fail
            refine (pick_any _ R _ 4 RI.out (by omega) (by omega) (by omega)).mono ?_
            rintro e w5 ⟨x5, rfl, hx5, hg5, hr5⟩
            have HG5 := Lib.hid hg5
            have HC5 := Lib.hid (heap_row_kept hg5 (by omega) HC.out)
            have GW5 := Lib.hid (GI.out.trans hg5)
            have GR5 := Lib.hid (GR.out.trans GW5.out)
            have OS5 := Lib.hid (ownN_R OS.out GW5.out hRlt)
            have OK5 := Lib.hid (ownN_R OK.out GW5.out hRlt)
            have L5 := Lib.hid (SrcL.map (fun v F o => o.R GW5.out hRlt) l S HL.out)
            have R5 := Lib.hid hr5
            have hws5 : w.heap.size ≤ w5.heap.size := GR5.out.size
            have hg5s : g < w5.heap.size := by have := hg5.size; omega
            clear hg5 hr5
            by_cases h5 : x5 = 0
            · have hb5 : ((x5 : Int) == 0) = true := by subst h5; rfl
              have gal : w5.grownBy ((w5.setCell ⟨g, 1, none⟩ (.slice (some ⟨w5.heap.size, 0, none⟩) 1 1)).alloc (.cells #[.string ⟨#[110, 111, 110, 101]⟩] 9 (0, 0))) (some g) := (grown_setCell (grown_refl w5 (some g)) 1 _).trans (World.grownBy_alloc _ _ _)
              have GAL := Lib.hid gal
              have HC7 : Hid (((w5.setCell ⟨g, 1, none⟩ (.slice (some ⟨w5.heap.size, 0, none⟩) 1 1)).alloc (.cells #[.string ⟨#[110, 111, 110, 101]⟩] 9 (0, 0))).heap[g]? = some (.cells #[.string K, .slice (some ⟨w5.heap.size, 0, none⟩) 1 1] 40 (0, 0))) := by
                show _ = _
                rw [heap_alloc_old _ _ (by simpa [World.setCell] using hg5s), heap_setCell_same _ g 1 _ _ _ HC5.out]
                rfl
              have OO7 : Hid (OwnS ((w5.setCell ⟨g, 1, none⟩ (.slice (some ⟨w5.heap.size, 0, none⟩) 1 1)).alloc (.cells #[.string ⟨#[110, 111, 110, 101]⟩] 9 (0, 0))) g (.slice (some ⟨w5.heap.size, 0, none⟩) 1 1) noneF) := by
                have h1 := OwnS.new (w5.setCell ⟨g, 1, none⟩ (.slice (some ⟨w5.heap.size, 0, none⟩) 1 1)) noneF 1 rfl (by omega) #[.string ⟨#[110, 111, 110, 101]⟩] rfl
                have e5 : (w5.setCell ⟨g, 1, none⟩ (.slice (some ⟨w5.heap.size, 0, none⟩) 1 1)).heap.size = w5.heap.size := by simp [World.setCell]
                rw [e5] at h1
                exact h1.mono (by omega)
              have OS7 := Lib.hid (ownN_other OS5.out gal (fun jj hj e => by have := (ownN_ge OS.out jj hj).2; injection e with e; omega))
              have OK7 := Lib.hid (ownN_other OK5.out gal (fun jj hj e => by have := (ownN_ge OK.out jj hj).2; injection e with e; omega))
              have L7 := Lib.hid (SrcL.map (fun v F o => ownN_other o gal (fun jj hj e => by injection e with e; subst e; exact own_ne_src o HC5.out hj)) l S L5.out)
              have GR7 := Lib.hid (grow_row GR5.out gal (fun q hq => by injection hq with hq; omega))
              have R7 := Lib.hid (Rdr.kept R5.out gal (fun q hq => by injection hq with hq; omega))
              have hws7 : w.heap.size ≤ ((w5.setCell ⟨g, 1, none⟩ (.slice (some ⟨w5.heap.size, 0, none⟩) 1 1)).alloc (.cells #[.string ⟨#[110, 111, 110, 101]⟩] 9 (0, 0))).heap.size := Nat.le_trans hws5 gal.size
              have c5 := cell_of_row _ g 1 _ _ _ HC5.out
              have f5 : w5.frozen? ⟨g, 1, none⟩ = false := by simp [World.frozen?, HC5.out]
              simp at c5
              clear gal
              go_upto_region 15 with fail
              generalize hW7 : ((w5.setCell ⟨g, 1, none⟩ (.slice (some ⟨w5.heap.size, 0, none⟩) 1 1)).alloc (.cells #[.string ⟨#[110, 111, 110, 101]⟩] 9 (0, 0))) = w7 at *
              have o5 : OwnS w7 g (.slice (some ⟨w5.heap.size, 0, none⟩) 1 1) noneF := OO7.out
              obtain ⟨fa, fc, hvF, _⟩ := ownN_formn o5
              obtain ⟨rfl, rfl⟩ : fa = some ⟨w5.heap.size, 0, none⟩ ∧ fc = 1 := by injection hvF with e1 e2 e3; exact ⟨e1.symm, e3.symm⟩
              have hcc := HC7.out
              have c0 := cell_of_row _ g 0 _ _ _ hcc
              have c1 := cell_of_row _ g 1 _ _ _ hcc
              simp at c0 c1
              have hwS := hws7
              have O5 := Lib.hid o5
              clear o5 hcc
              go_wp2_with (at_builtin; refine wpList_pushSrc (.tmp 54) (.tmp 56) w.heap.size K _ noneF g _ nn l O5.out OS7.out (by omega) (by omega) rfl (by rfl) (by rfl) _ rfl (by rfl) ?_; intro v6 w6 o6 g6; have OS6 := Lib.hid o6; have G6 := Lib.hid g6; clear o6 g6)
              have ok6 := ownN_other OK7.out (ownN_types_ne OK7.out OS7.out (by decide) |> fun hne => G6.out) (fun jj hj e => ownN_types_ne OK7.out OS7.out (by decide) jj hj e)
              have OK6 := Lib.hid ok6
              have L6 := Lib.hid (SrcL.snoc (K := K) ((OwnS.grown_src O5.out OS7.out G6.out).mono (by omega)) _ _ (SrcL.map (fun v F o => o.grown_src OS7.out G6.out) l S L7.out))
              have GR6 := Lib.hid (grow_row GR7.out G6.out (fun q hq => (ownN_ge OS7.out q hq).1))
              have RD6 := Lib.hid (Rdr.kept R7.out G6.out (fun q hq => by have := (ownN_ge OS7.out q hq).1; omega))
              have HS6 : Hid ((S ++ [(⟨K, noneF⟩ : Src)]).length = nn + 1) := by show _ = _; rw [List.length_append, HS.out]; rfl
              have HSM6 : Hid (∀ s ∈ S ++ [(⟨K, noneF⟩ : Src)], SrcSm s) := fun s hs => by
                rcases List.mem_append.1 hs with hs | hs
                · exact HSM.out s hs
                · rw [List.mem_singleton] at hs; subst hs; exact noneF_sm hKs
              clear ok6
              go_wp2
              go_roundw
              case rel => exact ⟨j + 1, nn + 1, _, _, by go_num, by omega, by omega, HS6, OS6.out, L6, HSM6, OK6.out, GR6.out, RD6.out.less (by omega)⟩
              case measure => simp [intOf]; omega
            · have hb5 : ((x5 : Int) == 0) = false := by simp; omega
              have o5 : OwnS w5 g vF F := own_len_eq (ownN_R OF.out HG5.out hRg) hmF.out.symm rfl
              obtain ⟨fa, fc, hvF, _⟩ := ownN_formn o5
              subst hvF
              have hcc := HC5.out
              have c0 := cell_of_row _ g 0 _ _ _ hcc
              have c1 := cell_of_row _ g 1 _ _ _ hcc
              simp at c0 c1
              have hwS := hws5
              have O5 := Lib.hid o5
              clear o5 hcc
              go_wp2_with (at_builtin; refine wpList_pushSrc (.tmp 54) (.tmp 56) w.heap.size K _ F g _ nn l O5.out OS5.out (by omega) (by omega) rfl (by rfl) (by rfl) _ rfl (by rfl) ?_; intro v6 w6 o6 g6; have OS6 := Lib.hid o6; have G6 := Lib.hid g6; clear o6 g6)
              have ok6 := ownN_other OK5.out (ownN_types_ne OK5.out OS5.out (by decide) |> fun hne => G6.out) (fun jj hj e => ownN_types_ne OK5.out OS5.out (by decide) jj hj e)
              have OK6 := Lib.hid ok6
              have L6 := Lib.hid (SrcL.snoc (K := K) ((OwnS.grown_src O5.out OS5.out G6.out).mono (by omega)) _ _ (SrcL.map (fun v F o => o.grown_src OS5.out G6.out) l S L5.out))
              have GR6 := Lib.hid (grow_row GR5.out G6.out (fun q hq => (ownN_ge OS5.out q hq).1))
              have RD6 := Lib.hid (Rdr.kept R5.out G6.out (fun q hq => by have := (ownN_ge OS5.out q hq).1; omega))
              have HS6 : Hid ((S ++ [(⟨K, F⟩ : Src)]).length = nn + 1) := by show _ = _; rw [List.length_append, HS.out]; rfl
              have HSM6 : Hid (∀ s ∈ S ++ [(⟨K, F⟩ : Src)], SrcSm s) := fun s hs => by
                rcases List.mem_append.1 hs with hs | hs
                · exact HSM.out s hs
                · rw [List.mem_singleton] at hs; subst hs; exact ⟨hKs, by have := hmF.out; show F.length ≤ 4; omega, HF.out⟩
              clear ok6
              go_wp2
              go_roundw
              case rel => exact ⟨j + 1, nn + 1, _, _, by go_num, by omega, by omega, HS6, OS6.out, L6, HSM6, OK6.out, GR6.out, RD6.out.less (by omega)⟩
              case measure => simp [intOf]; omega
      · go_wp2_with fail
        refine (odd_any _ _ _ _ RD.out (by omega) (by omega) (by omega)).mono ?_
        rintro e w5 ⟨bb, rfl, hg5, hr5⟩
        have GR5 := Lib.hid (GR.out.trans hg5)
        have OS5 := Lib.hid (ownN_R OS.out hg5 hRlt)
        have L5 := Lib.hid (SrcL.map (fun v F o => o.R hg5 hRlt) l S HL.out)
        have R5 := Lib.hid hr5
        have hws5 : w.heap.size ≤ w5.heap.size := GR5.out.size
        clear hg5 hr5 OK
        cases bb with
        | false =>
          go_wp2
          go_ret
          exact ⟨_, l, S, rfl, by have := HS.out; omega, own_len_eq2 OS5.out HS.out.symm, L5.out, HSM.out, GR5.out, R5.out.less (by omega)⟩
        | true =>
          obtain ⟨H, hHH⟩ : ∃ H, w5.heap.size = H := ⟨_, rfl⟩
          have o1 := OwnS.new w5 [⟨#[110, 111, 110, 101]⟩, ⟨#[115, 101, 108, 102]⟩] 2 rfl (by omega) #[.string ⟨#[110, 111, 110, 101]⟩, .string ⟨#[115, 101, 108, 102]⟩] rfl
          have o2 := OwnS.new (w5.alloc (.cells #[.string ⟨#[110, 111, 110, 101]⟩, .string ⟨#[115, 101, 108, 102]⟩] 9 (0, 0))) [⟨#[42]⟩] 1 rfl (by omega) #[.string ⟨#[42]⟩] rfl
          have o3 := OwnS.new ((w5.alloc (.cells #[.string ⟨#[110, 111, 110, 101]⟩, .string ⟨#[115, 101, 108, 102]⟩] 9 (0, 0))).alloc (.cells #[.string ⟨#[42]⟩] 9 (0, 0))) [⟨#[97]⟩] 1 rfl (by omega) #[.string ⟨#[97]⟩] rfl
          simp only [World.size_alloc, hHH] at o1 o2 o3
          have hrow : SrcRow H ((((w5.alloc (.cells #[.string ⟨#[110, 111, 110, 101]⟩, .string ⟨#[115, 101, 108, 102]⟩] 9 (0, 0))).alloc (.cells #[.string ⟨#[42]⟩] 9 (0, 0))).alloc (.cells #[.string ⟨#[97]⟩] 9 (0, 0))).alloc (.cells #[.string ⟨#[]⟩, .slice none 0 0, .string ⟨#[122]⟩, .slice none 0 0, .string ⟨#[122]⟩, .slice (some ⟨H, 0, none⟩) 2 2, .string ⟨#[122]⟩, .slice (some ⟨H + 1, 0, none⟩) 1 1, .string ⟨#[90]⟩, .slice (some ⟨H + 1 + 1, 0, none⟩) 1 1] 40 (0, 0))) #[.string ⟨#[]⟩, .slice none 0 0, .string ⟨#[122]⟩, .slice none 0 0, .string ⟨#[122]⟩, .slice (some ⟨H, 0, none⟩) 2 2, .string ⟨#[122]⟩, .slice (some ⟨H + 1, 0, none⟩) 1 1, .string ⟨#[90]⟩, .slice (some ⟨H + 1 + 1, 0, none⟩) 1 1] := src_row (bel_new _) (OwnS.nil _ _) srcsm_1 (OwnS.nil _ _) srcsm_2 ((o1.below (bel_new _)).below (bel_new _)) srcsm_3 ((o2.below (bel_new _)).mono (by omega)) srcsm_4 (o3.mono (by omega)) srcsm_5
          have hcell : ((((w5.alloc (.cells #[.string ⟨#[110, 111, 110, 101]⟩, .string ⟨#[115, 101, 108, 102]⟩] 9 (0, 0))).alloc (.cells #[.string ⟨#[42]⟩] 9 (0, 0))).alloc (.cells #[.string ⟨#[97]⟩] 9 (0, 0))).alloc (.cells #[.string ⟨#[]⟩, .slice none 0 0, .string ⟨#[122]⟩, .slice none 0 0, .string ⟨#[122]⟩, .slice (some ⟨H, 0, none⟩) 2 2, .string ⟨#[122]⟩, .slice (some ⟨H + 1, 0, none⟩) 1 1, .string ⟨#[90]⟩, .slice (some ⟨H + 1 + 1, 0, none⟩) 1 1] 40 (0, 0))).heap[H + 1 + 1 + 1]? = some (.cells #[.string ⟨#[]⟩, .slice none 0 0, .string ⟨#[122]⟩, .slice none 0 0, .string ⟨#[122]⟩, .slice (some ⟨H, 0, none⟩) 2 2, .string ⟨#[122]⟩, .slice (some ⟨H + 1, 0, none⟩) 1 1, .string ⟨#[90]⟩, .slice (some ⟨H + 1 + 1, 0, none⟩) 1 1] 40 (0, 0)) := by
            have := heap_alloc_new (((w5.alloc (.cells #[.string ⟨#[110, 111, 110, 101]⟩, .string ⟨#[115, 101, 108, 102]⟩] 9 (0, 0))).alloc (.cells #[.string ⟨#[42]⟩] 9 (0, 0))).alloc (.cells #[.string ⟨#[97]⟩] 9 (0, 0))) (.cells #[.string ⟨#[]⟩, .slice none 0 0, .string ⟨#[122]⟩, .slice none 0 0, .string ⟨#[122]⟩, .slice (some ⟨H, 0, none⟩) 2 2, .string ⟨#[122]⟩, .slice (some ⟨H + 1, 0, none⟩) 1 1, .string ⟨#[90]⟩, .slice (some ⟨H + 1 + 1, 0, none⟩) 1 1] 40 (0, 0))
            simpa only [World.size_alloc, hHH] using this
          have g4 : w5.grownBy ((((w5.alloc (.cells #[.string ⟨#[110, 111, 110, 101]⟩, .string ⟨#[115, 101, 108, 102]⟩] 9 (0, 0))).alloc (.cells #[.string ⟨#[42]⟩] 9 (0, 0))).alloc (.cells #[.string ⟨#[97]⟩] 9 (0, 0))).alloc (.cells #[.string ⟨#[]⟩, .slice none 0 0, .string ⟨#[122]⟩, .slice none 0 0, .string ⟨#[122]⟩, .slice (some ⟨H, 0, none⟩) 2 2, .string ⟨#[122]⟩, .slice (some ⟨H + 1, 0, none⟩) 1 1, .string ⟨#[90]⟩, .slice (some ⟨H + 1 + 1, 0, none⟩) 1 1] 40 (0, 0))) none := (((World.grownBy_alloc w5 _ none).trans (World.grownBy_alloc _ _ none)).trans (World.grownBy_alloc _ _ none)).trans (World.grownBy_alloc _ _ none)
          have HROW := Lib.hid hrow; have HCELL := Lib.hid hcell; have G4 := Lib.hid (g4.row (R := R))
          have R6 := Lib.hid (R5.out.kept g4 (by simp))
          clear o1 o2 o3 hrow hcell g4
          go_wp2_with fail
          refine (pick_any _ R _ 5 R6.out (by omega) (by omega) (by omega)).mono ?_
          rintro e w6 ⟨x6, rfl, hx6, hg6, hr6⟩
          have hk6 : KeepFrom H ((((w5.alloc (.cells #[.string ⟨#[110, 111, 110, 101]⟩, .string ⟨#[115, 101, 108, 102]⟩] 9 (0, 0))).alloc (.cells #[.string ⟨#[42]⟩] 9 (0, 0))).alloc (.cells #[.string ⟨#[97]⟩] 9 (0, 0))).alloc (.cells #[.string ⟨#[]⟩, .slice none 0 0, .string ⟨#[122]⟩, .slice none 0 0, .string ⟨#[122]⟩, .slice (some ⟨H, 0, none⟩) 2 2, .string ⟨#[122]⟩, .slice (some ⟨H + 1, 0, none⟩) 1 1, .string ⟨#[90]⟩, .slice (some ⟨H + 1 + 1, 0, none⟩) 1 1] 40 (0, 0))) w6 := KeepFrom.of_grown hg6 (by intro j e; injection e with e; omega)
          obtain ⟨K, vF, F, e0, e1, oF, hm4⟩ := HROW.out.keep hk6 x6 (by omega)
          have hc6 := hk6 _ _ (by omega) HCELL.out
          have c0 := cell_of_row _ (H + 1 + 1 + 1) (x6 * 2) _ _ _ hc6
          have c1 := cell_of_row _ (H + 1 + 1 + 1) (x6 * 2 + 1) _ _ _ hc6
          rw [e0] at c0
          rw [e1] at c1
          have G6 := Lib.hid (G4.out.trans hg6)
          have OF := Lib.hid oF
          obtain ⟨fa, fc, rfl, _⟩ := ownN_formn oF
          have OS6 := Lib.hid (ownN_R OS5.out G6.out hRlt)
          have L6 := Lib.hid (SrcL.map (fun v F o => o.R G6.out hRlt) l S L5.out)
          have GR6 := Lib.hid (GR5.out.trans G6.out)
          have R7 := Lib.hid hr6
          have hws6 : w.heap.size ≤ w6.heap.size := GR6.out.size
          have hx6' : x6 < 5 := by omega
          clear HROW HCELL G4 R6 hk6 hc6 e0 e1 hg6 hr6 oF hx6
          go_wp2_with (at_builtin; refine wpList_pushSrc (.tmp 61) (.tmp 75) w.heap.size K _ F H _ nn l OF.out OS6.out (by omega) (by omega) rfl (by rfl) (by rfl) _ rfl (by rfl) ?_; intro v7 w7 o7 g7; have OS7 := Lib.hid o7; have G7 := Lib.hid g7; clear o7 g7)
          go_wp2
          go_ret
          refine ⟨v7, l ++ [(K, .slice fa F.length fc)], S ++ [⟨K, F⟩], rfl, by rw [List.length_append, HS.out]; show nn + 1 ≤ 5; omega, own_len_eq2 OS7.out (by rw [List.length_append, HS.out]; rfl), SrcL.snoc ((OF.out.grown_src OS6.out G7.out).mono (by omega)) _ _ (SrcL.map (fun v F o => o.grown_src OS6.out G7.out) l S L6.out), ?_, grow_row GR6.out G7.out (fun q hq => (ownN_ge OS6.out q hq).1), (R7.out.kept G7.out (fun q hq => by have := (ownN_ge OS6.out q hq).1; omega)).less (by omega)⟩
          intro s hs
          rcases List.mem_append.1 hs with hs | hs
          · exact HSM.out s hs
          · rw [List.mem_singleton] at hs; subst hs; exact hm4
end Go.Proofs.YtpplagecancccaaDoor
