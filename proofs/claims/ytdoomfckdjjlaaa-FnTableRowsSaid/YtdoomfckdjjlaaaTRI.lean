/- impl.TableRows over what Tokenize answers (printed by gen_tri.py). -/
import Derived.Test.YtdoomfckdjjlaaaTRP
import Derived.Test.YtdoomfckdjjlaaaMark
import Derived.Test.YtdoomfckdjjlaaaTabDraw
import Derived.BigQuiet
import Derived.Deep.QuietTactic
namespace Go.Proofs.Ytdoomfckdjjlaaa
open Go.RowKit

/-- What a call of Tokenize answers that goes well. -/
def TkPost (w : World) (Good : List TokP → Prop) (e : Ending) (w' : World) : Prop :=
  ∃ v L, e = .returned (.tuple #[v, .bool true]) ∧ Good L ∧ L.length ≤ 60 ∧ (∀ t ∈ L, t.V.size ≤ 1048576) ∧ w'.ownsRow w.heap.size 53 4 v L.length (tokPC L) ∧ Below w.heap.size w w'
/-- What TableRows answers then. -/
def RowsPost (w : World) (Good : List TokP → Prop) (e : Ending) (w' : World) : Prop :=
  ∃ L, Good L ∧ Below w.heap.size w w' ∧ ((ResOk L ∧ ∃ v vs, e = .returned (.tuple #[v, .bool true]) ∧ w'.ownsRow w.heap.size 31 1 v (rowsOf (L.map TokP.core)).length vs ∧ OwnLs w' w.heap.size vs (rowsOf (L.map TokP.core))) ∨ (¬ ResOk L ∧ ∃ v, e = .returned (.tuple #[v, .bool false]) ∧ ∃ a c, v = .slice a 0 c))
theorem kindT {K n : Nat} (h : K = n) : ((K : Int) == (n : Int)) = true := by subst h; simp
theorem kindF {K n : Nat} (h : K ≠ n) : ((K : Int) == (n : Int)) = false := by simp; omega
theorem tr_yes {N : ByteArray} (h : N = trS) : (N.toList == [116, 114]) = true := by subst h; rw [ByteArray.toList_eq]; rfl
theorem tr_no {N : ByteArray} (h : N ≠ trS) : (N.toList == [116, 114]) = false := by
  rw [ByteArray.toList_eq]
  rw [Bool.eq_false_iff]
  intro e
  have e2 : N.data.toList = [116, 114] := by simpa using e
  exact h (bl_inj (a := N) (b := trS) e2)
theorem td_yes {N : ByteArray} (h : N = tdS) : (N.toList == [116, 100]) = true := by subst h; rw [ByteArray.toList_eq]; rfl
theorem td_no {N : ByteArray} (h : N ≠ tdS) : (N.toList == [116, 100]) = false := by
  rw [ByteArray.toList_eq]
  rw [Bool.eq_false_iff]
  intro e
  have e2 : N.data.toList = [116, 100] := by simpa using e
  exact h (bl_inj (a := N) (b := tdS) e2)
theorem map_take_succ {L : List TokP} {k : Nat} (h : k < L.length) : (L.take (k + 1)).map TokP.core = (L.take k).map TokP.core ++ [L[k].core] := by
  rw [List.take_succ_eq_append_getElem h, List.map_append]; rfl
theorem toksP_below {w w' : World} {B n : Nat} {v : Value} {l : List Value} (h : w.ownsRow B 53 4 v n l) (hb : Below w.heap.size w w') : w'.ownsRow B 53 4 v n l := ownN_below h hb
theorem rows_other {w w' : World} {B B' n n' : Nat} {v v' : Value} {l l' : List Value} (h : w.ownsRow B 53 4 v n l) (h' : w.ownsRow B' 31 1 v' n' l') (hg : w.grownBy w' v'.ownBlock) : w'.ownsRow B 53 4 v n l :=
  ownN_other h hg (fun q hq e => ownN_types_ne h h' (by decide) q hq e)
theorem strs_other {w w' : World} {B B' n n' : Nat} {v v' : Value} {l l' : List Value} (h : w.ownsRow B 53 4 v n l) (h' : w.ownsRow B' 9 1 v' n' l') (hg : w.grownBy w' v'.ownBlock) : w'.ownsRow B 53 4 v n l :=
  ownN_other h hg (fun q hq e => ownN_types_ne h h' (by decide) q hq e)
theorem strs_otherR {w w' : World} {B B' n n' : Nat} {v v' : Value} {l l' : List Value} (h : w.ownsRow B 31 1 v n l) (h' : w.ownsRow B' 9 1 v' n' l') (hg : w.grownBy w' v'.ownBlock) : w'.ownsRow B 31 1 v n l :=
  ownN_other h hg (fun q hq e => ownN_types_ne h h' (by decide) q hq e)
/-- What is known between the rounds: the rows so far. -/
structure TrI (w : World) (lv : Value) (n : Nat) (L : List TokP) (v : Value) (vs : List Value) (R : List (List ByteArray)) (wr : World) : Prop where
  t : wr.ownsRow w.heap.size 53 4 lv n (tokPC L)
  r : wr.ownsRow w.heap.size 31 1 v R.length vs
  d : OwnLs wr w.heap.size vs R
  b : Below w.heap.size w wr
theorem TrI.below {w wr w' : World} {lv v : Value} {n : Nat} {L : List TokP} {vs : List Value} {R : List (List ByteArray)} (h : TrI w lv n L v vs R wr) (hb : Below wr.heap.size wr w') : TrI w lv n L v vs R w' :=
  ⟨ownN_below h.t hb, ownN_below h.r hb, OwnLs.map (strs_below hb) vs R _ h.d, h.b.trans (hb.mono h.b.size)⟩
theorem TrI.alloc {w wr : World} {lv v : Value} {n : Nat} {L : List TokP} {vs : List Value} {R : List (List ByteArray)} (h : TrI w lv n L v vs R wr) (o : Obj) : TrI w lv n L v vs R (wr.alloc o) := h.below ((Below.refl _ _).alloc (Nat.le_refl _) o)

theorem OwnLsU.turn {w w' : World} {v v' : Value} {F F' : List ByteArray} {B U : Nat} {vs : List Value} {T : List (List ByteArray)} (h1 : OwnLsU w U B vs T) (h2 : w.ownsRow U 9 1 v F.length (F.map strV)) (hg : w.grownBy w' v.ownBlock)
    (hv : w'.ownsRow U 9 1 v' F'.length (F'.map strV)) : OwnLs w' B (vs ++ [v']) (T ++ [F']) := by
  refine OwnLsU.snoc hv vs T B (OwnLsU.keep (fun B' v1 F1 hq h3 => ownN_other h3 hg (fun q hq1 e => ?_)) vs T B h1)
  have := hq q hq1
  have := (ownN_ge h2 q e).1
  omega
/-- Another slice at the end of the rows: appended to, and stored. -/
theorem TrI.turn {w wr w5 : World} {lv v5 : Value} {n m g2 c2 U fn : Nat} {fv : Value} {L : List TokP} {vs : List Value} {R : List (List ByteArray)} {F F' : List ByteArray} (h : TrI w lv n L (.slice (some ⟨g2, 0, none⟩) (m + 1) c2) (vs ++ [fv]) (R ++ [F]) wr) (hm : R.length = m) (hU : OwnLsU wr U w.heap.size vs R) (hF : wr.ownsRow U 9 1 fv fn (F.map strV)) (hfn : F.length = fn) (hg : wr.grownBy w5 fv.ownBlock) (o5 : w5.ownsRow U 9 1 v5 F'.length (F'.map strV)) :
    (∃ y, w5.cell? ⟨g2, m, none⟩ = some y) ∧ w5.frozen? ⟨g2, m, none⟩ = false ∧ TrI w lv n L (.slice (some ⟨g2, 0, none⟩) (m + 1) c2) (vs ++ [v5]) (R ++ [F']) (w5.setCell ⟨g2, m, none⟩ v5) := by
  have e1 : (R ++ [F]).length = m + 1 := by rw [List.length_append, hm]; rfl
  have e2 : (R ++ [F']).length = m + 1 := by rw [List.length_append, hm]; rfl
  have hvl : vs.length = m := by have := OwnLs.len _ _ _ h.d; rw [e1, List.length_append] at this; simpa using this
  have hr := h.r
  rw [e1] at hr
  have hr5 := strs_otherR hr hF hg
  have ht5 := strs_other h.t hF hg
  obtain ⟨x1, x2, x3, x4⟩ := own_setn hr5 m (by omega) v5
  have e3 : (vs ++ [fv]).set m v5 = vs ++ [v5] := by rw [← hvl, List.set_append_right _ _ (Nat.le_refl _), Nat.sub_self]; rfl
  rw [e3] at x3
  have gs : w5.grownBy (w5.setCell ⟨g2, m, none⟩ v5) (Value.slice (some ⟨g2, 0, none⟩) (m + 1) c2).ownBlock := grown_setCell (grown_refl _ _) _ _
  have hU2 : OwnLs w5 w.heap.size (vs ++ [v5]) (R ++ [F']) := OwnLsU.turn hU (by rw [hfn]; exact hF) hg o5
  have hlt : fv.ownBlock = none ∨ ∃ q, fv.ownBlock = some q ∧ w.heap.size ≤ q := by
    cases hb : fv.ownBlock with
    | none => exact .inl rfl
    | some q => exact .inr ⟨q, rfl, by have := (ownN_ge hF q hb).1; have := OwnLsU.le _ _ _ hU; omega⟩
  have b5 : Below w.heap.size w w5 := h.b.grown hg h.b.size (fun q hq => by
    rcases hlt with e | ⟨q', e, hq'⟩
    · rw [e] at hq; cases hq
    · rw [e] at hq; injection hq with hq; omega)
  exact ⟨x2, x1, ⟨rows_other ht5 hr5 gs, by rw [e2]; exact x3, OwnLs.map (strs_keep hr5 gs) _ _ _ hU2, b5.setCell (p := ⟨g2, m, none⟩) x4 v5⟩⟩
/-- A cell of the last row is written. -/
theorem TrI.put {w wr : World} {lv : Value} {n m g2 c2 g3 c3 U fn : Nat} {L : List TokP} {vs : List Value} {R : List (List ByteArray)} {F : List ByteArray} {x y : ByteArray} (h : TrI w lv n L (.slice (some ⟨g2, 0, none⟩) (m + 1) c2) (vs ++ [.slice (some ⟨g3, 0, none⟩) (fn + 1) c3]) (R ++ [F ++ [x]]) wr) (hm : R.length = m) (hU : OwnLsU wr U w.heap.size vs R) (hF : wr.ownsRow U 9 1 (.slice (some ⟨g3, 0, none⟩) (fn + 1) c3) (fn + 1) ((F ++ [x]).map strV)) (hfn : F.length = fn) :
    (∃ y, wr.cell? ⟨g3, fn, none⟩ = some y) ∧ wr.frozen? ⟨g3, fn, none⟩ = false ∧ TrI w lv n L (.slice (some ⟨g2, 0, none⟩) (m + 1) c2) (vs ++ [.slice (some ⟨g3, 0, none⟩) (fn + 1) c3]) (R ++ [F ++ [y]]) (wr.setCell ⟨g3, fn, none⟩ (.string y)) := by
  have e1 : (R ++ [F ++ [x]]).length = m + 1 := by rw [List.length_append, hm]; rfl
  have e2 : (R ++ [F ++ [y]]).length = m + 1 := by rw [List.length_append, hm]; rfl
  have f1 : (F ++ [x]).length = fn + 1 := by rw [List.length_append, hfn]; rfl
  have f2 : (F ++ [y]).length = fn + 1 := by rw [List.length_append, hfn]; rfl
  obtain ⟨x1, x2, x3, x4⟩ := own_setn hF fn (by omega) (.string y)
  have e3 : ((F ++ [x]).map strV).set fn (.string y) = (F ++ [y]).map strV := by
    subst hfn
    rw [set_last strV F x (.string y), List.map_append]; rfl
  rw [e3] at x3
  have gs : wr.grownBy (wr.setCell ⟨g3, fn, none⟩ (.string y)) (Value.slice (some ⟨g3, 0, none⟩) (fn + 1) c3).ownBlock := grown_setCell (grown_refl _ _) _ _
  have hr := h.r
  rw [e1] at hr
  have hle := OwnLsU.le _ _ _ hU
  exact ⟨x2, x1, ⟨strs_other h.t hF gs, by rw [e2]; exact strs_otherR hr hF gs, OwnLsU.turn hU (by rw [f1]; exact hF) gs (by rw [f2]; exact x3), h.b.setCell (p := ⟨g3, fn, none⟩) (Nat.le_trans hle x4) _⟩⟩

set_option maxRecDepth 100000 in
set_option maxHeartbeats 12800000 in
theorem impl_TableRows (s : ByteArray) (w : World) (Good : List TokP → Prop) (h : Calls Try.prog 17 #[.string s] w (TkPost w Good)) :
    Calls Try.prog 13 #[.string s] w (RowsPost w Good) := by
  have CT := Lib.hid h
  clear h
  go_enter Try.func13, Try.ntmps13
  go_wp2_with fail
  refine CT.out.mono ?_
  rintro e w1 ⟨lv, L, rfl, hgood, hL60, hVs, o1, b1⟩
  have HG := Lib.hid hgood; have HVS := Lib.hid hVs
  obtain ⟨n, hn⟩ : ∃ n, L.length = n := ⟨_, rfl⟩
  have HN := Lib.hid hn
  rw [hn] at hL60
  obtain ⟨la, lc, rfl, _, hnc, hnc2, _⟩ := ownN_formn o1
  rw [hn] at o1 ⊢ hnc
  have hw1 := b1.size
  have TR0 : Hid (TrI w (.slice la n lc) n L (.slice (some ⟨w1.heap.size, 0, none⟩) 0 0) [] [] (w1.alloc (.cells #[] 31 (0, 0)))) := by
    refine ⟨?_, ?_, True.intro, b1.alloc hw1 _⟩
    · exact ownN_below o1 ((Below.refl _ _).alloc (Nat.le_refl _) _)
    · exact ownN_mono (own_new w1 #[] 31 0 rfl (by omega)) hw1
  clear hgood hVs hn CT o1 b1
  go_wp2
  go_loopw [6, 23] (fun rv t wr => ∃ (k : Nat) (vs : List Value) (R : List (List ByteArray)), k ≤ n ∧ t = .int .i64 (k : Int) ∧ Hid (rowsOf ((L.take k).map TokP.core) = R) ∧ R.length ≤ k ∧ (∀ r ∈ R, r.length ≤ k) ∧ Hid (∀ r ∈ R, ∀ s ∈ r, s.size ≤ 1048576) ∧ Hid (TrI w (.slice la n lc) n L rv vs R wr)) (fun _ t _ => n - (intOf t).toNat)
  case atStart => exact ⟨0, [], [], Nat.zero_le _, rfl, rfl, Nat.le_refl _, (by intro r hr; cases hr), (by intro r hr; cases hr), TR0.out⟩
  case round =>
    clear TR0
    obtain ⟨k, vs, R, hk, rfl, HR, hRl, hRw, HRS, TR⟩ := hrel
    by_cases hkn : k < n
    · have hkL : k < L.length := by rw [HN.out]; exact hkn
      obtain ⟨g, c, hlv, hgB, hgl, _, _, _, hcell⟩ := tokP_at TR.out.t HN.out (by omega)
      injection hlv with hla _ hlc
      subst hla; subst hlc
      obtain ⟨x0, x1, x2, x3⟩ := hcell k hkL
      have HR1 : Hid (rowsOf ((L.take (k + 1)).map TokP.core) = rowStep R L[k].core) := by
        show _ = _
        rw [map_take_succ hkL, rowsOf_snoc, HR.out]
      have hS1 := step_size (t := L[k].core) HRS.out (HVS.out _ (List.getElem_mem hkL))
      obtain ⟨hW1, hW2⟩ := step_wide (t := L[k].core) ⟨hRl, hRw⟩
      have HS1 := Lib.hid hS1
      clear hcell hS1
      generalize L[k] = t at *
      obtain ⟨tK, tN, tV, ta, tp, tc⟩ := t
      simp only [TokP.core] at x0 x1 x2 x3 HR1 HS1 hW1 hW2
      obtain ⟨z, hz⟩ : ∃ z : Int, (tK : Int) = z := ⟨_, rfl⟩
      rw [hz] at x0
      have TR1 := Lib.hid (TR.out.alloc (.cells #[.int .i64 z, .string tN, .string tV, .slice ta tp tc] 53 (0, 0)))
      have hws := TR.out.b.size
      have hRl60 : R.length ≤ 60 := by omega

      have split : (tK = 2 ∧ tN = trS) ∨ (tK = 2 ∧ tN ≠ trS ∧ tN = tdS ∧ R = []) ∨ (tK = 2 ∧ tN ≠ trS ∧ tN = tdS ∧ ∃ R' F, R = R' ++ [F]) ∨ (tK = 2 ∧ tN ≠ trS ∧ tN ≠ tdS) ∨ (tK = 1 ∧ R = []) ∨ (tK = 1 ∧ ∃ R', R = R' ++ [[]]) ∨ (tK = 1 ∧ ∃ R' F x, R = R' ++ [F ++ [x]]) ∨ (tK ≠ 1 ∧ tK ≠ 2) := by
        by_cases h2 : tK = 2
        · by_cases ha : tN = trS
          · exact .inl ⟨h2, ha⟩
          · by_cases hb : tN = tdS
            · rcases nil_or_snoc R with h | h
              · exact .inr (.inl ⟨h2, ha, hb, h⟩)
              · exact .inr (.inr (.inl ⟨h2, ha, hb, h⟩))
            · exact .inr (.inr (.inr (.inl ⟨h2, ha, hb⟩)))
        · by_cases h1 : tK = 1
          · rcases nil_or_snoc R with h | ⟨R', F, h⟩
            · exact .inr (.inr (.inr (.inr (.inl ⟨h1, h⟩))))
            · rcases nil_or_snoc F with h3 | ⟨F', x, h3⟩
              · exact .inr (.inr (.inr (.inr (.inr (.inl ⟨h1, R', by rw [h, h3]⟩)))))
              · exact .inr (.inr (.inr (.inr (.inr (.inr (.inl ⟨h1, R', F', x, by rw [h, h3]⟩))))))
          · exact .inr (.inr (.inr (.inr (.inr (.inr (.inr ⟨h1, h2⟩))))))
      rcases split with h | h | h | h | h | h | h | h
      · obtain ⟨rfl, hN⟩ := h
        obtain rfl : z = 2 := by omega
        clear hz
        have hn := tr_yes hN
        rw [step_tr R rfl hN] at HR1 HS1 hW1 hW2
        obtain ⟨m, hm⟩ : ∃ m, R.length = m := ⟨_, rfl⟩
        have TR2 := Lib.hid (TR1.out.alloc (.cells #[] 9 (0, 0)))
        have OW2 := Lib.hid (own_len_eq TR2.out.r hm rfl)
        obtain ⟨ra, rc, rfl, _⟩ := ownN_formn OW2.out
        have HM := Lib.hid hm
        have hm60 : m ≤ 60 := by omega
        have ON := Lib.hid (own_new (wr.alloc (.cells #[.int .i64 2, .string tN, .string tV, .slice ta tp tc] 53 (0, 0))) #[] 9 0 rfl (by omega))
        clear hm hN TR
        go_wp2_with (at_builtin; refine wpList_pushRow (.tmp 39) (.tmp 41) w.heap.size (some ⟨wr.heap.size + 1, 0, none⟩) 0 0 _ m vs OW2.out (by simp; omega) (by omega) rfl (by rfl) (by rfl) (wr.heap.size + 1 + 1) (by simp) (by rfl) ?_; intro v6 w6 o6 ga6 g6)
        have TR6 : Hid (TrI w (.slice (some ⟨g, 0, none⟩) n lc) n L v6 (vs ++ [.slice (some ⟨wr.heap.size + 1, 0, none⟩) 0 0]) (R ++ [[]]) w6) := by
          refine ⟨rows_other TR2.out.t OW2.out g6, by rw [List.length_append, HM.out]; exact o6, ?_, TR2.out.b.grown g6 TR2.out.b.size (fun q hq => (ownN_ge OW2.out q hq).1)⟩
          have e : (wr.alloc (.cells #[.int .i64 2, .string tN, .string tV, .slice ta tp tc] 53 (0, 0))).heap.size = wr.heap.size + 1 := by simp
          have hon := strs_keep OW2.out g6 _ _ [] ON.out
          rw [e] at hon
          refine OwnLs.snoc (w := wr.alloc (.cells #[.int .i64 2, .string tN, .string tV, .slice ta tp tc] 53 (0, 0))) (F := []) (fun B v F h => strs_keep OW2.out g6 B v F (strs_below ((Below.refl _ _).alloc (Nat.le_refl _) _) B v F h)) (Nat.le_trans (by simp) g6.size) (by rw [e]; exact hon) vs R w.heap.size (by rw [e]; omega) TR1.out.d
        clear o6 ga6 g6
        go_wp2
        go_roundw
        case rel => exact ⟨k + 1, _, R ++ [[]], by omega, by go_num, HR1.out, hW1, hW2, HS1.out, TR6.out⟩
        case measure => simp [intOf]; omega
      · obtain ⟨rfl, hN, hN2, rfl⟩ := h
        obtain rfl : z = 2 := by omega
        clear hz
        have hn := tr_no hN; have hn2 := td_yes hN2
        rw [step_nil (by intro ⟨_, e⟩; exact hN e)] at HR1
        obtain ⟨ra, rc, rfl, _⟩ := ownN_formn TR1.out.r
        clear hN hN2
        go_wp2
        go_roundw
        case rel => exact ⟨k + 1, vs, [], by omega, by go_num, HR1.out, by first | exact Nat.le_trans hRl (Nat.le_succ _) | omega, by intro r hr; exact Nat.le_trans (hRw r hr) (Nat.le_succ _), HRS.out, TR1.out⟩
        case measure => simp [intOf]; omega
      · obtain ⟨rfl, hN, hN2, R', F, rfl⟩ := h
        obtain rfl : z = 2 := by omega
        clear hz
        have hn := tr_no hN; have hn2 := td_yes hN2
        rw [step_td R' F rfl hN2] at HR1 HS1 hW1 hW2
        obtain ⟨m, hm⟩ : ∃ m, R'.length = m := ⟨_, rfl⟩
        have HM := Lib.hid hm
        have e1 : (R' ++ [F]).length = m + 1 := by rw [List.length_append, hm]; rfl
        have OW1 := Lib.hid (own_len_eq TR1.out.r e1 rfl)
        rw [e1] at hRl hRl60
        obtain ⟨vs', fv, rfl⟩ : ∃ vs' fv, vs = vs' ++ [fv] := by
          rcases nil_or_snoc vs with h | h
          · have := OwnLs.len _ _ _ TR1.out.d; rw [h, e1] at this; simp at this
          · exact h
        have hvl : vs'.length = m := by have := OwnLs.len _ _ _ TR1.out.d; rw [e1, List.length_append] at this; simpa using this
        have D1 := Lib.hid TR1.out.d
        obtain ⟨fn, hfn⟩ : ∃ fn, F.length = fn := ⟨_, rfl⟩
        have HFN := Lib.hid hfn
        obtain ⟨U, hU, dU, oF⟩ := OwnLs.unsnoc vs' R' _ TR1.out.b.size D1.out
        rw [hfn] at oF
        have OF := Lib.hid oF; have DU := Lib.hid dU
        obtain ⟨fa, fc, rfl, _⟩ := ownN_formn oF
        have hfk : fn ≤ k := by rw [← hfn]; exact hRw F (by simp)
        obtain ⟨g2, c2, hrv, hg2B, hg2l, _, _, hc2⟩ := own_at OW1.out (Nat.succ_pos m)
        subst hrv
        have y0 := hc2 m (.slice fa fn fc) (by rw [List.getElem?_append_right (by omega), hvl, Nat.sub_self]; rfl)
        have m0 : (0 : Int) ≤ (m : Int) := by omega
        have m1 : (m : Int) < ((m + 1 : Nat) : Int) := by omega
        have m4 : (m : Int) < (m : Int) + 1 := by omega
        have m3 : IntKind.i64.wrap (m : Int) = (m : Int) := IntWalk.i64_in _ (by omega)
        clear hN hN2 hm hfn hc2 dU oF hvl e1 TR hRw
        go_wp2_with (at_builtin; refine wpList_pushS2 (.tmp 61) (.tmp 62) U ⟨#[]⟩ _ fn F OF.out hU (by omega) rfl (by rfl) (by rfl) (wr.heap.size + 1) (by simp) (by rfl) ?_; intro v5 w5 o5 g5 b5; obtain ⟨⟨yy, hyy⟩, hff, TR6⟩ := TrI.turn (F' := F ++ [⟨#[]⟩]) TR1.out HM.out DU.out OF.out HFN.out g5 (by rw [List.length_append, HFN.out]; exact o5); have TR7 := Lib.hid TR6; obtain ⟨a5, c5, hv5, _⟩ := ownN_formn o5; subst hv5; clear o5 g5 b5 TR6)
        go_roundw
        case rel => exact ⟨k + 1, _, R' ++ [F ++ [(⟨#[]⟩ : ByteArray)]], by omega, by go_num, HR1.out, hW1, hW2, HS1.out, TR7.out⟩
        case measure => simp [intOf]; omega
      · obtain ⟨rfl, hN, hN2⟩ := h
        obtain rfl : z = 2 := by omega
        clear hz
        have hn := tr_no hN; have hn2 := td_no hN2
        rw [step_no R (by intro ⟨_, e⟩; exact hN e) (by intro ⟨_, e⟩; exact hN2 e) (by simp)] at HR1
        obtain ⟨ra, rc, rfl, _⟩ := ownN_formn TR1.out.r
        clear hN hN2
        go_wp2
        go_roundw
        case rel => exact ⟨k + 1, vs, R, by omega, by go_num, HR1.out, by first | exact Nat.le_trans hRl (Nat.le_succ _) | omega, by intro r hr; exact Nat.le_trans (hRw r hr) (Nat.le_succ _), HRS.out, TR1.out⟩
        case measure => simp [intOf]; omega
      · obtain ⟨rfl, rfl⟩ := h
        obtain rfl : z = 1 := by omega
        clear hz
        rw [step_nil (by intro ⟨e, _⟩; simp at e)] at HR1
        obtain ⟨ra, rc, rfl, _⟩ := ownN_formn TR1.out.r
        go_wp2
        go_roundw
        case rel => exact ⟨k + 1, vs, [], by omega, by go_num, HR1.out, by first | exact Nat.le_trans hRl (Nat.le_succ _) | omega, by intro r hr; exact Nat.le_trans (hRw r hr) (Nat.le_succ _), HRS.out, TR1.out⟩
        case measure => simp [intOf]; omega
      · obtain ⟨rfl, R', rfl⟩ := h
        obtain rfl : z = 1 := by omega
        clear hz
        rw [step_txt0 R' rfl] at HR1
        obtain ⟨m, hm⟩ : ∃ m, R'.length = m := ⟨_, rfl⟩
        have HM := Lib.hid hm
        have e1 : (R' ++ [[]]).length = m + 1 := by rw [List.length_append, hm]; rfl
        have OW1 := Lib.hid (own_len_eq TR1.out.r e1 rfl)
        rw [e1] at hRl hRl60
        obtain ⟨vs', fv, rfl⟩ : ∃ vs' fv, vs = vs' ++ [fv] := by
          rcases nil_or_snoc vs with h | h
          · have := OwnLs.len _ _ _ TR1.out.d; rw [h, e1] at this; simp at this
          · exact h
        have hvl : vs'.length = m := by have := OwnLs.len _ _ _ TR1.out.d; rw [e1, List.length_append] at this; simpa using this
        have D1 := Lib.hid TR1.out.d
        obtain ⟨U, hU, dU, oF⟩ := OwnLs.unsnoc vs' R' _ TR1.out.b.size D1.out
        obtain ⟨fa, fc, rfl, _⟩ := ownN_formn oF
        obtain ⟨g2, c2, hrv, hg2B, hg2l, _, _, hc2⟩ := own_at OW1.out (Nat.succ_pos m)
        subst hrv
        have m0 : (0 : Int) ≤ (m : Int) := by omega
        have m1 : (m : Int) < ((m + 1 : Nat) : Int) := by omega
        have m4 : (m : Int) < (m : Int) + 1 := by omega
        have m3 : IntKind.i64.wrap (m : Int) = (m : Int) := IntWalk.i64_in _ (by omega)
        have y0 := hc2 m (.slice fa 0 fc) (by rw [List.getElem?_append_right (by omega), hvl, Nat.sub_self]; rfl)
        clear hm hc2 dU oF hvl e1 TR
        go_wp2
        go_roundw
        case rel => exact ⟨k + 1, _, R' ++ [[]], by omega, by go_num, HR1.out, by rw [List.length_append, HM.out]; exact Nat.le_trans hRl (Nat.le_succ _), by intro r hr; exact Nat.le_trans (hRw r hr) (Nat.le_succ _), HRS.out, TR1.out⟩
        case measure => simp [intOf]; omega
      · obtain ⟨rfl, R', F, x, rfl⟩ := h
        obtain rfl : z = 1 := by omega
        clear hz
        rw [step_txt R' F x rfl] at HR1 HS1 hW1 hW2
        obtain ⟨m, hm⟩ : ∃ m, R'.length = m := ⟨_, rfl⟩
        have HM := Lib.hid hm
        have e1 : (R' ++ [F ++ [x]]).length = m + 1 := by rw [List.length_append, hm]; rfl
        have OW1 := Lib.hid (own_len_eq TR1.out.r e1 rfl)
        rw [e1] at hRl hRl60
        obtain ⟨vs', fv, rfl⟩ : ∃ vs' fv, vs = vs' ++ [fv] := by
          rcases nil_or_snoc vs with h | h
          · have := OwnLs.len _ _ _ TR1.out.d; rw [h, e1] at this; simp at this
          · exact h
        have hvl : vs'.length = m := by have := OwnLs.len _ _ _ TR1.out.d; rw [e1, List.length_append] at this; simpa using this
        have D1 := Lib.hid TR1.out.d
        obtain ⟨fn, hfn⟩ : ∃ fn, F.length = fn := ⟨_, rfl⟩
        have HFN := Lib.hid hfn
        have f1 : (F ++ [x]).length = fn + 1 := by rw [List.length_append, hfn]; rfl
        obtain ⟨U, hU, dU, oF⟩ := OwnLs.unsnoc vs' R' _ TR1.out.b.size D1.out
        rw [f1] at oF
        have hfk : fn + 1 ≤ k := by rw [← f1]; exact hRw _ (by simp)
        obtain ⟨g3, c3, hfv, hg3B, hg3l, hfc, hfc2, _⟩ := own_at oF (Nat.succ_pos fn)
        subst hfv
        have OF := Lib.hid oF; have DU := Lib.hid dU
        obtain ⟨g2, c2, hrv, hg2B, hg2l, _, _, hc2⟩ := own_at OW1.out (Nat.succ_pos m)
        subst hrv
        have m0 : (0 : Int) ≤ (m : Int) := by omega
        have m1 : (m : Int) < ((m + 1 : Nat) : Int) := by omega
        have m4 : (m : Int) < (m : Int) + 1 := by omega
        have m3 : IntKind.i64.wrap (m : Int) = (m : Int) := IntWalk.i64_in _ (by omega)
        have y0 := hc2 m (.slice (some ⟨g3, 0, none⟩) (fn + 1) c3) (by rw [List.getElem?_append_right (by omega), hvl, Nat.sub_self]; rfl)
        obtain ⟨⟨yy, hyy⟩, hff, TR6⟩ := TrI.put (y := tV) TR1.out HM.out DU.out OF.out HFN.out
        have TR7 := Lib.hid TR6
        have n0 : (0 : Int) ≤ (fn : Int) := by omega
        have n1 : (fn : Int) < ((fn + 1 : Nat) : Int) := by omega
        have n4 : (fn : Int) < (fn : Int) + 1 := by omega
        have n3 : IntKind.i64.wrap (fn : Int) = (fn : Int) := IntWalk.i64_in _ (by omega)
        have n5 : (0 : Int) < (fn : Int) + 1 := by omega
        clear hm hfn f1 hc2 dU oF hvl e1 TR TR6 hRw
        go_wp2
        go_region
        go_wp2
        go_roundw
        case rel => exact ⟨k + 1, _, R' ++ [F ++ [tV]], by omega, by go_num, HR1.out, hW1, hW2, HS1.out, by first | exact TR7.out | exact TR7.out.below (Below.refl _ _).drew⟩
        case measure => simp [intOf]; omega
      · obtain ⟨h1, h2⟩ := h
        have k1 : (z == 1) = false := by simp; omega
        have k2 : (z == 2) = false := by simp; omega
        rw [step_no R (by intro ⟨e, _⟩; exact h2 e) (by intro ⟨e, _⟩; exact h2 e) h1] at HR1
        obtain ⟨ra, rc, rfl, _⟩ := ownN_formn TR1.out.r
        clear h1 h2 hz
        go_wp2
        go_roundw
        case rel => exact ⟨k + 1, vs, R, by omega, by go_num, HR1.out, by first | exact Nat.le_trans hRl (Nat.le_succ _) | omega, by intro r hr; exact Nat.le_trans (hRw r hr) (Nat.le_succ _), HRS.out, TR1.out⟩
        case measure => simp [intOf]; omega
    · have hkn2 : n = k := by omega
      subst hkn2
      rw [List.take_of_length_le (by rw [HN.out]; exact Nat.le_refl _)] at HR
      obtain ⟨m, hm⟩ : ∃ m, R.length = m := ⟨_, rfl⟩
      obtain ⟨ra, rc, rfl, _, hat⟩ := tabs_own (own_len_eq TR.out.r hm rfl) TR.out.d hm
      have hm60 : m ≤ 60 := by omega
      have CI := Lib.hid (impl_TableTokensN ra m rc R _ (hat.2.mono (Nat.zero_le _)) hm (by omega) ⟨by omega, fun r hr => ⟨by have := hRw r hr; omega, fun t ht => by have := HRS.out r hr t ht; omega⟩⟩)
      have hws := TR.out.b.size
      clear hat hm hRl hRw HRS HVS
      rcases hb : tabB R with _ | _
      · have HN0 := nil_tok none 0 0
        rw [tokR_no hb] at CI
        have HB := Lib.hid hb
        clear hb
        go_wp2_with fail
        refine CI.out.mono ?_
        rintro e w2 ⟨v, rfl, _, b2, hv⟩
        obtain rfl := hv rfl
        have B2 := Lib.hid (TR.out.b.trans (b2.mono hws))
        clear hv b2
        go_wp2
        exact bodyPost_ret (v := .tuple #[.slice none 0 0, .bool false]) (by simp [results, Try.results13, go_sem]) rfl ⟨L, HG.out, B2.out, .inr ⟨(fun hr => by have := hr.1; rw [HR.out, HB.out] at this; cases this), _, rfl, none, 0, rfl⟩⟩
      · have HB := Lib.hid hb
        rw [tokR_yes hb] at CI
        have hXl : 0 < (tabToks R).length := by unfold tabToks; simp
        obtain ⟨X, hX⟩ : ∃ X, tabToks R = X := ⟨_, rfl⟩
        have HX := Lib.hid hX
        rw [hX] at CI hXl
        obtain ⟨x, hx⟩ : ∃ x, X.length = x := ⟨_, rfl⟩
        have HXL := Lib.hid hx
        rw [hx] at hXl
        clear hb hX hx
        go_wp2_with fail
        refine CI.out.mono ?_
        rintro e w2 ⟨v, rfl, o2, b2, _⟩
        rw [HXL.out] at o2
        obtain ⟨xa, xc, rfl, hxc, hxc2, hxat, _⟩ := toks_own o2 HXL.out
        obtain ⟨ad, rfl⟩ := tok_some hxat (by rw [HXL.out]; exact hXl)
        have HXA := Lib.hid hxat
        have TR2 := Lib.hid (TR.out.below b2)
        have hw2 := TR2.out.b.size
        have HN0 := nil_tok (some ad) x xc
        simp only [Option.isNone_some] at HN0
        clear o2 b2 hxat TR CI
        by_cases hnx : x = n
        · have hneq : ((x : Int) != (n : Int)) = false := by simp; omega
          subst hnx
          go_wp2
          go_loopw [108] (fun t wr => ∃ k : Nat, k ≤ x ∧ t = .int .i64 (k : Int) ∧ Hid (∀ i (h : i < L.length) (h2 : i < X.length), i < k → L[i].core = X[i] ∧ L[i].p = 0) ∧ Hid (Below w2.heap.size w2 wr)) (fun t _ => x - (intOf t).toNat)
          case atStart => exact ⟨0, Nat.zero_le _, rfl, fun i _ _ h => absurd h (Nat.not_lt_zero _), Below.refl _ _⟩
          case round =>
            obtain ⟨k, hk, rfl, HK, BW⟩ := hrel
            have hwr := BW.out.size
            by_cases hkx : k < x
            · have hkL : k < L.length := by rw [HN.out]; exact hkx
              have hkX : k < X.length := by rw [HXL.out]; exact hkx
              have TR3 := Lib.hid (TR2.out.below BW.out)
              obtain ⟨g, c, hlv, hgB, hgl, _, _, _, hcell⟩ := tokP_at TR3.out.t HN.out (by omega)
              injection hlv with hla _ hlc
              subst hla; subst hlc
              obtain ⟨x0, x1, x2, x3⟩ := hcell k hkL
              obtain ⟨b, off, pa, pc, had, hbl, y0, y1, y2, _⟩ := (HXA.out.below BW.out) k hkX
              injection had with had
              subst had
              have HK1 : Hid (L[k].core = X[k] → L[k].p = 0 → ∀ i (h : i < L.length) (h2 : i < X.length), i < k + 1 → L[i].core = X[i] ∧ L[i].p = 0) := by
                intro h1 h2 i hi hi2 hik
                by_cases e : i = k
                · subst e; exact ⟨h1, h2⟩
                · exact HK.out i hi hi2 (by omega)
              have HNo : Hid (¬ (L[k].core = X[k] ∧ L[k].p = 0) → ¬ ResOk L) := by
                intro h1 h2
                refine h1 ⟨?_, h2.2.2 _ (List.getElem_mem hkL)⟩
                have e := h2.2.1
                rw [HR.out, HX.out] at e
                have e2 := List.getElem_of_eq e (i := k) (by rw [List.length_map]; exact hkL)
                rw [List.getElem_map] at e2
                exact e2
              clear hcell HK
              generalize L[k] = t at *
              generalize X[k] = u at *
              obtain ⟨tK, tN, tV, ta, tp, tc⟩ := t
              obtain ⟨uK, uN, uV⟩ := u
              simp only [TokP.core, Tok.mk.injEq] at x0 x1 x2 x3 y0 y1 y2 HK1 HNo
              have k0 : (0 : Int) ≤ (k : Int) := by omega
              have k1 : (k : Int) < (x : Int) := by omega
              have BA : Hid (Below w.heap.size w (wr.alloc (.cells #[.int .i64 (tK : Int), .string tN, .string tV, .slice ta tp tc] 53 (0, 0)))) := TR3.out.b.alloc TR3.out.b.size _
              by_cases hK : tK = uK
              · subst hK
                by_cases hN : tN = uN
                · subst hN
                  by_cases hV : tV = uV
                  · subst hV
                    by_cases hp : tp = 0
                    · subst hp
                      have HK2 := Lib.hid (HK1.out ⟨rfl, rfl, rfl⟩ rfl)
                      have BW2 := Lib.hid (BW.out.alloc hwr (.cells #[.int .i64 (tK : Int), .string tN, .string tV, .slice ta 0 tc] 53 (0, 0)))
                      clear HK1 HNo
                      go_wp2
                      go_quiet (fail)
                      go_wp2
                      go_roundw
                      case rel => exact ⟨k + 1, by omega, by go_num, HK2.out, below_drewN BW2.out _⟩
                      case measure => simp [intOf]; omega
                    · have HNR := Lib.hid (HNo.out (fun h => hp h.2))
                      have q1 : (0 : Int) < (tp : Int) := by omega
                      have q2 : decide ((0 : Int) < (tp : Int)) = true := decide_eq_true q1
                      clear HK1 HNo hp
                      go_wp2
                      go_quiet (fail)
                      go_wp2
                      exact bodyPost_ret (v := .tuple #[.slice none 0 0, .bool false]) (by simp [results, Try.results13, go_sem]) rfl ⟨L, HG.out, below_drewN BA.out _, .inr ⟨HNR.out, _, rfl, none, 0, rfl⟩⟩
                  · have HNR := Lib.hid (HNo.out (fun h => hV h.1.2.2))
                    have q1 : (tV.toList == uV.toList) = false := tl_no hV
                    have q2 : (tV.toList != uV.toList) = true := by simp [bne, q1]
                    clear HK1 HNo hV
                    go_wp2
                    go_quiet (fail)
                    go_wp2
                    exact bodyPost_ret (v := .tuple #[.slice none 0 0, .bool false]) (by simp [results, Try.results13, go_sem]) rfl ⟨L, HG.out, below_drewN BA.out _, .inr ⟨HNR.out, _, rfl, none, 0, rfl⟩⟩
                · have HNR := Lib.hid (HNo.out (fun h => hN h.1.2.1))
                  have q1 : (tN.toList == uN.toList) = false := tl_no hN
                  have q2 : (tN.toList != uN.toList) = true := by simp [bne, q1]
                  clear HK1 HNo hN
                  go_wp2
                  go_quiet (fail)
                  go_wp2
                  exact bodyPost_ret (v := .tuple #[.slice none 0 0, .bool false]) (by simp [results, Try.results13, go_sem]) rfl ⟨L, HG.out, below_drewN BA.out _, .inr ⟨HNR.out, _, rfl, none, 0, rfl⟩⟩
              · have HNR := Lib.hid (HNo.out (fun h => hK h.1.1))
                have q1 : ((tK : Int) == (uK : Int)) = false := by simp; omega
                have q2 : ((tK : Int) != (uK : Int)) = true := by simp; omega
                clear HK1 HNo hK
                go_wp2
                go_quiet (fail)
                go_wp2
                exact bodyPost_ret (v := .tuple #[.slice none 0 0, .bool false]) (by simp [results, Try.results13, go_sem]) rfl ⟨L, HG.out, below_drewN BA.out _, .inr ⟨HNR.out, _, rfl, none, 0, rfl⟩⟩
            · have e : x = k := by omega
              subst e
              have TR3 := Lib.hid (TR2.out.below BW.out)
              have HRO : Hid (ResOk L) := by
                refine ⟨by rw [HR.out]; exact HB.out, ?_, fun t ht => ?_⟩
                · rw [HR.out, HX.out]
                  refine List.ext_getElem (by rw [List.length_map, HN.out, HXL.out]) (fun i h1 h2 => ?_)
                  rw [List.getElem_map]
                  exact (HK.out i (by simpa using h1) h2 (by rw [← HXL.out]; exact h2)).1
                · obtain ⟨i, hi, rfl⟩ := List.getElem_of_mem ht
                  exact (HK.out i hi (by rw [HXL.out, ← HN.out]; exact hi) (by rw [← HN.out]; exact hi)).2
              have HRW := Lib.hid TR3.out.r
              clear HK
              go_wp2
              exact bodyPost_ret (v := .tuple #[.slice ra m rc, .bool true]) (by simp [results, Try.results13, go_sem]) rfl ⟨L, HG.out, TR3.out.b, .inl ⟨HRO.out, _, vs, rfl, by rw [HR.out]; exact HRW.out, by rw [HR.out]; exact TR3.out.d⟩⟩
        · have hneq : ((x : Int) != (n : Int)) = true := by simp; omega
          have HNX := Lib.hid hnx
          go_wp2
          exact bodyPost_ret (v := .tuple #[.slice none 0 0, .bool false]) (by simp [results, Try.results13, go_sem]) rfl ⟨L, HG.out, TR2.out.b, .inr ⟨fun hr => HNX.out (by have := hr.2.1; rw [HR.out, HX.out] at this; rw [← HXL.out, ← this, List.length_map, HN.out]), _, rfl, none, 0, rfl⟩⟩
end Go.Proofs.Ytdoomfckdjjlaaa
