/- Owned rows of slices of strings; spec.l1OwnRowsString. -/
import Derived.Test.YtdoomfckdjjlaaaTok
namespace Go.Proofs.Ytdoomfckdjjlaaa
open Go.RowKit

/-- The values of an owned row are owned slices of these strings, each behind those of the one before. -/
def OwnLs (w : World) : Nat → List Value → List (List ByteArray) → Prop
  | _, [], [] => True
  | B, v :: vs, F :: T => ∃ U, B ≤ U ∧ w.ownsRow B 9 1 v F.length (F.map strV) ∧ (∀ q, v.ownBlock = some q → q < U) ∧ OwnLs w U vs T
  | _, _, _ => False
theorem OwnLs.len {w : World} : ∀ (vs : List Value) (T : List (List ByteArray)) (B : Nat), OwnLs w B vs T → vs.length = T.length := by
  intro vs
  induction vs with
  | nil => intro T B h; cases T with
    | nil => rfl
    | cons F T => exact h.elim
  | cons v vs ih => intro T B h; cases T with
    | nil => exact h.elim
    | cons F T => obtain ⟨U, _, _, _, h⟩ := h; simp [ih T U h]
theorem OwnLs.map {w w' : World} (hk : ∀ B v F, w.ownsRow B 9 1 v (List.length F) (F.map strV) → w'.ownsRow B 9 1 v F.length (F.map strV)) : ∀ (vs : List Value) (T : List (List ByteArray)) (B : Nat), OwnLs w B vs T → OwnLs w' B vs T := by
  intro vs
  induction vs with
  | nil => intro T B h; cases T with
    | nil => exact True.intro
    | cons F T => exact h
  | cons v vs ih => intro T B h; cases T with
    | nil => exact h
    | cons F T =>
      obtain ⟨U, h0, h1, h2, h3⟩ := h
      exact ⟨U, h0, hk _ _ _ h1, h2, ih T U h3⟩
theorem OwnLs.mono {w : World} : ∀ (vs : List Value) (T : List (List ByteArray)) (B B' : Nat), B' ≤ B → OwnLs w B vs T → OwnLs w B' vs T := by
  intro vs
  cases vs with
  | nil => intro T B B' _ h; cases T with
    | nil => exact True.intro
    | cons F T => exact h
  | cons v vs => intro T B B' hB h; cases T with
    | nil => exact h
    | cons F T =>
      obtain ⟨U, h0, h1, h2, h3⟩ := h
      exact ⟨U, by omega, ownN_mono h1 hB, h2, h3⟩
theorem OwnLs.snoc {w w' : World} {v : Value} {F : List ByteArray} (hk : ∀ B v F, w.ownsRow B 9 1 v (List.length F) (F.map strV) → w'.ownsRow B 9 1 v F.length (F.map strV)) (hw : w.heap.size ≤ w'.heap.size) (hv : w'.ownsRow w.heap.size 9 1 v F.length (F.map strV)) : ∀ (vs : List Value) (T : List (List ByteArray)) (B : Nat), B ≤ w.heap.size → OwnLs w B vs T → OwnLs w' B (vs ++ [v]) (T ++ [F]) := by
  intro vs
  induction vs with
  | nil => intro T B hB h; cases T with
    | nil => exact ⟨w'.heap.size, by omega, ownN_mono hv hB, fun q hq => (ownN_ge hv q hq).2, True.intro⟩
    | cons F' T => exact h.elim
  | cons u vs ih => intro T B hB h; cases T with
    | nil => exact h.elim
    | cons F' T =>
      obtain ⟨U, h0, h1, h2, h3⟩ := h
      by_cases hU : U ≤ w.heap.size
      · exact ⟨U, h0, hk _ _ _ h1, h2, ih T U hU h3⟩
      · refine ⟨w.heap.size, hB, hk _ _ _ h1, fun q hq => (ownN_ge h1 q hq).2, ih T _ (Nat.le_refl _) (OwnLs.mono vs T U _ (by omega) h3)⟩
theorem OwnLs.get {w : World} : ∀ (vs : List Value) (T : List (List ByteArray)) (B : Nat), OwnLs w B vs T → ∀ i (h : i < T.length) (h' : i < vs.length), w.ownsRow B 9 1 vs[i] T[i].length (T[i].map strV) := by
  intro vs
  induction vs with
  | nil => intro T B h i _ h'; simp at h'
  | cons v vs ih => intro T B h; cases T with
    | nil => exact h.elim
    | cons F T =>
      obtain ⟨U, h0, h1, h2, h3⟩ := h
      intro i hi hi'
      rcases i with _ | i
      · exact h1
      · exact ownN_mono (ih T U h3 i (by simpa using hi) (by simpa using hi')) h0
theorem OwnLs.one {w : World} : ∀ (vs : List Value) (T : List (List ByteArray)) (B : Nat), OwnLs w B vs T → ∀ u ∈ vs, u.oneCell' = true := by
  intro vs
  induction vs with
  | nil => intro T B _ u hu; cases hu
  | cons v vs ih => intro T B h; cases T with
    | nil => exact h.elim
    | cons F T =>
      obtain ⟨U, h0, h1, h2, h3⟩ := h
      intro u hu
      rcases List.mem_cons.1 hu with rfl | hu
      · obtain ⟨a, c, rfl, _⟩ := ownN_formn h1
        rfl
      · exact ih T U h3 u hu
theorem tabs_own {w : World} {B B' n : Nat} {v : Value} {vs : List Value} {T : List (List ByteArray)} (ho : w.ownsRow B' 31 1 v n vs) (hl : OwnLs w B vs T) (hn : T.length = n) : ∃ a c, v = .slice a n c ∧ n ≤ c ∧ c ≤ 9223372036854775807 ∧ TabsAt w B a T := by
  obtain ⟨a, c, rfl, hr, hc, hc', _, _⟩ := ownN_formn ho
  refine ⟨a, c, rfl, hc, hc', fun i hi => ?_⟩
  have hll := OwnLs.len vs T B hl
  have hil : i < vs.length := by omega
  obtain ⟨b, off, h1, h2, h3⟩ := hr i hil
  exact ⟨b, off, vs[i], h1, h2, h3, SlS.of_own (OwnLs.get vs T B hl i hi hil) rfl⟩
theorem info_row : (Try.prog.info? 31).map (fun i => (i.zero, i.size, i.bytes)) = some (some (.slice none 0 0), 1, 24) := by kernel_rfl
/-- A block of slices is none of strings. -/
theorem strs_keep {w w' : World} {B' n : Nat} {vo : Value} {L : List Value} (ho : w.ownsRow B' 31 1 vo n L) (hg : w.grownBy w' vo.ownBlock) : ∀ B v F, w.ownsRow B 9 1 v (List.length F) (F.map strV) → w'.ownsRow B 9 1 v F.length (F.map strV) := fun B v F h =>
  ownN_other h hg (fun _ hj e => ownN_types_ne h ho (by decide) _ hj e)
theorem strs_below {w w' : World} (hb : Below w.heap.size w w') : ∀ B v F, w.ownsRow B 9 1 v (List.length F) (F.map strV) → w'.ownsRow B 9 1 v F.length (F.map strV) := fun _ _ _ h => ownN_below h hb

set_option maxRecDepth 100000 in
set_option maxHeartbeats 1600000 in
theorem own_rows (a : Option Addr) (n c : Nat) (T : List (List ByteArray)) (w : World) (h : TabsAt w 0 a T) (hn : T.length = n) (hn' : n ≤ 1048576) (hs : TabOkN 1048576 T) :
    Calls Try.prog 44 #[.slice a n c] w fun e w' => ∃ a' c', e = .returned (.slice a' n c') ∧ TabsAt w' 0 a' T ∧ Below w.heap.size w w' := by
  have H := Lib.hid h; have HN := Lib.hid hn; have HS := Lib.hid hs.2
  clear h hn hs
  obtain ⟨i0, hi, hz0, hz1, hz2⟩ := info_parts info_str
  have HI := Lib.hid hi; have HZ0 := Lib.hid hz0; have HZ1 := Lib.hid hz1; have HZ2 := Lib.hid hz2
  obtain ⟨i1, hi1, hy0, hy1, hy2⟩ := info_parts info_row
  have HI1 := Lib.hid hi1; have HY0 := Lib.hid hy0; have HY1 := Lib.hid hy1; have HY2 := Lib.hid hy2
  clear hi hz0 hz1 hz2 hi1 hy0 hy1 hy2
  have O0 := Lib.hid (own_new w #[] 31 0 rfl (by omega))
  have B0 : Hid (Below w.heap.size w (w.alloc (.cells #[] 31 (0, 0)))) := (Below.refl _ _).alloc (Nat.le_refl _) _
  go_enter Try.func44, Try.ntmps44
  go_wp2
  go_loopw [3, 4] (fun o t wr => ∃ (k : Nat) (vs : List Value), t = .int .i64 (k : Int) ∧ k ≤ n ∧ wr.ownsRow w.heap.size 31 1 o k vs ∧ Hid (OwnLs wr w.heap.size vs (T.take k)) ∧ Below w.heap.size w wr) (fun _ t _ => n - (intOf t).toNat)
  case atStart => exact ⟨0, [], rfl, Nat.zero_le _, O0.out, True.intro, B0.out⟩
  case round =>
    obtain ⟨k, vs, rfl, hk, own, HL, hb⟩ := hrel
    have OW := Lib.hid own; have BW := Lib.hid hb
    have hws := hb.size
    clear own hb O0 B0
    by_cases hkn : k < n
    · have hkT : k < T.length := by rw [HN.out]; exact hkn
      obtain ⟨b, off, v, rfl, hbl, x0, x1⟩ := (H.out.below BW.out) k hkT
      obtain ⟨fa, fc, rfl, hrow, hf1, hf2, hf3, _⟩ := x1
      have hrs := HS.out _ (List.getElem_mem hkT)
      have HTK : Hid (T.take (k + 1) = T.take k ++ [T[k]]) := List.take_succ_eq_append_getElem hkT
      generalize T[k] = F at *
      obtain ⟨fl, hfl⟩ : ∃ fl, F.length = fl := ⟨_, rfl⟩
      rw [hfl] at hf1 hrs x0
      have ON0 := Lib.hid (own_new wr #[] 9 0 rfl (by omega))
      have HRW := Lib.hid (hrow.below (Nat.le_refl _) ((Below.refl wr.heap.size wr).alloc (Nat.le_refl _) (.cells #[] 9 (0, 0))))
      have OW1 := Lib.hid (ownN_below OW.out ((Below.refl wr.heap.size wr).alloc (Nat.le_refl _) (.cells #[] 9 (0, 0))))
      have B1 := Lib.hid (BW.out.alloc hws (.cells #[] 9 (0, 0)))
      have HFL := Lib.hid hfl
      have HF3 := Lib.hid hf3
      have hz : wr.heap.size ≤ (wr.alloc (.cells #[] 9 (0, 0))).heap.size := by simp
      clear hrow hfl hf3
      have hwr : Below wr.heap.size wr (wr.alloc (.cells #[] 9 (0, 0))) := (Below.refl _ _).alloc (Nat.le_refl _) _
      have HWR := Lib.hid hwr
      clear hwr
      go_wp2_with (first
        | (at_builtin; refine wpList_append_row rfl (.tmp 13) (.tmp 17) _ rfl wr.heap.size 9 i0 _ 16 Try.underlying31 HI.out HZ0.out HZ1.out HZ2.out rfl (.slice (some ⟨wr.heap.size, 0, none⟩) 0 0) 0 [] (by rfl) ON0.out fa fl fc (F.map strV) (by rfl) HF3.out HRW.out (by rw [List.length_map]; exact HFL.out) (strs_one F) (by omega) (by omega) hz ?_; intro v5 w5 o5 g5 _; obtain ⟨a5, c5, hv5, _⟩ := ownN_formn o5; rw [Nat.zero_add] at hv5; subst hv5; have O5 := Lib.hid o5; have G5 := Lib.hid g5; have hg5 := g5.size; have O5b := Lib.hid (ownN_below O5.out ((Below.refl w5.heap.size w5).alloc (Nat.le_refl _) (.cells #[.slice a5 fl c5] 31 (0, 0)))); have W5 := Lib.hid (HWR.out.grown G5.out hz (by intro q hq; simp [Value.ownBlock] at hq; omega)); have OW2 := Lib.hid (ownN_below OW.out W5.out); have hw5 := W5.out.size; have OW3 := Lib.hid (ownN_below OW2.out ((Below.refl w5.heap.size w5).alloc (Nat.le_refl _) (.cells #[.slice a5 fl c5] 31 (0, 0)))); have HRV := Lib.hid (own_formn_row (own_new w5 #[.slice a5 fl c5] 31 1 rfl (by omega))); clear o5 g5)
        | (at_builtin; refine wpList_append_row rfl (.tmp 12) (.tmp 19) _ rfl w.heap.size 31 i1 _ 24 Try.underlying23 HI1.out HY0.out HY1.out HY2.out rfl _ k vs (by rfl) OW3.out (some ⟨w5.heap.size, 0, none⟩) 1 1 [.slice a5 fl c5] (by rfl) (by intro e; cases e) HRV.out rfl (by intro u hu; rw [List.mem_singleton] at hu; subst hu; rfl) (by omega) (by omega) (by simp; omega) ?_; intro v6 w6 o6 g6 _; have O6 := Lib.hid o6; have G6 := Lib.hid g6; clear o6 g6))
      have hb6 : Below w.heap.size w w6 := ((BW.out.trans (W5.out.mono hws)).alloc (by omega) _).grown G6.out (by simp; omega) (fun q hq => (ownN_ge OW3.out q hq).1)
      have k1 := strs_below W5.out
      have k2 := strs_below ((Below.refl w5.heap.size w5).alloc (Nat.le_refl _) (.cells #[.slice a5 fl c5] 31 (0, 0)))
      have k3 := strs_keep OW3.out G6.out
      have HL6 : Hid (OwnLs w6 w.heap.size (vs ++ [.slice a5 fl c5]) (T.take (k + 1))) := by
        show OwnLs _ _ _ _
        rw [HTK.out]
        have hF := O5b.out
        rw [List.nil_append, Nat.zero_add] at hF
        have hF2 : (w5.alloc (.cells #[.slice a5 fl c5] 31 (0, 0))).ownsRow wr.heap.size 9 1 (.slice a5 fl c5) F.length (F.map strV) := by rw [HFL.out]; exact hF
        exact OwnLs.snoc (w := wr) (fun B v F h => k3 B v F (k2 B v F (k1 B v F h))) (Nat.le_trans hw5 (by have := G6.out.size; simp at this; omega)) (k3 _ _ _ hF2) vs (T.take k) w.heap.size hws HL.out
      have B6 := Lib.hid hb6
      clear hb6 k1 k2 k3
      go_wp2
      go_roundw
      case rel => exact ⟨k + 1, _, by go_num, by omega, O6.out, HL6, B6.out⟩
      case measure => simp [intOf]; omega
    · obtain rfl : k = n := by omega
      have hTk : T.take k = T := List.take_of_length_le (by rw [HN.out]; exact Nat.le_refl _)
      rw [hTk] at HL
      obtain ⟨a5, c5, hv5, _, _, hat⟩ := tabs_own OW.out HL.out HN.out
      subst hv5
      have AT := Lib.hid (hat.mono (Nat.zero_le _))
      clear hat OW
      go_wp2
      go_ret
      exact ⟨a5, c5, rfl, AT.out, BW.out⟩
end Go.Proofs.Ytdoomfckdjjlaaa
