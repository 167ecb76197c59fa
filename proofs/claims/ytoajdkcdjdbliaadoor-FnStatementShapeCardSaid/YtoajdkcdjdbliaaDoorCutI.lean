/- Cutting a statement, by the program; its texts. Printed by gen_cuti.py. -/
import Derived.Test.YtoajdkcdjdbliaaDoorCutS
import Derived.Test.YtoajdkcdjdbliaaDoorPush2
namespace Go.Proofs.YtoajdkcdjdbliaaDoor
open Go.RowKit

theorem wpList_pushS3 {wr : World} {ops : Array Oper} {rest : List Oper} {o : Oper} {a : Act} {Q : Exit → Act → World → Prop} (s x : Operand) (B : Nat) (b : ByteArray) (v : Value) (n : Nat) (acc : List ByteArray)
    (own : wr.ownsRow B 9 1 v n (acc.map strV)) (hB : B ≤ wr.heap.size) (hsz : n ≤ 4611686018427387904 / 1048576) (hgd : o.guard = none)
    (ho : o.op = .call { callee := .builtin .append, args := #[s, x], argTypes := #[27, 27] }) (hs : a.eval s = v) (H : Nat) (hH : wr.heap.size = H) (hx : a.eval x = .slice (some ⟨H, 0, none⟩) 1 1)
    (h : ∀ v' w', w'.ownsRow B 9 1 v' (n + 1) ((acc ++ [b]).map strV) → wr.grownBy w' v.ownBlock → Below B wr w' → (v'.ownBlock = v.ownBlock ∨ v'.ownBlock = some (wr.heap.size + 1)) → wpList Tryd.prog ops Q rest (a.put o.dst v') w') :
    wpList Tryd.prog ops Q (o :: rest) a (wr.alloc (.cells #[.string b] 9 (0, 0))) := by
  subst hH
  obtain ⟨i0, hi, hz0, hz1, hz2⟩ := info_parts info_str
  have hal : Below wr.heap.size wr (wr.alloc (.cells #[.string b] 9 (0, 0))) := (Below.refl _ _).alloc (Nat.le_refl _) _
  refine wpList_append_row hgd s x _ ho B 9 i0 _ 16 Tryd.underlying27 hi hz0 hz1 hz2 rfl v n (acc.map strV) hs (own_below own hal) (some ⟨wr.heap.size, 0, none⟩) 1 1 ([b].map strV) hx (by intro e; cases e)
    (own_formn_row (own_new wr #[.string b] 9 1 rfl (by omega))) rfl (strs_one [b]) (by omega) (by omega) (by simp; omega) ?_
  intro v' w' o' g' e'
  refine h v' w' ?_ ((World.grownBy_alloc _ _ _).trans g') ?_ (by simpa only [World.size_alloc] using e')
  · rw [List.map_append]
    exact o'
  · exact (((Below.refl B wr).alloc hB _)).grown g' (by simp; omega) (fun q hq => (own_ge own q hq).1)
/-- Two rows do not share a block. -/
def Apart (v v' : Value) : Prop := ∀ k, v.ownBlock = some k → v'.ownBlock ≠ some k
theorem Apart.symm {v v' : Value} (h : Apart v v') : Apart v' v := fun k h1 h2 => h k h2 h1
theorem Apart.push {w : World} {B : Nat} {e : TypeId} {v v' u : Value} {n : Nat} {l : List Value} (h : Apart v u) (ho : w.ownsRow B e 1 u n l) (he : v'.ownBlock = v.ownBlock ∨ v'.ownBlock = some (w.heap.size + 1)) : Apart v' u := by
  intro k h1 h2
  rcases he with he | he
  · exact h k (by rw [← he]; exact h1) h2
  · rw [he] at h1
    injection h1 with h1
    have := own_ge ho k h2
    omega

def CutOk (w : World) (st : StC) (e : Ending) (w' : World) : Prop :=
  ∃ vt vb, e = .returned (.tuple #[vt, vb, .bool (!st.1)]) ∧ w'.ownsRow w.heap.size 9 1 vt st.2.2.1.length ((st.2.2.1.map mkS).map strV) ∧ w'.ownsRow w.heap.size 9 1 vb (st.2.2.2 ++ [st.2.1]).length (((st.2.2.2 ++ [st.2.1]).map mkS).map strV) ∧ Below w.heap.size w w'

theorem impl_cut_bad (s : ByteArray) (w : World) (hs : s.size ≤ 1099511627776) (ht : textB (bl s) = false) :
    Calls Tryd.prog 29 #[.string s] w fun e w' => e = .returned (.tuple #[.slice none 0 0, .slice none 0 0, .bool false]) ∧ w = w' := by
  have CT := fun W' => impl_TextValid s W' (by omega)
  rw [ht] at CT
  have CT' := Lib.hid CT
  clear CT ht
  go_enter Tryd.func29, Tryd.ntmps29
  go_wp2_with fail
  refine (CT'.out _).mono ?_
  rintro e w1 ⟨rfl, rfl⟩
  go_wp2
  go_ret3
  exact ⟨rfl, rfl⟩

set_option maxRecDepth 100000 in
set_option maxHeartbeats 3200000 in
theorem impl_cut (s : ByteArray) (w : World) (hs : s.size ≤ 1099511627776) (ht : textB (bl s) = true) :
    Calls Tryd.prog 29 #[.string s] w (CutOk w (cut0 (bl s))) := by
  have CT := fun W' => impl_TextValid s W' (by omega)
  rw [ht] at CT
  have CT' := Lib.hid CT
  clear CT ht
  go_enter Tryd.func29, Tryd.ntmps29
  go_wp2_with fail
  refine (CT'.out _).mono ?_
  rintro e w1 ⟨rfl, rfl⟩
  clear CT'
  go_wp2
  have b0 : Below w.heap.size w (w.alloc (.cells #[] 9 (0, 0))) := (Below.refl _ _).alloc (Nat.le_refl _) _
  have b1 := b0.alloc (by simp) (.cells #[] 9 (0, 0))
  have b2 := b1.alloc (by simp; omega) (.cells #[] 5 (0, 0))
  have OT0 := own_below (own_below (own_new w #[] 9 0 rfl (by omega)) ((Below.refl _ _).alloc (Nat.le_refl _) (.cells #[] 9 (0, 0)))) ((Below.refl _ _).alloc (Nat.le_refl _) (.cells #[] 5 (0, 0)))
  have OB0 := own_mono (B' := w.heap.size) (own_below (own_new (w.alloc (.cells #[] 9 (0, 0))) #[] 9 0 rfl (by omega)) ((Below.refl _ _).alloc (Nat.le_refl _) (.cells #[] 5 (0, 0)))) (by simp)
  have ON0 := own_mono (B' := w.heap.size) (own_new ((w.alloc (.cells #[] 9 (0, 0))).alloc (.cells #[] 9 (0, 0))) #[] 5 0 rfl (by omega)) (by simp; omega)
  simp only [World.size_alloc] at OB0 ON0
  have OT := Lib.hid OT0; have OB := Lib.hid OB0; have ON := Lib.hid ON0; have BA := Lib.hid b2
  have HAP : Hid (Apart (.slice (some ⟨w.heap.size, 0, none⟩) 0 0) (.slice (some ⟨w.heap.size + 1, 0, none⟩) 0 0)) := by intro k h1 h2; simp [Value.ownBlock] at h1 h2; omega
  clear b0 b1 b2 OT0 OB0 ON0
  go_loopw [5, 6, 7, 8, 9] (fun vt vb vn i t wr => ∃ (k nt nb nn : Nat) (ins : Bool) (now : List UInt8) (tx bt : List (List UInt8)), k ≤ s.size ∧ t = .int .i64 (k : Int) ∧ i = .bool ins ∧ nt ≤ k ∧ nb ≤ k ∧ nn ≤ k ∧ Hid (nt = tx.length) ∧ Hid (nb = bt.length) ∧ Hid (nn = now.length) ∧ Hid (cutT (ins, now, tx, bt) ((bl s).drop k) = cut0 (bl s)) ∧ Hid (Apart vt vb) ∧ wr.ownsRow w.heap.size 9 1 vt nt ((tx.map mkS).map strV) ∧ wr.ownsRow w.heap.size 9 1 vb nb ((bt.map mkS).map strV) ∧ wr.ownsRow w.heap.size 5 1 vn nn (now.map byteV) ∧ Below w.heap.size w wr) (fun _ _ _ _ t _ => s.size - (intOf t).toNat)
  case atStart => exact ⟨0, 0, 0, 0, false, [], [], [], Nat.zero_le _, rfl, rfl, Nat.le_refl _, Nat.le_refl _, Nat.le_refl _, rfl, rfl, rfl, rfl, HAP, OT.out, OB.out, ON.out, BA.out⟩
  case round =>
    clear OT OB ON BA HAP
    obtain ⟨k, nt, nb, nn, ins, now, tx, bt, hk, rfl, rfl, hnt, hnb, hnn, HNT, HNB, HNN, HT, HAP, ownt, ownb, ownn, hb⟩ := hrel
    have OT := Lib.hid ownt; have OB := Lib.hid ownb; have ON := Lib.hid ownn; have B1 := Lib.hid hb
    have hwr := hb.size
    obtain ⟨a1, c1, rfl, _, k1, k1', _⟩ := own_formn ownt
    obtain ⟨a2, c2, rfl, _, k2, k2', _⟩ := own_formn ownb
    obtain ⟨a3, c3, rfl, r3, k3, k3', _⟩ := own_formn ownn
    have kvn := conv_row wr a3 nn c3 now r3 HNN.out.symm
    have HTN : Hid (Apart (.slice a1 nt c1) (.slice a3 nn c3)) := own_types_ne OT.out ON.out (by decide)
    have HBN : Hid (Apart (.slice a2 nb c2) (.slice a3 nn c3)) := own_types_ne OB.out ON.out (by decide)
    clear ownt ownb ownn hb r3
    by_cases hks : k < s.size
    · by_cases hx : s[k] = 39
      · have c39 : ((s[k].toNat : Int) != 39) = false := by rw [hx]; rfl
        cases ins
        · have HT2 : Hid (cutT (true, [], tx, bt ++ [now]) ((bl s).drop (k + 1)) = cut0 (bl s)) := by
            rw [← HT.out, cut_step hks _ (by rintro ⟨_, h, _⟩; cases h)]
            unfold stepL
            rw [if_pos hx, if_neg (by simp)]
            rfl
          have HN2 : Hid (nb + 1 = (bt ++ [now]).length) := by have := HNB.out; show _ = _; simp; omega
          clear hx
          go_wp2_with (at_builtin; refine wpList_pushS3 (.tmp 41) (.tmp 44) w.heap.size _ _ nb (bt.map mkS) OB.out hwr (by omega) rfl (by rfl) (by rfl) wr.heap.size rfl (by rfl) ?_; intro v5 w5 o5 g5 b5 e5; have OB5 := Lib.hid o5; have OT5 := Lib.hid (own_other OT.out g5 (fun q hq e => HAP.out q hq e)); have HAP5 : Hid (Apart (.slice a1 nt c1) v5) := (Apart.push HAP.out.symm OT.out e5).symm; have B5 := Lib.hid (B1.out.trans b5); clear o5 g5 b5 e5)
          go_roundw
          case rel => exact ⟨k + 1, nt, nb + 1, 0, true, [], tx, bt ++ [now], by omega, by go_num, rfl, by omega, by omega, by omega, HNT, HN2, rfl, HT2, HAP5, OT5.out, own_len_eq OB5.out rfl (by rw [List.map_append, List.map_append, List.map_append]; rfl), World.ownsRow_nil _ _ _ _, B5.out⟩
          case measure => simp [intOf]; omega
        · by_cases hy : ∃ h : k + 1 < s.size, s[k + 1] = 39
          · obtain ⟨h1, h2⟩ := hy
            have d39 : ((s[k + 1].toNat : Int) == 39) = true := by rw [h2]; rfl
            have HT2 : Hid (cutT (true, now ++ [39], tx, bt) ((bl s).drop (k + 2)) = cut0 (bl s)) := by rw [← HT.out, cut_double h1 hx h2 _ rfl]; rfl
            have HN2 : Hid (nn + 1 = (now ++ [(39 : UInt8)]).length) := by have := HNN.out; show _ = _; simp; omega
            clear hx h2
            go_wp2_with (at_builtin; refine wpList_pushB2 (.tmp 59) (.tmp 60) w.heap.size (39 : UInt8) _ nn now ON.out hwr (by omega) rfl (by rfl) (by rfl) wr.heap.size rfl (by rfl) ?_; intro v5 w5 o5 g5 b5; have ON5 := Lib.hid o5; have OT5 := Lib.hid (own_other OT.out g5 (fun q hq e => HTN.out q hq e)); have OB5 := Lib.hid (own_other OB.out g5 (fun q hq e => HBN.out q hq e)); have B5 := Lib.hid (B1.out.trans b5); clear o5 g5 b5)
            go_roundw
            case rel => exact ⟨k + 2, nt, nb, nn + 1, true, now ++ [39], tx, bt, by omega, by go_num, rfl, by omega, by omega, by omega, HNT, HNB, HN2, HT2, HAP, OT5.out, OB5.out, ON5.out, B5.out⟩
            case measure => simp [intOf]; omega
          · have HT2 : Hid (cutT (false, [], tx ++ [now], bt) ((bl s).drop (k + 1)) = cut0 (bl s)) := by
              rw [← HT.out, cut_step hks _ (by rintro ⟨_, _, h⟩; exact hy h)]
              unfold stepL
              rw [if_pos hx, if_pos rfl]
              rfl
            have HN2 : Hid (nt + 1 = (tx ++ [now]).length) := by have := HNT.out; show _ = _; simp; omega
            rcases (show (k + 1 < s.size ∨ s.size ≤ k + 1) by omega) with h1 | h1
            · have d39 := beq39 (fun e => hy ⟨h1, e⟩)
              clear hx hy
              go_wp2_with (at_builtin; refine wpList_pushS3 (.tmp 22) (.tmp 25) w.heap.size _ _ nt (tx.map mkS) OT.out hwr (by omega) rfl (by rfl) (by rfl) wr.heap.size rfl (by rfl) ?_; intro v5 w5 o5 g5 b5 e5; have OT5 := Lib.hid o5; have OB5 := Lib.hid (own_other OB.out g5 (fun q hq e => HAP.out.symm q hq e)); have HAP5 : Hid (Apart v5 (.slice a2 nb c2)) := Apart.push HAP.out OB.out e5; have B5 := Lib.hid (B1.out.trans b5); clear o5 g5 b5 e5)
              go_roundw
              case rel => exact ⟨k + 1, nt + 1, nb, 0, false, [], tx ++ [now], bt, by omega, by go_num, rfl, by omega, by omega, by omega, HN2, HNB, rfl, HT2, HAP5, own_len_eq OT5.out rfl (by rw [List.map_append, List.map_append, List.map_append]; rfl), OB5.out, World.ownsRow_nil _ _ _ _, B5.out⟩
              case measure => simp [intOf]; omega
            · have d40 : decide ((k : Int) + 1 < (s.size : Int)) = false := by simp; omega
              clear hx hy
              go_wp2_with (at_builtin; refine wpList_pushS3 (.tmp 22) (.tmp 25) w.heap.size _ _ nt (tx.map mkS) OT.out hwr (by omega) rfl (by rfl) (by rfl) wr.heap.size rfl (by rfl) ?_; intro v5 w5 o5 g5 b5 e5; have OT5 := Lib.hid o5; have OB5 := Lib.hid (own_other OB.out g5 (fun q hq e => HAP.out.symm q hq e)); have HAP5 : Hid (Apart v5 (.slice a2 nb c2)) := Apart.push HAP.out OB.out e5; have B5 := Lib.hid (B1.out.trans b5); clear o5 g5 b5 e5)
              go_roundw
              case rel => exact ⟨k + 1, nt + 1, nb, 0, false, [], tx ++ [now], bt, by omega, by go_num, rfl, by omega, by omega, by omega, HN2, HNB, rfl, HT2, HAP5, own_len_eq OT5.out rfl (by rw [List.map_append, List.map_append, List.map_append]; rfl), OB5.out, World.ownsRow_nil _ _ _ _, B5.out⟩
              case measure => simp [intOf]; omega
      · have c39 := bne39 hx
        have HT2 : Hid (cutT (ins, now ++ [s[k]], tx, bt) ((bl s).drop (k + 1)) = cut0 (bl s)) := by
          rw [← HT.out, cut_step hks _ (by rintro ⟨h, _⟩; exact hx h)]
          unfold stepL
          rw [if_neg hx]
          rfl
        have HN2 : Hid (nn + 1 = (now ++ [s[k]]).length) := by have := HNN.out; show _ = _; simp; omega
        clear hx
        go_wp2_with (at_builtin; refine wpList_pushB2 (.tmp 32) (.tmp 36) w.heap.size s[k] _ nn now ON.out hwr (by omega) rfl (by rfl) (by rfl) wr.heap.size rfl (by rfl) ?_; intro v5 w5 o5 g5 b5; have ON5 := Lib.hid o5; have OT5 := Lib.hid (own_other OT.out g5 (fun q hq e => HTN.out q hq e)); have OB5 := Lib.hid (own_other OB.out g5 (fun q hq e => HBN.out q hq e)); have B5 := Lib.hid (B1.out.trans b5); clear o5 g5 b5)
        go_roundw
        case rel => exact ⟨k + 1, nt, nb, nn + 1, ins, now ++ [s[k]], tx, bt, by omega, by go_num, rfl, by omega, by omega, by omega, HNT, HNB, HN2, HT2, HAP, OT5.out, OB5.out, ON5.out, B5.out⟩
        case measure => simp [intOf]; omega
    · have HE : Hid (cut0 (bl s) = (ins, now, tx, bt)) := by rw [← HT.out, cut_end (by omega)]; rfl
      go_wp2_with (at_builtin; refine wpList_pushS3 (.tmp 65) (.tmp 68) w.heap.size _ _ nb (bt.map mkS) OB.out hwr (by omega) rfl (by rfl) (by rfl) wr.heap.size rfl (by rfl) ?_; intro v5 w5 o5 g5 b5 e5; have OB5 := Lib.hid o5; have OT5 := Lib.hid (own_other OT.out g5 (fun q hq e => HAP.out q hq e)); have B5 := Lib.hid (B1.out.trans b5); clear o5 g5 b5 e5)
      go_ret3
      exact ⟨_, _, by rw [HE.out]; rfl, by rw [HE.out]; exact own_len_eq OT5.out HNT.out rfl, by rw [HE.out]; exact own_len_eq OB5.out (by rw [HNB.out]; simp) (by rw [List.map_append, List.map_append, List.map_append]; rfl), B5.out⟩

set_option maxHeartbeats 800000 in
theorem impl_StatementTexts (s : ByteArray) (w : World) (hs : s.size ≤ 1099511627776) :
    Calls Tryd.prog 13 #[.string s] w (StrsOk w (textsR (bl s))) := by
  rcases ht : textB (bl s) with _ | _
  · have HR := Lib.hid (textsR_bad ht)
    have CL := Lib.hid (impl_cut_bad s w hs ht)
    clear ht
    go_enter Tryd.func13, Tryd.ntmps13
    go_wp2_with fail
    refine (CL.out).mono ?_
    rintro e w1 ⟨rfl, rfl⟩
    go_wp2
    go_ret2
    exact ⟨_, by rw [HR.out]; rfl, by rw [HR.out]; exact World.ownsRow_nil _ _ _ _, Below.refl _ _⟩
  · have CL := Lib.hid (impl_cut s w hs ht)
    rcases hc : (cut0 (bl s)).1 with _ | _
    · have HR := Lib.hid (textsR_yes ht rfl hc)
      have HC := Lib.hid hc
      clear ht hc
      go_enter Tryd.func13, Tryd.ntmps13
      go_wp2_with fail
      refine (CL.out).mono ?_
      rintro e w1 ⟨vt, vb, rfl, ot, ob, b1⟩
      have OT := Lib.hid ot; have B1 := Lib.hid b1
      clear ot ob b1
      rw [HC.out]
      go_wp2
      go_ret2
      exact ⟨_, by rw [HR.out]; rfl, by rw [HR.out]; exact own_len_eq OT.out (by simp) rfl, B1.out⟩
    · have HR := Lib.hid (textsR_open hc)
      have HC := Lib.hid hc
      clear ht hc
      go_enter Tryd.func13, Tryd.ntmps13
      go_wp2_with fail
      refine (CL.out).mono ?_
      rintro e w1 ⟨vt, vb, rfl, ot, ob, b1⟩
      have B1 := Lib.hid b1
      clear ot ob b1
      rw [HC.out]
      go_wp2
      go_ret2
      exact ⟨_, by rw [HR.out]; rfl, by rw [HR.out]; exact World.ownsRow_nil _ _ _ _, B1.out⟩
theorem stepL_len (st : StC) (x : UInt8) : (stepL st x).2.2.1.length ≤ st.2.2.1.length + 1 := by
  unfold stepL
  split
  · split <;> simp
  · simp
theorem cutT_len : ∀ (n : Nat) (l : List UInt8), l.length ≤ n → ∀ st : StC, (cutT st l).2.2.1.length ≤ st.2.2.1.length + l.length := by
  intro n
  induction n with
  | zero =>
    intro l hl st
    have := List.eq_nil_of_length_eq_zero (Nat.le_zero.1 hl)
    subst this
    rw [cutT]; simp
  | succ n ih =>
    intro l hl st
    rcases l with _ | ⟨x, r⟩
    · rw [cutT]; simp
    · by_cases hd : x = 39 ∧ st.1 = true ∧ r.head? = some 39
      · obtain ⟨rfl, h1, h2⟩ := hd
        rcases r with _ | ⟨y, r⟩
        · cases h2
        · have hy : y = 39 := by simpa using h2
          subst hy
          rw [cutT_double st h1]
          have := ih r (by simp only [List.length_cons] at hl; omega) (st.1, st.2.1 ++ [39], st.2.2.1, st.2.2.2)
          simp only [List.length_cons]
          dsimp only at this
          omega
      · rw [cutT_step st x r hd]
        have h1 := ih r (by simp only [List.length_cons] at hl; omega) (stepL st x)
        have h2 := stepL_len st x
        simp only [List.length_cons]
        omega
theorem textsR_len (l : List UInt8) : (textsR l).1.length ≤ 600 := by
  unfold textsR
  split
  · rename_i h
    have h1 := cutT_len _ l (Nat.le_refl _) (false, [], [], [])
    have h2 : l.length ≤ 600 := by
      have := h.1
      simp [textB] at this
      exact this.1
    simp only [List.length_map]
    simp only [List.length_nil] at h1
    exact Nat.le_trans (by show (cutT (false, [], [], []) l).2.2.1.length ≤ l.length; simpa using h1) h2
  · simp
end Go.Proofs.YtoajdkcdjdbliaaDoor
