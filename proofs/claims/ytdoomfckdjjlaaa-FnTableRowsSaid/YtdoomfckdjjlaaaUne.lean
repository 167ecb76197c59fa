/- UnescapeText of the program, for every text. -/
import Derived.Test.YtdoomfckdjjlaaaEsc
import Derived.Lib.SlBytesConst
namespace Go.Proofs.Ytdoomfckdjjlaaa
open Go.RowKit

theorem bl_extU (s : ByteArray) (i j : Nat) : bl (s.extract i j) = ((bl s).take j).drop i := by
  unfold bl
  rw [ByteArray.data_extract, Array.toList_extract, List.extract_eq_take_drop, List.drop_take]
theorem from_atU (s : ByteArray) (n : Nat) (hn : n ≤ s.size) : ∃ t : ByteArray, bl t = (bl s).drop n ∧ ∀ W, (Instr.slice 9 (.string s) (some (.int .i64 (n : Int))) none none).run Try.prog W = .ok (.string t) W := by
  refine ⟨s.extract n s.size, ?_, fun W => ?_⟩
  · rw [bl_extU, List.take_of_length_le (by rw [bl_len]; exact Nat.le_refl _)]
  · have := run_slice_string_l (P := Try.prog) W 9 s Try.underlying9 .i64 (n : Int) (by omega) (by omega)
    simpa using this
/-- The byte whose entity a text begins with, and how long that is. -/
def entAt (l : List UInt8) : UInt8 × Nat := if Lib.hasPrefix l (entB 38) = true then (38, 5) else if Lib.hasPrefix l (entB 60) = true then (60, 4) else if Lib.hasPrefix l (entB 62) = true then (62, 4) else if Lib.hasPrefix l (entB 34) = true then (34, 6) else if Lib.hasPrefix l (entB 39) = true then (39, 5) else (0, 0)
def unescF : Nat → List UInt8 → List UInt8
  | 0, _ => []
  | _ + 1, [] => []
  | f + 1, x :: r => if 0 < (entAt (x :: r)).2 then (entAt (x :: r)).1 :: unescF f ((x :: r).drop (entAt (x :: r)).2) else x :: unescF f r
def unescR (l : List UInt8) : List UInt8 := unescF l.length l
theorem hasP_len {l p : List UInt8} (h : Lib.hasPrefix l p = true) : p.length ≤ l.length := by
  unfold Lib.hasPrefix at h
  exact (List.isPrefixOf_iff_prefix.1 h).length_le
theorem entAt_len (l : List UInt8) : (entAt l).2 ≤ l.length := by
  unfold entAt
  split
  · rename_i h; exact hasP_len h
  split
  · rename_i h; exact hasP_len h
  split
  · rename_i h; exact hasP_len h
  split
  · rename_i h; exact hasP_len h
  split
  · rename_i h; exact hasP_len h
  · exact Nat.zero_le _
theorem unescF_nil (f : Nat) : unescF f [] = [] := by cases f <;> rfl
/-- What was escaped is read back. -/
theorem unesc_esc : ∀ (l : List UInt8) (f : Nat), (escR l).length ≤ f → unescF f (escR l) = l := by
  intro l
  induction l with
  | nil => intro f _; exact unescF_nil f
  | cons x l ih =>
    intro f hf
    have e : escR (x :: l) = escB x ++ escR l := rfl
    rw [e] at hf ⊢
    rw [List.length_append] at hf
    rcases ent_cases x with (rfl | rfl | rfl | rfl | rfl) | ⟨h0, h1, _⟩
    · obtain ⟨f, rfl⟩ : ∃ g, f = g + 1 := ⟨f - 1, by have : (escB 38).length = 5 := rfl; omega⟩
      have := ih f (by have : (escB 38).length = 5 := rfl; omega)
      exact congrArg (fun z => (38 : UInt8) :: z) this
    · obtain ⟨f, rfl⟩ : ∃ g, f = g + 1 := ⟨f - 1, by have : (escB 60).length = 4 := rfl; omega⟩
      have := ih f (by have : (escB 60).length = 4 := rfl; omega)
      exact congrArg (fun z => (60 : UInt8) :: z) this
    · obtain ⟨f, rfl⟩ : ∃ g, f = g + 1 := ⟨f - 1, by have : (escB 62).length = 4 := rfl; omega⟩
      have := ih f (by have : (escB 62).length = 4 := rfl; omega)
      exact congrArg (fun z => (62 : UInt8) :: z) this
    · obtain ⟨f, rfl⟩ : ∃ g, f = g + 1 := ⟨f - 1, by have : (escB 34).length = 6 := rfl; omega⟩
      have := ih f (by have : (escB 34).length = 6 := rfl; omega)
      exact congrArg (fun z => (34 : UInt8) :: z) this
    · obtain ⟨f, rfl⟩ : ∃ g, f = g + 1 := ⟨f - 1, by have : (escB 39).length = 5 := rfl; omega⟩
      have := ih f (by have : (escB 39).length = 5 := rfl; omega)
      exact congrArg (fun z => (39 : UInt8) :: z) this
    · have hb : escB x = [x] := by unfold escB; rw [if_pos h0]
      rw [hb] at hf ⊢
      simp only [List.length_cons, List.length_nil] at hf
      obtain ⟨f, rfl⟩ : ∃ g, f = g + 1 := ⟨f - 1, by omega⟩
      have hx : ((38 : UInt8) == x) = false := by simpa using fun h => h1 h.symm
      have ha : entAt (x :: escR l) = (0, 0) := by
        have hp : ∀ p, Lib.hasPrefix (x :: escR l) ((38 : UInt8) :: p) = false := fun p => by
          unfold Lib.hasPrefix
          rw [List.isPrefixOf, hx, Bool.false_and]
        have q1 : entB 38 = [38, 97, 109, 112, 59] := rfl
        have q2 : entB 60 = [38, 108, 116, 59] := rfl
        have q3 : entB 62 = [38, 103, 116, 59] := rfl
        have q4 : entB 34 = [38, 113, 117, 111, 116, 59] := rfl
        have q5 : entB 39 = [38, 35, 51, 57, 59] := rfl
        unfold entAt
        rw [q1, q2, q3, q4, q5, hp, hp, hp, hp, hp]
        rfl
      rw [List.singleton_append, unescF, ha, if_neg (by simp), ih f (by omega)]
theorem unescR_escR (l : List UInt8) : unescR (escR l) = l := unesc_esc l _ (Nat.le_refl _)
theorem unescF_len : ∀ (f : Nat) (l : List UInt8), (unescF f l).length ≤ f := by
  intro f
  induction f with
  | zero => intro l; simp [unescF]
  | succ f ih =>
    intro l
    cases l with
    | nil => simp [unescF]
    | cons x r =>
      rw [unescF]
      split
      · have := ih ((x :: r).drop (entAt (x :: r)).2); simp only [List.length_cons]; omega
      · have := ih r; simp only [List.length_cons]; omega
def ent5 : List UInt8 := [38, 60, 62, 34, 39]
theorem entAt_no {l : List UInt8} (h : ∀ i (h : i < 5), Lib.hasPrefix l (entB (ent5[i]'h)) = false) : entAt l = (0, 0) := by
  have h0 := h 0 (by omega)
  have h1 := h 1 (by omega)
  have h2 := h 2 (by omega)
  have h3 := h 3 (by omega)
  have h4 := h 4 (by omega)
  simp only [ent5, List.getElem_cons_zero, List.getElem_cons_succ] at h0 h1 h2 h3 h4
  unfold entAt
  simp [h0, h1, h2, h3, h4]
theorem entAt_yes {l : List UInt8} {k : Nat} (hk : k < 5) (h : ∀ i (h : i < 5), i < k → Lib.hasPrefix l (entB (ent5[i]'h)) = false) (hy : Lib.hasPrefix l (entB (ent5[k]'hk)) = true) : entAt l = (ent5[k]'hk, (entB (ent5[k]'hk)).length) := by
  rcases (show k = 0 ∨ k = 1 ∨ k = 2 ∨ k = 3 ∨ k = 4 by omega) with rfl | rfl | rfl | rfl | rfl
  · simp only [ent5, List.getElem_cons_zero] at hy
    unfold entAt
    simp [hy]
    exact ⟨rfl, rfl⟩
  · have h0 := h 0 (by omega) (by omega)
    simp only [ent5, List.getElem_cons_zero, List.getElem_cons_succ] at hy h0
    unfold entAt
    simp [hy, h0]
    exact ⟨rfl, rfl⟩
  · have h0 := h 0 (by omega) (by omega)
    have h1 := h 1 (by omega) (by omega)
    simp only [ent5, List.getElem_cons_zero, List.getElem_cons_succ] at hy h0 h1
    unfold entAt
    simp [hy, h0, h1]
    exact ⟨rfl, rfl⟩
  · have h0 := h 0 (by omega) (by omega)
    have h1 := h 1 (by omega) (by omega)
    have h2 := h 2 (by omega) (by omega)
    simp only [ent5, List.getElem_cons_zero, List.getElem_cons_succ] at hy h0 h1 h2
    unfold entAt
    simp [hy, h0, h1, h2]
    exact ⟨rfl, rfl⟩
  · have h0 := h 0 (by omega) (by omega)
    have h1 := h 1 (by omega) (by omega)
    have h2 := h 2 (by omega) (by omega)
    have h3 := h 3 (by omega) (by omega)
    simp only [ent5, List.getElem_cons_zero, List.getElem_cons_succ] at hy h0 h1 h2 h3
    unfold entAt
    simp [hy, h0, h1, h2, h3]
    exact ⟨rfl, rfl⟩
theorem ent_cell (w : World) (k : Nat) (hk : k < 5) : (w.alloc (.cells #[.int .u8 38, .int .u8 60, .int .u8 62, .int .u8 34, .int .u8 39] 5 (5, 6))).cell? ⟨w.heap.size, k, none⟩ = some (.int .u8 ((ent5[k]'hk).toNat : Int)) := by
  rw [World.cell?_alloc_mark]
  rcases (show k = 0 ∨ k = 1 ∨ k = 2 ∨ k = 3 ∨ k = 4 by omega) with rfl | rfl | rfl | rfl | rfl <;> rfl
set_option maxRecDepth 100000 in
set_option maxHeartbeats 3200000 in
theorem impl_entityAt (s : ByteArray) (w : World) : Calls Try.prog 75 #[.string s] w fun e w' => e = .returned (.tuple #[.int .u8 ((entAt (bl s)).1.toNat : Int), .int .i64 ((entAt (bl s)).2 : Int)]) ∧ Below w.heap.size w w' := by
  have hcs := Lib.run_convert_bytes_const (P := Try.prog) w 22 5 #[.int .u8 38, .int .u8 60, .int .u8 62, .int .u8 34, .int .u8 39] 5 5 Try.underlying22 Try.underlying5
  have HCL := Lib.hid (ent_cell w)
  have HB : Hid (Below w.heap.size w (w.alloc (.cells #[.int .u8 38, .int .u8 60, .int .u8 62, .int .u8 34, .int .u8 39] 5 (5, 6)))) := (Below.refl _ _).alloc (Nat.le_refl _) _
  go_enter Try.func75, Try.ntmps75
  go_wp2
  clear hcs
  go_loop [10] (fun t => ∃ k : Nat, k ≤ 5 ∧ t = .int .i64 (k : Int) ∧ Hid (∀ i (h : i < 5), i < k → Lib.hasPrefix (bl s) (entB (ent5[i]'h)) = false)) (fun t => 5 - (intOf t).toNat)
  case atStart => exact ⟨0, Nat.zero_le _, rfl, fun i _ h => by omega⟩
  case round =>
    obtain ⟨k, hk, rfl, HP⟩ := hrel
    by_cases hk5 : k < 5
    · have hc := HCL.out k hk5
      have HYES := Lib.hid (fun hy => entAt_yes hk5 (fun i h hi => HP.out i h hi) hy)
      have HN := Lib.hid (fun (hy : Lib.hasPrefix (bl s) (entB (ent5[k]'hk5)) = false) i (h : i < 5) (hi : i < k + 1) => show Lib.hasPrefix (bl s) (entB (ent5[i]'h)) = false from by
        by_cases e : i = k
        · subst e; exact hy
        · exact HP.out i h (by omega))
      have k0 : (k : Int) < 5 := by omega
      generalize ent5[k] = b at *
      have CE := Lib.hid (fun W => impl_entityOf b W)
      have CP := Lib.hid (fun W => Try.strings_HasPrefix s (mkS (entB b)) W)
      have hsz : (mkS (entB b)).size = (entB b).length := mkS_size _
      have HS : Hid (Lib.hasPrefix s.data.toList (mkS (entB b)).data.toList = Lib.hasPrefix (bl s) (entB b)) := rfl
      have HS2 := HS.out
      rcases hp : Lib.hasPrefix (bl s) (entB b) with _ | _
      · rw [hp] at HS2
        have HS3 := Lib.hid HS2
        have HN2 := Lib.hid (HN.out hp)
        rw [HS2] at CP
        clear hp HS2 HN HYES
        generalize mkS (entB b) = eb at *
        go_wp2_with fail
        refine (CE.out _).mono ?_
        rintro e w1 ⟨rfl, rfl⟩
        go_wp2_with fail
        refine (CP.out _).mono ?_
        rintro e w1 ⟨rfl, rfl⟩
        go_wp2
        go_round
        case rel => exact ⟨k + 1, by omega, by go_num, HN2.out⟩
        case measure => simp [intOf]; omega
      · rw [hp] at HS2
        have HY := Lib.hid (HYES.out hp)
        rw [HS2] at CP
        clear hp HS2 HN HYES
        generalize mkS (entB b) = eb at *
        go_wp2_with fail
        refine (CE.out _).mono ?_
        rintro e w1 ⟨rfl, rfl⟩
        go_wp2_with fail
        refine (CP.out _).mono ?_
        rintro e w1 ⟨rfl, rfl⟩
        go_wp2
        exact bodyPost_ret (v := .tuple #[.int .u8 (b.toNat : Int), .int .i64 ((entB b).length : Int)]) (by simp [results, Try.results75, go_sem]) rfl ⟨by rw [HY.out], HB.out⟩
    · obtain rfl : k = 5 := by omega
      have HY := Lib.hid (entAt_no (fun i h => HP.out i h h))
      go_wp2
      exact bodyPost_ret (v := .tuple #[.int .u8 0, .int .i64 0]) (by simp [results, Try.results75, go_sem]) rfl ⟨by rw [HY.out]; rfl, HB.out⟩
set_option maxRecDepth 100000 in
set_option maxHeartbeats 3200000 in
theorem impl_UnescapeText (s : ByteArray) (w : World) (hs : s.size ≤ 1048576) : Calls Try.prog 42 #[.string s] w fun e w' => e = .returned (.string (mkS (unescR (bl s)))) ∧ Below w.heap.size w w' := by
  go_enter Try.func42, Try.ntmps42
  have hF := Lib.hid (Lib.fresh_isBuilder 73 5 w)
  go_wp2
  go_loopw [4] (fun t wr => ∃ (k f : Nat) (out : List UInt8), k ≤ s.size ∧ s.size - k ≤ f ∧ t = .int .i64 (k : Int) ∧ out.length ≤ k ∧ Hid (out ++ unescF f ((bl s).drop k) = unescR (bl s)) ∧ Hid (Lib.IsBuilder 73 5 w.heap.size w.heap.size (Lib.byteCells out) wr) ∧ Below w.heap.size w wr) (fun t _ => s.size - (intOf t).toNat)
  case atStart => exact ⟨0, (bl s).length, [], Nat.zero_le _, by rw [bl_len]; omega, rfl, Nat.le_refl _, rfl, hF.out, (Below.refl _ _).alloc (Nat.le_refl _) _⟩
  case round =>
    obtain ⟨k, f, out, hk, hf, rfl, hol, HU, HBd, hb⟩ := hrel
    have BW := Lib.hid hb
    have hws := hb.size
    clear hb hF
    by_cases hks : k < s.size
    · obtain ⟨f, rfl⟩ : ∃ g, f = g + 1 := ⟨f - 1, by omega⟩
      have hi : (k : Int) < (s.size : Int) := by omega
      have hk0 : (0 : Int) ≤ (k : Int) := by omega
      obtain ⟨t, ht, hsl⟩ := from_atU s k (by omega)
      have hsl2 := hsl wr
      have CE := Lib.hid (fun W => impl_entityAt t W)
      have hdr : (bl s).drop k = s[k] :: (bl s).drop (k + 1) := by
        rw [List.drop_eq_getElem_cons (by rw [bl_len]; exact hks)]
        rfl
      have hun := HU.out
      rw [hdr, unescF, ← hdr] at hun
      rw [ht] at CE
      have hel := entAt_len ((bl s).drop k)
      rw [List.length_drop, bl_len] at hel
      rcases he : entAt ((bl s).drop k) with ⟨eb, en⟩
      rw [he] at CE hun hel
      simp only at CE hun hel
      clear he hsl ht
      by_cases hn : 0 < en
      · rw [if_pos hn, List.drop_drop] at hun
        have hn2 : (0 : Int) < (en : Int) := by omega
        have HU2 : Hid ((out ++ [eb]) ++ unescF f ((bl s).drop (k + en)) = unescR (bl s)) := by show _ = _; rw [← hun]; simp
        clear hun hdr HU
        go_wp2_with fail
        refine (CE.out _).mono ?_
        rintro e w1 ⟨rfl, b1⟩
        have HB1 := Lib.hid (bld_below HBd.out b1)
        have BW1 := Lib.hid (BW.out.trans (b1.mono hws))
        have hw1 := BW1.out.size
        clear b1
        have CW := Lib.hid (bld_WriteByte _ _ _ (eb.toNat : Int) _ HB1.out (by rw [byte_len]; omega) hw1)
        have HE2 : Hid (Lib.byteCells out ++ [.int .u8 (eb.toNat : Int)] = Lib.byteCells (out ++ [eb])) := by show _ = _; rw [byte_app]; rfl
        go_wp2_with fail
        refine (CW.out).mono ?_
        rintro e w2 ⟨rfl, h2, b2, _⟩
        have H2 := Lib.hid h2
        have B2 := Lib.hid (BW1.out.trans b2)
        clear h2 b2
        go_wp2
        go_roundw
        case rel => exact ⟨k + en, f, out ++ [eb], by omega, by omega, by go_num, by simp; omega, HU2, by rw [← HE2.out]; exact H2, B2.out⟩
        case measure => simp [intOf]; omega
      · rw [if_neg hn] at hun
        obtain rfl : en = 0 := by omega
        have HU2 : Hid ((out ++ [s[k]]) ++ unescF f ((bl s).drop (k + 1)) = unescR (bl s)) := by show _ = _; rw [← hun]; simp
        clear hun hdr HU hel hn
        go_wp2_with fail
        refine (CE.out _).mono ?_
        rintro e w1 ⟨rfl, b1⟩
        have HB1 := Lib.hid (bld_below HBd.out b1)
        have BW1 := Lib.hid (BW.out.trans (b1.mono hws))
        have hw1 := BW1.out.size
        clear b1
        have CW := Lib.hid (bld_WriteByte _ _ _ (s[k].toNat : Int) _ HB1.out (by rw [byte_len]; omega) hw1)
        have HE2 : Hid (Lib.byteCells out ++ [.int .u8 (s[k].toNat : Int)] = Lib.byteCells (out ++ [s[k]])) := by show _ = _; rw [byte_app]; rfl
        go_wp2_with fail
        refine (CW.out).mono ?_
        rintro e w2 ⟨rfl, h2, b2, _⟩
        have H2 := Lib.hid h2
        have B2 := Lib.hid (BW1.out.trans b2)
        clear h2 b2
        go_wp2
        go_roundw
        case rel => exact ⟨k + 1, f, out ++ [s[k]], by omega, by omega, by go_num, by simp; omega, HU2, by rw [← HE2.out]; exact H2, B2.out⟩
        case measure => simp [intOf]; omega
    · obtain rfl : k = s.size := by omega
      have HR : Hid (out = unescR (bl s)) := by
        have := HU.out
        rw [List.drop_of_length_le (by rw [bl_len]; exact Nat.le_refl _), unescF_nil, List.append_nil] at this
        exact this
      have CS := Lib.hid (Try.Builder_String_any _ _ _ _ HBd.out hws)
      go_wp2_with fail
      refine (CS.out).mono ?_
      rintro e w2 ⟨rfl, b2⟩
      have B2 := Lib.hid (BW.out.trans b2)
      clear b2
      go_wp2
      go_ret
      exact ⟨by rw [← HR.out]; rfl, B2.out⟩
end Go.Proofs.Ytdoomfckdjjlaaa
