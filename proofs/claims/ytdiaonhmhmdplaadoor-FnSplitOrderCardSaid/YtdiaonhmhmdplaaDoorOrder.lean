/- OrderText, of the program and of the reference: both return the words, joined by spaces. -/
import Derived.Test.YtdiaonhmhmdplaaDoorQWord
import Derived.Test.YtdiaonhmhmdplaaDoorJoin
import Derived.Test.YtdiaonhmhmdplaaDoorPush
namespace Go.Proofs.YtdiaonhmhmdplaaDoor
open Go.RowKit

/-- The words of texts. -/
def qwS (T : List ByteArray) : List ByteArray := T.map fun t => mkS (qwR (bl t))
def okT (T : List ByteArray) : Bool := T.all fun t => textB (bl t)
/-- The order of texts. -/
def ordR (T : List ByteArray) : ByteArray := if 1 ≤ T.length ∧ T.length ≤ 8 ∧ okT T = true then joinS (qwS T) [32] else ⟨#[]⟩
theorem ordR_yes {T : List ByteArray} (h1 : 1 ≤ T.length) (h2 : T.length ≤ 8) (h3 : okT T = true) : ordR T = joinS (qwS T) [32] := by rw [ordR, if_pos ⟨h1, h2, h3⟩]
theorem ordR_bad {T : List ByteArray} (h3 : okT T = false) : ordR T = ⟨#[]⟩ := by rw [ordR, if_neg (by rw [h3]; simp)]
theorem ordR_len {T : List ByteArray} (h : ¬ (1 ≤ T.length ∧ T.length ≤ 8)) : ordR T = ⟨#[]⟩ := by rw [ordR, if_neg (fun e => h ⟨e.1, e.2.1⟩)]
theorem qwS_snoc (T : List ByteArray) (k : Nat) (h : k < T.length) : qwS (T.take (k + 1)) = qwS (T.take k) ++ [mkS (qwR (bl T[k]))] := by
  rw [qwS, qwS, List.take_succ_eq_append_getElem h, List.map_append]; rfl
theorem okT_snoc (T : List ByteArray) (k : Nat) (h : k < T.length) : okT (T.take (k + 1)) = (okT (T.take k) && textB (bl T[k])) := by
  rw [okT, okT, List.take_succ_eq_append_getElem h, List.all_append]
  simp
theorem okT_bad (T : List ByteArray) (k : Nat) (h : k < T.length) (hb : textB (bl T[k]) = false) : okT T = false := by
  rcases ht : okT T with _ | _
  · rfl
  · rw [okT, List.all_eq_true] at ht
    have := ht T[k] (List.getElem_mem _)
    rw [this] at hb
    cases hb
theorem qwS_len (T : List ByteArray) : (qwS T).length = T.length := by simp [qwS]
theorem join_ord (T : List ByteArray) (h : T.length ≤ 8) : (Lib.join ((qwS T).map bl) [32]).length ≤ 25000 := by
  have := join_le 3002 [32] ((qwS T).map bl) (by
    intro x hx
    obtain ⟨y, hy, rfl⟩ := List.mem_map.1 hx
    obtain ⟨z, hz, rfl⟩ := List.mem_map.1 hy
    rw [bl_mkS]
    exact qwR_len _)
  rw [List.length_map, qwS_len] at this
  have : T.length * (3002 + [(32 : UInt8)].length) ≤ 8 * 3003 := Nat.mul_le_mul h (Nat.le_refl _)
  omega
theorem ord_take (T : List ByteArray) (k : Nat) (X : ByteArray) (h : k < T.length) (hs : qwS (T.take (k + 1)) = qwS (T.take k) ++ [X]) :
    joinS (qwS (T.take (k + 1))) [32] = if k = 0 then X else joinS (qwS (T.take k)) [32] ++ ⟨#[32]⟩ ++ X := by
  rw [hs, joinS, joinS, List.map_append]
  by_cases h0 : k = 0
  · subst h0
    rw [if_pos rfl]
    simp only [List.take_zero, qwS, List.map_nil, List.nil_append, List.map_cons]
    rw [Lib.join_one, mkS_bl]
  · rw [if_neg h0, List.map_cons, List.map_nil, join_snoc _ _ _ (by
      intro e
      have h3 := congrArg List.length e
      rw [List.length_map, qwS_len, List.length_take, List.length_nil] at h3
      omega)]
    apply bl_inj
    rw [bl_mkS, bl_app, bl_app, bl_mkS]
    rfl
theorem ord_size (T : List ByteArray) (k : Nat) (h : T.length ≤ 8) : (joinS (qwS (T.take k)) [32]).size ≤ 25000 := by
  rw [joinS, mkS_size]
  exact join_ord _ (by simp; omega)

set_option maxRecDepth 100000 in
set_option maxHeartbeats 600000 in
theorem impl_OrderText (a : Option Addr) (n c : Nat) (T : List ByteArray) (w : World) (h : RowAt w a (T.map strV)) (e : T.length = n) (hn : n ≤ 4611686018427387904) (hs : ∀ s ∈ T, s.size ≤ 1048576) (hm : MaxOk w) :
    Calls Tryd.prog 9 #[.slice a n c] w fun e w' => e = .returned (.string (ordR T)) ∧ Below w.heap.size w w' := by
  by_cases h1 : n < 1
  · have HR : Hid (ordR T = ⟨#[]⟩) := ordR_len (by omega)
    clear h e hs
    go_enter Tryd.func9, Tryd.ntmps9
    go_wp2
    go_ret
    exact ⟨ret_strQ HR.out.symm, Below.refl _ _⟩
  by_cases h8 : 8 < n
  · have HR : Hid (ordR T = ⟨#[]⟩) := ordR_len (by omega)
    clear h e hs
    go_enter Tryd.func9, Tryd.ntmps9
    go_wp2
    go_ret
    exact ⟨ret_strQ HR.out.symm, Below.refl _ _⟩
  have H := Lib.hid h; have E := Lib.hid e; have HS := Lib.hid hs; have HM := Lib.hid hm
  clear h e hs hm
  have hd : decide ((8 : Int) < (n : Int)) = false := by simp; omega
  have hd1 : decide ((n : Int) < 1) = false := by simp; omega
  have O0 := own_new w #[] 9 0 rfl (by omega)
  have B0 : Below w.heap.size w (w.alloc (.cells #[] 9 (0, 0))) := (Below.refl _ _).alloc (Nat.le_refl _) _
  go_enter Tryd.func9, Tryd.ntmps9
  go_wp2
  go_loopw [3, 17] (fun o t wr => ∃ k : Nat, k ≤ n ∧ t = .int .i64 (k : Int) ∧ wr.ownsRow w.heap.size 9 1 o k ((qwS (T.take k)).map strV) ∧ Hid (okT (T.take k) = true) ∧ Below w.heap.size w wr) (fun _ t _ => n - (intOf t).toNat)
  case atStart => exact ⟨0, Nat.zero_le _, rfl, O0, rfl, B0⟩
  case round =>
    clear O0 B0
    obtain ⟨k, hk, rfl, hown, HK, hbel⟩ := hrel
    have hwr := hbel.size
    by_cases hkl : k < n
    · have k1 : k < T.length := by rw [E.out]; exact hkl
      obtain ⟨b, off, rfl, hlt, hc⟩ := row_str (H.out.below (Nat.le_refl _) hbel) k k1
      rw [getD_at k1] at hc
      have hts : T[k].size ≤ 1048576 := HS.out _ (List.getElem_mem _)
      have CT : Hid (∀ W', Calls Tryd.prog 17 #[.string T[k]] W' fun e w' => e = .returned (.bool (textB (bl T[k]))) ∧ W' = w') := fun W' => impl_TextValid T[k] W' (by omega)
      have CI : Hid (∀ W', MaxOk W' → Calls Tryd.prog 18 #[.string T[k]] W' fun e w' => e = .returned (.string (mkS (qwR (bl T[k])))) ∧ Below W'.heap.size W' w') := fun W' h => impl_QuoteWord T[k] W' (by omega) h
      have HSN := Lib.hid (qwS_snoc T k k1)
      have HON := okT_snoc T k k1
      rw [HK.out, Bool.true_and] at HON
      have HON' := Lib.hid HON
      have HBD : Hid (textB (bl T[k]) = false → ordR T = ⟨#[]⟩) := fun h => ordR_bad (okT_bad T k k1 h)
      clear HON
      generalize textB (bl T[k]) = tv at *
      generalize mkS (qwR (bl T[k])) = X at *
      generalize T[k] = t at *
      have HO := Lib.hid hown
      have HB := Lib.hid hbel
      clear hown hbel
      cases tv
      · have HR : Hid (ordR T = ⟨#[]⟩) := HBD.out rfl
        go_wp2_with fail
        refine (CT.out _).mono ?_
        rintro e w2 ⟨rfl, rfl⟩
        go_wp2
        go_ret
        exact ⟨ret_strQ HR.out.symm, HB.out⟩
      · have HK2 : Hid (okT (T.take (k + 1)) = true) := HON'.out
        go_wp2_with fail
        refine (CT.out _).mono ?_
        rintro e w2 ⟨rfl, rfl⟩
        go_wp2_with fail
        refine (CI.out _ (HM.out.below HB.out)).mono ?_
        rintro e w3 ⟨rfl, b3⟩
        have O3 := Lib.hid (own_below HO.out b3)
        have B3 := Lib.hid (HB.out.trans (b3.mono hwr))
        clear b3
        go_wp2_with (at_builtin; refine wpList_pushS (.tmp 24) (.tmp 27) w.heap.size X _ k _ O3.out B3.out.size (by omega) rfl (by rfl) (by rfl) _ rfl (by rfl) ?_; intro v5 w5 o5 b5; have O5 := Lib.hid o5; have B5 := Lib.hid (B3.out.trans b5); clear o5 b5)
        go_roundw
        case rel => exact ⟨k + 1, by omega, by go_num, by rw [HSN.out]; exact O5.out, HK2, B5.out⟩
        case measure => simp [intOf]; omega
    · obtain rfl : k = n := by omega
      have hT : T.take k = T := List.take_of_length_le (by rw [E.out]; exact Nat.le_refl _)
      rw [hT] at hown HK
      have HR : Hid (ordR T = joinS (qwS T) [32]) := ordR_yes (by rw [E.out]; omega) (by rw [E.out]; omega) HK.out
      have hj := join_ord T (by rw [E.out]; omega)
      have CJ := Lib.hid (fun (v : Value) (W : World) (h : W.ownsRow w.heap.size 9 1 v k ((qwS T).map strV)) => join_any v _ k (qwS T) ⟨#[32]⟩ W h (by omega) (Nat.le_trans hj (by omega)))
      have HO := Lib.hid hown
      have HB := Lib.hid hbel
      clear hown hbel hT hj
      go_wp2_with fail
      refine (CJ.out _ _ HO.out).mono ?_
      rintro e w1 ⟨rfl, b1⟩
      go_wp2
      go_ret
      exact ⟨ret_strQ HR.out.symm, HB.out.trans (b1.mono HB.out.size)⟩

end Go.Proofs.YtdiaonhmhmdplaaDoor
