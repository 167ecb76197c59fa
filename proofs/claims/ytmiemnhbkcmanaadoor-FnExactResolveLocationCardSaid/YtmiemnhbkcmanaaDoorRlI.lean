/- Locations read back, by the program. -/
import Derived.Test.YtmiemnhbkcmanaaDoorLocO
import Derived.Test.YtmiemnhbkcmanaaDoorLocH
namespace Go.Proofs.YtmiemnhbkcmanaaDoor
open Go.RowKit

def zeroLoc : Value := .agg #[.string ⟨#[]⟩, .string ⟨#[]⟩, .slice none 0 0, .string ⟨#[]⟩]
/-- What a reader of locations returns. -/
def RlPost (s : ByteArray) (w : World) (e : Ending) (w' : World) : Prop :=
  ((∃ S H P Q v, e = .returned (.tuple #[.agg #[.string S, .string H, v, .string Q], .bool true]) ∧ locB S H P Q = true ∧ locT S H P Q = bl s ∧ w'.ownsRow w.heap.size 9 1 v P.length (P.map strV)) ∨
    (e = .returned (.tuple #[zeroLoc, .bool false]) ∧ ∀ S H P Q, locB S H P Q = true → locT S H P Q ≠ bl s)) ∧ Below w.heap.size w w'

theorem cut_bel (s sep : ByteArray) (w : World) (hm : MaxOk w) (hs : s.size ≤ 1048576) :
    Calls Tryd.prog 20 #[.string s, .string sep] w fun e w' => e = .returned (.tuple #[.string (mkS (Lib.cut (bl s) (bl sep)).1), .string (mkS (Lib.cut (bl s) (bl sep)).2.1), .bool (Lib.cut (bl s) (bl sep)).2.2]) ∧ Below w.heap.size w w' := by
  refine (cut_any s sep w hm hs).mono ?_
  rintro e w' ⟨rfl, q, rfl⟩
  exact ⟨rfl, below_drewN (Below.refl _ _) _⟩
set_option maxRecDepth 100000 in
set_option maxHeartbeats 3200000 in
theorem impl_ReadLocation (s : ByteArray) (w : World) (hm : MaxOk w) (hs : s.size ≤ 1048576) :
    Calls Tryd.prog 19 #[.string s] w (RlPost s w) := by
  have HMx := Lib.hid hm
  clear hm
  have bl3 : bl ⟨#[58, 47, 47]⟩ = [58, 47, 47] := rfl
  have bl1 : bl ⟨#[47]⟩ = [47] := rfl
  have blq : bl ⟨#[63]⟩ = [63] := rfl
  -- the parts
  have HC1 : Hid (∀ S H P Q, locB S H P Q = true → locT S H P Q = bl s → Lib.cut (bl s) [58, 47, 47] = (bl S, bl H ++ (47 :: [] ++ (pathJ P ++ qT Q)), true)) := fun S H P Q h e => by rw [← e]; exact loc_cut1 h
  have L1 := cut_le (bl s) [58, 47, 47]
  rw [bl_len] at L1
  have CC1 := Lib.hid (fun W hW => cut_bel s ⟨#[58, 47, 47]⟩ W hW (by omega))
  rw [bl3] at CC1
  generalize Lib.cut (bl s) [58, 47, 47] = r1 at *
  obtain ⟨sch, rest, ok1⟩ := r1
  simp only at L1
  have HC2 : Hid (∀ S H P Q, locB S H P Q = true → locT S H P Q = bl s → Lib.cut rest [47] = (bl H, pathJ P ++ qT Q, true)) := fun S H P Q h e => by
    have h1 := HC1.out S H P Q h e
    simp only [Prod.mk.injEq] at h1
    rw [h1.2.1]; exact loc_cut2 h
  have L2 := cut_le rest [47]
  have CC2 := Lib.hid (fun W hW => cut_bel (mkS rest) ⟨#[47]⟩ W hW (by rw [mkS_size]; omega))
  rw [bl1, bl_mkS] at CC2
  generalize Lib.cut rest [47] = r2 at *
  obtain ⟨hst, tail, ok2⟩ := r2
  simp only at L2
  have HC3 : Hid (∀ S H P Q, locB S H P Q = true → locT S H P Q = bl s → (Lib.cut tail [63]).1 = pathJ P ∧ (Lib.cut tail [63]).2.1 = bl Q) := fun S H P Q h e => by
    have h1 := HC2.out S H P Q h e
    simp only [Prod.mk.injEq] at h1
    rw [h1.2.1]; exact loc_cut3 h
  have L3 := cut_le tail [63]
  have CC3 := Lib.hid (fun W hW => cut_bel (mkS tail) ⟨#[63]⟩ W hW (by rw [mkS_size]; omega))
  rw [blq, bl_mkS] at CC3
  generalize Lib.cut tail [63] = r3 at *
  obtain ⟨pth, qry, ok3⟩ := r3
  simp only at L3
  go_enter Tryd.func19, Tryd.ntmps19
  go_wp2_with fail
  obtain ⟨W0, hW0⟩ : ∃ W0, W0 = w.alloc (.cells #[.string ⟨#[]⟩, .string ⟨#[]⟩, .slice none 0 0, .string ⟨#[]⟩] 26 (0, 0)) := ⟨_, rfl⟩
  have hz0 : W0.heap[w.heap.size]? = some (.cells #[.string ⟨#[]⟩, .string ⟨#[]⟩, .slice none 0 0, .string ⟨#[]⟩] 26 (0, 0)) := by rw [hW0]; exact heap_alloc_new w _
  have b0 : Below w.heap.size w W0 := by rw [hW0]; exact (Below.refl _ _).alloc (Nat.le_refl _) _
  have s0 : w.heap.size < W0.heap.size := by rw [hW0]; simp
  rw [← hW0]
  clear hW0
  refine (CC1.out _ (HMx.out.below b0)).mono ?_
  rintro e w1 ⟨rfl, b1⟩
  have hz1 := (b1.block _ s0).trans hz0
  have s1 := Nat.lt_of_lt_of_le s0 b1.size
  have B1 := Lib.hid (b0.trans (b1.mono (Nat.le_of_lt s0)))
  clear b0 b1 hz0 s0
  go_wp2_with fail
  refine (CC2.out _ (HMx.out.below B1.out)).mono ?_
  rintro e w2 ⟨rfl, b2⟩
  have hz2 := (b2.block _ s1).trans hz1
  have s2 := Nat.lt_of_lt_of_le s1 b2.size
  have B2 := Lib.hid (B1.out.trans (b2.mono (Nat.le_of_lt s1)))
  clear b2 hz1 s1
  go_wp2_with fail
  refine (CC3.out _ (HMx.out.below B2.out)).mono ?_
  rintro e w3 ⟨rfl, b3⟩
  have hz3 := (b3.block _ s2).trans hz2
  have s3 := Nat.lt_of_lt_of_le s2 b3.size
  have B3 := Lib.hid (B2.out.trans (b3.mono (Nat.le_of_lt s2)))
  clear b3 hz2 s2
  obtain ⟨PP, hPP⟩ : ∃ PP : List ByteArray, PP = if pth = [] then [] else (cutAt 47 pth).map mkS := ⟨_, rfl⟩
  have HCand : Hid (∀ S H P Q, locB S H P Q = true → locT S H P Q = bl s → S = mkS sch ∧ H = mkS hst ∧ P = PP ∧ Q = mkS qry ∧ ok1 = true ∧ ok2 = true) := fun S H P Q h e => by
    have h1 := HC1.out S H P Q h e
    have h2 := HC2.out S H P Q h e
    have h3 := HC3.out S H P Q h e
    simp only [Prod.mk.injEq] at h1 h2 h3
    have p4 := (locB_parts h).2.2.2.1
    refine ⟨by rw [h1.1, mkS_bl], by rw [h2.1, mkS_bl], ?_, by rw [h3.2, mkS_bl], h1.2.2, h2.2.2⟩
    rw [hPP, h3.1]
    by_cases hP : P = []
    · rw [if_pos (by rw [hP]; rfl), hP]
    · rw [if_neg (fun e => hP ((pathJ_nil_iff p4).1 e)), path_split p4 hP, map_mkS_blP]
  have HPZ : Hid (∀ x ∈ PP, x.size ≤ 4294967296) := fun x hx => by
    rw [hPP] at hx
    by_cases hp : pth = []
    · rw [if_pos hp] at hx; cases hx
    · rw [if_neg hp] at hx
      obtain ⟨y, hy, rfl⟩ := List.mem_map.1 hx
      have := cutAt_mem 47 pth y hy
      rw [mkS_size]; omega
  have HPL : Hid (PP.length ≤ 1048577) := by
    show _ ≤ _
    rw [hPP]
    by_cases hp : pth = []
    · rw [if_pos hp]; exact Nat.zero_le _
    · rw [if_neg hp, List.length_map]
      have := (cutAt_len 47 (mkS pth)).2
      rw [bl_mkS, mkS_size] at this
      omega
  clear HC1 HC2 HC3 CC1 CC2 CC3
  by_cases hp : pth = []
  · rw [if_pos hp] at hPP
    have e1 : ((mkS pth).toList == ([] : List UInt8)) = true := by rw [tl_litP, bl_mkS, decide_eq_true hp]
    have e2 : (mkS pth).toList.isEmpty = true := by rw [ByteArray.toList_eq]; show pth.isEmpty = true; rw [hp]; rfl
    clear hp
    subst hPP
    obtain ⟨PP, hPP⟩ : ∃ PP : List ByteArray, PP = [] := ⟨_, rfl⟩
    have hP0 : PP.length = 0 := by rw [hPP]; rfl
    rw [← hPP] at HCand HPZ
    obtain ⟨W5, hW5⟩ : ∃ W5, W5 = w3.alloc (.cells #[.string (mkS sch), .string (mkS hst), .slice none 0 0, .string (mkS qry)] 26 (0, 0)) := ⟨_, rfl⟩
    have hL5 : W5.heap[w3.heap.size]? = some (.cells #[.string (mkS sch), .string (mkS hst), .slice none 0 0, .string (mkS qry)] 26 (0, 0)) := by rw [hW5]; exact heap_alloc_new w3 _
    have hR5 : W5.heap[w.heap.size]? = some (.cells #[.string ⟨#[]⟩, .string ⟨#[]⟩, .slice none 0 0, .string ⟨#[]⟩] 26 (0, 0)) := by rw [hW5, Lib.alloc_old w3 _ _ s3]; exact hz3
    have p5 : w3.heap.size < W5.heap.size := by rw [hW5]; simp
    have q5 : w.heap.size < W5.heap.size := by omega
    have B5 : Hid (Below w.heap.size w W5) := by rw [hW5]; exact B3.out.alloc B3.out.size _
    have O5 : Hid (W5.ownsRow (w.heap.size + 1) 9 1 (.slice none 0 0) PP.length (PP.map strV)) := by rw [hPP]; exact World.ownsRow_nil _ _ _ _
    have HW := Lib.hid hW5
    have y0 := blkC hz3 0 _ rfl; have y1 := blkC hz3 1 _ rfl; have y2 := blkC hz3 2 _ rfl; have y3 := blkC hz3 3 _ rfl
    have t0 := blkF hz3 0; have t1 := blkF hz3 1; have t2 := blkF hz3 2; have t3 := blkF hz3 3
    clear hW5 HPL
    have CV := Lib.hid (impl_LocationValid (mkS sch) (mkS hst) none 0 0 PP (mkS qry) W5 (HMx.out.below B5.out) (own_formn_row O5.out) hP0 (by omega) (by rw [mkS_size]; omega) (by rw [mkS_size]; omega) HPZ.out)
    have CT : Hid (∀ W, Below W5.heap.size W5 W → Calls Tryd.prog 35 #[.agg #[.string (mkS sch), .string (mkS hst), .slice none 0 0, .string (mkS qry)]] W fun e w' => e = .returned (.string (mkS (locX (mkS sch) (mkS hst) PP (mkS qry)))) ∧ Below W.heap.size W w') := fun W hW => impl_LocationText (mkS sch) (mkS hst) none 0 0 PP (mkS qry) W ((HMx.out.below B5.out).below hW) ((own_formn_row O5.out).below (Nat.le_refl _) hW) hP0 (by omega) (Nat.le_refl _) (by rw [mkS_size]; omega) (by rw [mkS_size]; omega) HPZ.out
    clear hPP hP0
    have HL5 := Lib.hid hL5; have HR5 := Lib.hid hR5
    clear hL5
    rcases ok1 with _ | _
    · have HNo : Hid (∀ S H P Q, locB S H P Q = true → locT S H P Q ≠ bl s) := fun S H P Q h e => by have := (HCand.out S H P Q h e).2.2.2.2.1; cases this
      go_wp2
      obtain ⟨f', _, bb, sz⟩ := loc_put (.string ⟨#[]⟩) (.string ⟨#[]⟩) (.slice none 0 0) (.string ⟨#[]⟩) hz3
      obtain ⟨W8, hW8⟩ : ∃ W8, W8 = ((((w3.setCell ⟨w.heap.size, 0, none⟩ (.string ⟨#[]⟩)).setCell ⟨w.heap.size, 1, none⟩ (.string ⟨#[]⟩)).setCell ⟨w.heap.size, 2, none⟩ (.slice none 0 0)).setCell ⟨w.heap.size, 3, none⟩ (.string ⟨#[]⟩)) := ⟨_, rfl⟩
      rw [← hW8] at f' bb sz ⊢
      have f : (W8.alloc (.cells #[.string (mkS sch), .string (mkS hst), .slice none 0 0, .string (mkS qry)] 26 (0, 0))).heap[w.heap.size]? = some (.cells #[.string ⟨#[]⟩, .string ⟨#[]⟩, .slice none 0 0, .string ⟨#[]⟩] 26 (0, 0)) := by rw [Lib.alloc_old W8 _ _ (by omega)]; exact f'
      have BW : Below w.heap.size w (W8.alloc (.cells #[.string (mkS sch), .string (mkS hst), .slice none 0 0, .string (mkS qry)] 26 (0, 0))) := (B3.out.trans (bb _ (Nat.le_refl _))).alloc (by omega) _
      have f0 := blkC f 0 _ rfl; have f1 := blkC f 1 _ rfl; have f2 := blkC f 2 _ rfl; have f3 := blkC f 3 _ rfl
      exact bodyPost_ret (v := .tuple #[zeroLoc, .bool false]) (by simp [results, Tryd.results19, go_sem, f0, f1, f2, f3, zeroLoc]) rfl ⟨.inr ⟨rfl, HNo.out⟩, BW⟩
    rcases ok2 with _ | _
    · have HNo : Hid (∀ S H P Q, locB S H P Q = true → locT S H P Q ≠ bl s) := fun S H P Q h e => by have := (HCand.out S H P Q h e).2.2.2.2.2; cases this
      go_wp2
      obtain ⟨f', _, bb, sz⟩ := loc_put (.string ⟨#[]⟩) (.string ⟨#[]⟩) (.slice none 0 0) (.string ⟨#[]⟩) hz3
      obtain ⟨W8, hW8⟩ : ∃ W8, W8 = ((((w3.setCell ⟨w.heap.size, 0, none⟩ (.string ⟨#[]⟩)).setCell ⟨w.heap.size, 1, none⟩ (.string ⟨#[]⟩)).setCell ⟨w.heap.size, 2, none⟩ (.slice none 0 0)).setCell ⟨w.heap.size, 3, none⟩ (.string ⟨#[]⟩)) := ⟨_, rfl⟩
      rw [← hW8] at f' bb sz ⊢
      have f : (W8.alloc (.cells #[.string (mkS sch), .string (mkS hst), .slice none 0 0, .string (mkS qry)] 26 (0, 0))).heap[w.heap.size]? = some (.cells #[.string ⟨#[]⟩, .string ⟨#[]⟩, .slice none 0 0, .string ⟨#[]⟩] 26 (0, 0)) := by rw [Lib.alloc_old W8 _ _ (by omega)]; exact f'
      have BW : Below w.heap.size w (W8.alloc (.cells #[.string (mkS sch), .string (mkS hst), .slice none 0 0, .string (mkS qry)] 26 (0, 0))) := (B3.out.trans (bb _ (Nat.le_refl _))).alloc (by omega) _
      have f0 := blkC f 0 _ rfl; have f1 := blkC f 1 _ rfl; have f2 := blkC f 2 _ rfl; have f3 := blkC f 3 _ rfl
      exact bodyPost_ret (v := .tuple #[zeroLoc, .bool false]) (by simp [results, Tryd.results19, go_sem, f0, f1, f2, f3, zeroLoc]) rfl ⟨.inr ⟨rfl, HNo.out⟩, BW⟩
    rcases hv : locB (mkS sch) (mkS hst) PP (mkS qry) with _ | _
    · have HNo : Hid (∀ S H P Q, locB S H P Q = true → locT S H P Q ≠ bl s) := fun S H P Q h e => by
        obtain ⟨rfl, rfl, rfl, rfl, _⟩ := HCand.out S H P Q h e
        rw [hv] at h; cases h
      rw [hv] at CV
      clear hv
      go_wp2_with fail
      rw [← HW.out]
      refine CV.out.mono ?_
      rintro e w6 ⟨rfl, b6⟩
      have hR6 := (b6.block _ q5).trans HR5.out
      have B6 := Lib.hid (B5.out.trans (b6.mono B5.out.size))
      have t0 := blkF hR6 0; have t1 := blkF hR6 1; have t2 := blkF hR6 2; have t3 := blkF hR6 3
      have y0 := blkC hR6 0 _ rfl; have y1 := blkC hR6 1 _ rfl; have y2 := blkC hR6 2 _ rfl; have y3 := blkC hR6 3 _ rfl
      clear b6
      go_wp2
      obtain ⟨f, _, bb, _⟩ := loc_put (.string ⟨#[]⟩) (.string ⟨#[]⟩) (.slice none 0 0) (.string ⟨#[]⟩) hR6
      have BW := B6.out.trans ((bb w.heap.size (Nat.le_refl _)).mono (Nat.le_refl _))
      generalize ((((w6.setCell ⟨w.heap.size, 0, none⟩ (.string ⟨#[]⟩)).setCell ⟨w.heap.size, 1, none⟩ (.string ⟨#[]⟩)).setCell ⟨w.heap.size, 2, none⟩ (.slice none 0 0)).setCell ⟨w.heap.size, 3, none⟩ (.string ⟨#[]⟩)) = W9 at *
      have f0 := blkC f 0 _ rfl; have f1 := blkC f 1 _ rfl; have f2 := blkC f 2 _ rfl; have f3 := blkC f 3 _ rfl
      exact bodyPost_ret (v := .tuple #[zeroLoc, .bool false]) (by simp [results, Tryd.results19, go_sem, f0, f1, f2, f3, zeroLoc]) rfl ⟨.inr ⟨rfl, HNo.out⟩, BW⟩
    rw [hv] at CV
    by_cases ht : mkS (locX (mkS sch) (mkS hst) PP (mkS qry)) = s
    · have HT : Hid (locT (mkS sch) (mkS hst) PP (mkS qry) = bl s) := by rw [← ht, bl_mkS, locX_yes hv]; rfl
      have HV := Lib.hid hv
      have ez : ((mkS (locX (mkS sch) (mkS hst) PP (mkS qry))).toList == s.toList) = true := by rw [tl_yn, decide_eq_true ht]
      have ez2 : ((mkS (locX (mkS sch) (mkS hst) PP (mkS qry))).toList != s.toList) = false := by rw [bne, ez]; rfl
      clear hv ht
      generalize mkS (locX (mkS sch) (mkS hst) PP (mkS qry)) = X at *
      go_wp2_with fail
      rw [← HW.out]
      refine CV.out.mono ?_
      rintro e w6 ⟨rfl, b6⟩
      have hR6 := (b6.block _ q5).trans HR5.out
      have hL6 := (b6.block _ p5).trans HL5.out
      have q6 := Nat.lt_of_lt_of_le q5 b6.size
      have p6 := Nat.lt_of_lt_of_le p5 b6.size
      have x0 := blkC hL6 0 _ rfl; have x1 := blkC hL6 1 _ rfl; have x2 := blkC hL6 2 _ rfl; have x3 := blkC hL6 3 _ rfl
      have B65 := Lib.hid b6
      clear b6
      go_wp2_with fail
      refine (CT.out _ B65.out).mono ?_
      rintro e w7 ⟨rfl, b7⟩
      have hR7 := (b7.block _ q6).trans hR6
      have hL7 := (b7.block _ p6).trans hL6
      have B75 := Lib.hid (B65.out.trans (b7.mono B65.out.size))
      clear b7 hR6 hL6 x0 x1 x2 x3
      have x0 := blkC hL7 0 _ rfl; have x1 := blkC hL7 1 _ rfl; have x2 := blkC hL7 2 _ rfl; have x3 := blkC hL7 3 _ rfl
      have t0 := blkF hR7 0; have t1 := blkF hR7 1; have t2 := blkF hR7 2; have t3 := blkF hR7 3
      have y0 := blkC hR7 0 _ rfl; have y1 := blkC hR7 1 _ rfl; have y2 := blkC hR7 2 _ rfl; have y3 := blkC hR7 3 _ rfl
      have HR7 := Lib.hid hR7
      clear hR7 hL7
      go_wp2
      have B7 := B5.out.trans (B75.out.mono B5.out.size)
      have O7 := own_below O5.out B75.out
      obtain ⟨f, g, bb, _⟩ := loc_put (.string (mkS sch)) (.string (mkS hst)) (.slice none 0 0) (.string (mkS qry)) HR7.out
      have BW := B7.trans ((bb w.heap.size (Nat.le_refl _)).mono (Nat.le_refl _))
      have OW := own_other O7 g (fun j hj e => by have := own_ge O7 j hj; injection e with e; omega)
      generalize ((((w7.setCell ⟨w.heap.size, 0, none⟩ (.string (mkS sch))).setCell ⟨w.heap.size, 1, none⟩ (.string (mkS hst))).setCell ⟨w.heap.size, 2, none⟩ (.slice none 0 0)).setCell ⟨w.heap.size, 3, none⟩ (.string (mkS qry))) = W9 at *
      have f0 := blkC f 0 _ rfl; have f1 := blkC f 1 _ rfl; have f2 := blkC f 2 _ rfl; have f3 := blkC f 3 _ rfl
      exact bodyPost_ret (v := .tuple #[.agg #[.string (mkS sch), .string (mkS hst), .slice none 0 0, .string (mkS qry)], .bool true]) (by simp [results, Tryd.results19, go_sem, f0, f1, f2, f3]) rfl ⟨.inl ⟨_, _, PP, _, _, rfl, HV.out, HT.out, own_mono OW (by omega)⟩, BW⟩
    · have HNo : Hid (∀ S H P Q, locB S H P Q = true → locT S H P Q ≠ bl s) := fun S H P Q h e => by
        obtain ⟨rfl, rfl, rfl, rfl, _⟩ := HCand.out S H P Q h e
        exact ht (by rw [locX_yes h, e, mkS_bl])
      have ez : ((mkS (locX (mkS sch) (mkS hst) PP (mkS qry))).toList == s.toList) = false := by rw [tl_yn, decide_eq_false ht]
      have ez2 : ((mkS (locX (mkS sch) (mkS hst) PP (mkS qry))).toList != s.toList) = true := by rw [bne, ez]; rfl
      clear hv ht
      generalize mkS (locX (mkS sch) (mkS hst) PP (mkS qry)) = X at *
      go_wp2_with fail
      rw [← HW.out]
      refine CV.out.mono ?_
      rintro e w6 ⟨rfl, b6⟩
      have hR6 := (b6.block _ q5).trans HR5.out
      have hL6 := (b6.block _ p5).trans HL5.out
      have q6 := Nat.lt_of_lt_of_le q5 b6.size
      have x0 := blkC hL6 0 _ rfl; have x1 := blkC hL6 1 _ rfl; have x2 := blkC hL6 2 _ rfl; have x3 := blkC hL6 3 _ rfl
      have B65 := Lib.hid b6
      clear b6 hL6
      go_wp2_with fail
      refine (CT.out _ B65.out).mono ?_
      rintro e w7 ⟨rfl, b7⟩
      have hR7 := (b7.block _ q6).trans hR6
      have B7 := Lib.hid (B5.out.trans ((B65.out.trans (b7.mono B65.out.size)).mono B5.out.size))
      clear b7 hR6
      have t0 := blkF hR7 0; have t1 := blkF hR7 1; have t2 := blkF hR7 2; have t3 := blkF hR7 3
      have y0 := blkC hR7 0 _ rfl; have y1 := blkC hR7 1 _ rfl; have y2 := blkC hR7 2 _ rfl; have y3 := blkC hR7 3 _ rfl
      go_wp2
      obtain ⟨f, _, bb, _⟩ := loc_put (.string ⟨#[]⟩) (.string ⟨#[]⟩) (.slice none 0 0) (.string ⟨#[]⟩) hR7
      have BW := B7.out.trans ((bb w.heap.size (Nat.le_refl _)).mono (Nat.le_refl _))
      generalize ((((w7.setCell ⟨w.heap.size, 0, none⟩ (.string ⟨#[]⟩)).setCell ⟨w.heap.size, 1, none⟩ (.string ⟨#[]⟩)).setCell ⟨w.heap.size, 2, none⟩ (.slice none 0 0)).setCell ⟨w.heap.size, 3, none⟩ (.string ⟨#[]⟩)) = W9 at *
      have f0 := blkC f 0 _ rfl; have f1 := blkC f 1 _ rfl; have f2 := blkC f 2 _ rfl; have f3 := blkC f 3 _ rfl
      exact bodyPost_ret (v := .tuple #[zeroLoc, .bool false]) (by simp [results, Tryd.results19, go_sem, f0, f1, f2, f3, zeroLoc]) rfl ⟨.inr ⟨rfl, HNo.out⟩, BW⟩
  · rw [if_neg hp] at hPP
    have e1 : ((mkS pth).toList == ([] : List UInt8)) = false := by rw [tl_litP, bl_mkS, decide_eq_false hp]
    have e2 : (mkS pth).toList.isEmpty = false := by rw [ByteArray.toList_eq]; show pth.isEmpty = false; rcases h : pth with _ | _; exact absurd h hp; rfl
    clear hp
    have CSP : Hid (∀ W, MaxOk W → Calls Tryd.prog 22 #[.string (mkS pth), .string ⟨#[47]⟩] W fun e w' => ∃ v, e = .returned v ∧ w'.ownsRow W.heap.size 9 1 v PP.length (PP.map strV) ∧ Below W.heap.size W w') := fun W hW => by
      have := splitP_at (mkS pth) 47 W hW (by rw [mkS_size]; omega)
      rw [bl_mkS] at this
      rw [hPP, List.length_map]
      exact this
    clear hPP
    obtain ⟨W4, hW4⟩ : ∃ W4, W4 = w3.alloc (.cells #[.string (mkS sch), .string (mkS hst), .slice none 0 0, .string (mkS qry)] 26 (0, 0)) := ⟨_, rfl⟩
    have hL4 : W4.heap[w3.heap.size]? = some (.cells #[.string (mkS sch), .string (mkS hst), .slice none 0 0, .string (mkS qry)] 26 (0, 0)) := by rw [hW4]; exact heap_alloc_new w3 _
    have hR4 : W4.heap[w.heap.size]? = some (.cells #[.string ⟨#[]⟩, .string ⟨#[]⟩, .slice none 0 0, .string ⟨#[]⟩] 26 (0, 0)) := by rw [hW4, Lib.alloc_old w3 _ _ s3]; exact hz3
    have p4 : w3.heap.size < W4.heap.size := by rw [hW4]; simp
    have B4 : Hid (Below w.heap.size w W4) := by rw [hW4]; exact B3.out.alloc B3.out.size _
    have HW4 := Lib.hid hW4
    clear hW4
    go_wp2_with fail
    rw [← HW4.out]
    refine (CSP.out _ (HMx.out.below B4.out)).mono ?_
    rintro e w5 ⟨v5, rfl, o5, b5⟩
    obtain ⟨a5, c5, rfl, _, hvc, _⟩ := own_formn o5
    have k5 := (b5.block _ p4).trans hL4
    have r5 := (b5.block _ (by omega)).trans hR4
    have o5' := own_mono o5 (show w3.heap.size + 1 ≤ W4.heap.size by omega)
    have pp5 : w3.heap.size < w5.heap.size := Nat.lt_of_lt_of_le p4 b5.size
    have B55 := Lib.hid (B4.out.trans (b5.mono B4.out.size))
    clear b5 hL4 hR4 p4 HW4 o5
    have x0 := blkC k5 0 _ rfl; have x1 := blkC k5 1 _ rfl; have x2 := blkC k5 2 _ rfl; have x3 := blkC k5 3 _ rfl
    have u2 := blkF k5 2
    have y0 := blkC r5 0 _ rfl; have y1 := blkC r5 1 _ rfl; have y2 := blkC r5 2 _ rfl; have y3 := blkC r5 3 _ rfl
    have t0 := blkF r5 0; have t1 := blkF r5 1; have t2 := blkF r5 2; have t3 := blkF r5 3
    obtain ⟨W5, hW5⟩ : ∃ W5, W5 = w5.setCell ⟨w3.heap.size, 2, none⟩ (.slice a5 PP.length c5) := ⟨_, rfl⟩
    have hL5 : W5.heap[w3.heap.size]? = some (.cells #[.string (mkS sch), .string (mkS hst), .slice a5 PP.length c5, .string (mkS qry)] 26 (0, 0)) := by rw [hW5]; exact blkS 2 _ k5
    have hR5 : W5.heap[w.heap.size]? = some (.cells #[.string ⟨#[]⟩, .string ⟨#[]⟩, .slice none 0 0, .string ⟨#[]⟩] 26 (0, 0)) := by rw [hW5]; exact blkO 2 _ r5 (by omega)
    have p5 : w3.heap.size < W5.heap.size := by rw [hW5]; simpa using pp5
    have q5 : w.heap.size < W5.heap.size := by omega
    have B5 : Hid (Below w.heap.size w W5) := by rw [hW5]; exact B55.out.setCell (p := ⟨w3.heap.size, 2, none⟩) (Nat.le_of_lt s3) _
    have O5 : Hid (W5.ownsRow (w.heap.size + 1) 9 1 (.slice a5 PP.length c5) PP.length (PP.map strV)) := by
      rw [hW5]
      exact own_mono (own_other o5' (grown_setCell (grown_refl w5 (some w3.heap.size)) 2 _) (fun j hj e => by have := own_ge o5' j hj; injection e with e; omega)) (by omega)
    have HW := Lib.hid hW5
    have hpl := HPL.out
    clear hW5 o5' k5 r5
    have CV := Lib.hid (impl_LocationValid (mkS sch) (mkS hst) (a5) (PP.length) (c5) PP (mkS qry) W5 (HMx.out.below B5.out) (own_formn_row O5.out) rfl (by omega) (by rw [mkS_size]; omega) (by rw [mkS_size]; omega) HPZ.out)
    have CT : Hid (∀ W, Below W5.heap.size W5 W → Calls Tryd.prog 35 #[.agg #[.string (mkS sch), .string (mkS hst), .slice a5 PP.length c5, .string (mkS qry)]] W fun e w' => e = .returned (.string (mkS (locX (mkS sch) (mkS hst) PP (mkS qry)))) ∧ Below W.heap.size W w') := fun W hW => impl_LocationText (mkS sch) (mkS hst) (a5) (PP.length) (c5) PP (mkS qry) W ((HMx.out.below B5.out).below hW) ((own_formn_row O5.out).below (Nat.le_refl _) hW) rfl (by omega) hvc (by rw [mkS_size]; omega) (by rw [mkS_size]; omega) HPZ.out
    have HL5 := Lib.hid hL5; have HR5 := Lib.hid hR5
    clear hL5
    rcases ok1 with _ | _
    · have HNo : Hid (∀ S H P Q, locB S H P Q = true → locT S H P Q ≠ bl s) := fun S H P Q h e => by have := (HCand.out S H P Q h e).2.2.2.2.1; cases this
      go_wp2
      rw [← HW.out]
      obtain ⟨f, _, bb, _⟩ := loc_put (.string ⟨#[]⟩) (.string ⟨#[]⟩) (.slice none 0 0) (.string ⟨#[]⟩) hR5
      have BW := B5.out.trans ((bb w.heap.size (Nat.le_refl _)).mono (Nat.le_refl _))
      generalize ((((W5.setCell ⟨w.heap.size, 0, none⟩ (.string ⟨#[]⟩)).setCell ⟨w.heap.size, 1, none⟩ (.string ⟨#[]⟩)).setCell ⟨w.heap.size, 2, none⟩ (.slice none 0 0)).setCell ⟨w.heap.size, 3, none⟩ (.string ⟨#[]⟩)) = W9 at *
      have f0 := blkC f 0 _ rfl; have f1 := blkC f 1 _ rfl; have f2 := blkC f 2 _ rfl; have f3 := blkC f 3 _ rfl
      exact bodyPost_ret (v := .tuple #[zeroLoc, .bool false]) (by simp [results, Tryd.results19, go_sem, f0, f1, f2, f3, zeroLoc]) rfl ⟨.inr ⟨rfl, HNo.out⟩, BW⟩
    rcases ok2 with _ | _
    · have HNo : Hid (∀ S H P Q, locB S H P Q = true → locT S H P Q ≠ bl s) := fun S H P Q h e => by have := (HCand.out S H P Q h e).2.2.2.2.2; cases this
      go_wp2
      rw [← HW.out]
      obtain ⟨f, _, bb, _⟩ := loc_put (.string ⟨#[]⟩) (.string ⟨#[]⟩) (.slice none 0 0) (.string ⟨#[]⟩) hR5
      have BW := B5.out.trans ((bb w.heap.size (Nat.le_refl _)).mono (Nat.le_refl _))
      generalize ((((W5.setCell ⟨w.heap.size, 0, none⟩ (.string ⟨#[]⟩)).setCell ⟨w.heap.size, 1, none⟩ (.string ⟨#[]⟩)).setCell ⟨w.heap.size, 2, none⟩ (.slice none 0 0)).setCell ⟨w.heap.size, 3, none⟩ (.string ⟨#[]⟩)) = W9 at *
      have f0 := blkC f 0 _ rfl; have f1 := blkC f 1 _ rfl; have f2 := blkC f 2 _ rfl; have f3 := blkC f 3 _ rfl
      exact bodyPost_ret (v := .tuple #[zeroLoc, .bool false]) (by simp [results, Tryd.results19, go_sem, f0, f1, f2, f3, zeroLoc]) rfl ⟨.inr ⟨rfl, HNo.out⟩, BW⟩
    rcases hv : locB (mkS sch) (mkS hst) PP (mkS qry) with _ | _
    · have HNo : Hid (∀ S H P Q, locB S H P Q = true → locT S H P Q ≠ bl s) := fun S H P Q h e => by
        obtain ⟨rfl, rfl, rfl, rfl, _⟩ := HCand.out S H P Q h e
        rw [hv] at h; cases h
      rw [hv] at CV
      clear hv
      go_wp2_with fail
      rw [← HW.out]
      refine CV.out.mono ?_
      rintro e w6 ⟨rfl, b6⟩
      have hR6 := (b6.block _ q5).trans HR5.out
      have B6 := Lib.hid (B5.out.trans (b6.mono B5.out.size))
      have t0 := blkF hR6 0; have t1 := blkF hR6 1; have t2 := blkF hR6 2; have t3 := blkF hR6 3
      have y0 := blkC hR6 0 _ rfl; have y1 := blkC hR6 1 _ rfl; have y2 := blkC hR6 2 _ rfl; have y3 := blkC hR6 3 _ rfl
      clear b6
      go_wp2
      obtain ⟨f, _, bb, _⟩ := loc_put (.string ⟨#[]⟩) (.string ⟨#[]⟩) (.slice none 0 0) (.string ⟨#[]⟩) hR6
      have BW := B6.out.trans ((bb w.heap.size (Nat.le_refl _)).mono (Nat.le_refl _))
      generalize ((((w6.setCell ⟨w.heap.size, 0, none⟩ (.string ⟨#[]⟩)).setCell ⟨w.heap.size, 1, none⟩ (.string ⟨#[]⟩)).setCell ⟨w.heap.size, 2, none⟩ (.slice none 0 0)).setCell ⟨w.heap.size, 3, none⟩ (.string ⟨#[]⟩)) = W9 at *
      have f0 := blkC f 0 _ rfl; have f1 := blkC f 1 _ rfl; have f2 := blkC f 2 _ rfl; have f3 := blkC f 3 _ rfl
      exact bodyPost_ret (v := .tuple #[zeroLoc, .bool false]) (by simp [results, Tryd.results19, go_sem, f0, f1, f2, f3, zeroLoc]) rfl ⟨.inr ⟨rfl, HNo.out⟩, BW⟩
    rw [hv] at CV
    by_cases ht : mkS (locX (mkS sch) (mkS hst) PP (mkS qry)) = s
    · have HT : Hid (locT (mkS sch) (mkS hst) PP (mkS qry) = bl s) := by rw [← ht, bl_mkS, locX_yes hv]; rfl
      have HV := Lib.hid hv
      have ez : ((mkS (locX (mkS sch) (mkS hst) PP (mkS qry))).toList == s.toList) = true := by rw [tl_yn, decide_eq_true ht]
      have ez2 : ((mkS (locX (mkS sch) (mkS hst) PP (mkS qry))).toList != s.toList) = false := by rw [bne, ez]; rfl
      clear hv ht
      generalize mkS (locX (mkS sch) (mkS hst) PP (mkS qry)) = X at *
      go_wp2_with fail
      rw [← HW.out]
      refine CV.out.mono ?_
      rintro e w6 ⟨rfl, b6⟩
      have hR6 := (b6.block _ q5).trans HR5.out
      have hL6 := (b6.block _ p5).trans HL5.out
      have q6 := Nat.lt_of_lt_of_le q5 b6.size
      have p6 := Nat.lt_of_lt_of_le p5 b6.size
      have x0 := blkC hL6 0 _ rfl; have x1 := blkC hL6 1 _ rfl; have x2 := blkC hL6 2 _ rfl; have x3 := blkC hL6 3 _ rfl
      have B65 := Lib.hid b6
      clear b6
      go_wp2_with fail
      refine (CT.out _ B65.out).mono ?_
      rintro e w7 ⟨rfl, b7⟩
      have hR7 := (b7.block _ q6).trans hR6
      have hL7 := (b7.block _ p6).trans hL6
      have B75 := Lib.hid (B65.out.trans (b7.mono B65.out.size))
      clear b7 hR6 hL6 x0 x1 x2 x3
      have x0 := blkC hL7 0 _ rfl; have x1 := blkC hL7 1 _ rfl; have x2 := blkC hL7 2 _ rfl; have x3 := blkC hL7 3 _ rfl
      have t0 := blkF hR7 0; have t1 := blkF hR7 1; have t2 := blkF hR7 2; have t3 := blkF hR7 3
      have y0 := blkC hR7 0 _ rfl; have y1 := blkC hR7 1 _ rfl; have y2 := blkC hR7 2 _ rfl; have y3 := blkC hR7 3 _ rfl
      have HR7 := Lib.hid hR7
      clear hR7 hL7
      go_wp2
      have B7 := B5.out.trans (B75.out.mono B5.out.size)
      have O7 := own_below O5.out B75.out
      obtain ⟨f, g, bb, _⟩ := loc_put (.string (mkS sch)) (.string (mkS hst)) (.slice a5 PP.length c5) (.string (mkS qry)) HR7.out
      have BW := B7.trans ((bb w.heap.size (Nat.le_refl _)).mono (Nat.le_refl _))
      have OW := own_other O7 g (fun j hj e => by have := own_ge O7 j hj; injection e with e; omega)
      generalize ((((w7.setCell ⟨w.heap.size, 0, none⟩ (.string (mkS sch))).setCell ⟨w.heap.size, 1, none⟩ (.string (mkS hst))).setCell ⟨w.heap.size, 2, none⟩ (.slice a5 PP.length c5)).setCell ⟨w.heap.size, 3, none⟩ (.string (mkS qry))) = W9 at *
      have f0 := blkC f 0 _ rfl; have f1 := blkC f 1 _ rfl; have f2 := blkC f 2 _ rfl; have f3 := blkC f 3 _ rfl
      exact bodyPost_ret (v := .tuple #[.agg #[.string (mkS sch), .string (mkS hst), .slice a5 PP.length c5, .string (mkS qry)], .bool true]) (by simp [results, Tryd.results19, go_sem, f0, f1, f2, f3]) rfl ⟨.inl ⟨_, _, PP, _, _, rfl, HV.out, HT.out, own_mono OW (by omega)⟩, BW⟩
    · have HNo : Hid (∀ S H P Q, locB S H P Q = true → locT S H P Q ≠ bl s) := fun S H P Q h e => by
        obtain ⟨rfl, rfl, rfl, rfl, _⟩ := HCand.out S H P Q h e
        exact ht (by rw [locX_yes h, e, mkS_bl])
      have ez : ((mkS (locX (mkS sch) (mkS hst) PP (mkS qry))).toList == s.toList) = false := by rw [tl_yn, decide_eq_false ht]
      have ez2 : ((mkS (locX (mkS sch) (mkS hst) PP (mkS qry))).toList != s.toList) = true := by rw [bne, ez]; rfl
      clear hv ht
      generalize mkS (locX (mkS sch) (mkS hst) PP (mkS qry)) = X at *
      go_wp2_with fail
      rw [← HW.out]
      refine CV.out.mono ?_
      rintro e w6 ⟨rfl, b6⟩
      have hR6 := (b6.block _ q5).trans HR5.out
      have hL6 := (b6.block _ p5).trans HL5.out
      have q6 := Nat.lt_of_lt_of_le q5 b6.size
      have x0 := blkC hL6 0 _ rfl; have x1 := blkC hL6 1 _ rfl; have x2 := blkC hL6 2 _ rfl; have x3 := blkC hL6 3 _ rfl
      have B65 := Lib.hid b6
      clear b6 hL6
      go_wp2_with fail
      refine (CT.out _ B65.out).mono ?_
      rintro e w7 ⟨rfl, b7⟩
      have hR7 := (b7.block _ q6).trans hR6
      have B7 := Lib.hid (B5.out.trans ((B65.out.trans (b7.mono B65.out.size)).mono B5.out.size))
      clear b7 hR6
      have t0 := blkF hR7 0; have t1 := blkF hR7 1; have t2 := blkF hR7 2; have t3 := blkF hR7 3
      have y0 := blkC hR7 0 _ rfl; have y1 := blkC hR7 1 _ rfl; have y2 := blkC hR7 2 _ rfl; have y3 := blkC hR7 3 _ rfl
      go_wp2
      obtain ⟨f, _, bb, _⟩ := loc_put (.string ⟨#[]⟩) (.string ⟨#[]⟩) (.slice none 0 0) (.string ⟨#[]⟩) hR7
      have BW := B7.out.trans ((bb w.heap.size (Nat.le_refl _)).mono (Nat.le_refl _))
      generalize ((((w7.setCell ⟨w.heap.size, 0, none⟩ (.string ⟨#[]⟩)).setCell ⟨w.heap.size, 1, none⟩ (.string ⟨#[]⟩)).setCell ⟨w.heap.size, 2, none⟩ (.slice none 0 0)).setCell ⟨w.heap.size, 3, none⟩ (.string ⟨#[]⟩)) = W9 at *
      have f0 := blkC f 0 _ rfl; have f1 := blkC f 1 _ rfl; have f2 := blkC f 2 _ rfl; have f3 := blkC f 3 _ rfl
      exact bodyPost_ret (v := .tuple #[zeroLoc, .bool false]) (by simp [results, Tryd.results19, go_sem, f0, f1, f2, f3, zeroLoc]) rfl ⟨.inr ⟨rfl, HNo.out⟩, BW⟩
end Go.Proofs.YtmiemnhbkcmanaaDoor
