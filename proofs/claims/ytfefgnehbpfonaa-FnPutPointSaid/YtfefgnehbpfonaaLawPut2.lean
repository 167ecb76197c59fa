/- The walk of the law FnPutPoint. -/
import Derived.Test.YtfefgnehbpfonaaGetImpl
import Derived.Test.YtfefgnehbpfonaaPtPlain
import Derived.Test.YtfefgnehbpfonaaMarkB
import Derived.Test.YtfefgnehbpfonaaApp
import Derived.Deep.DeepCutAuto
import Derived.Deep.CutBlock
import Derived.Test.YtfefgnehbpfonaaLawPut
import Derived.Test.YtfefgnehbpfonaaLawGet
namespace Go.Proofs.Ytfefgnehbpfonaa
open Go.RowKit

theorem bytes_one (l : List UInt8) : ∀ u ∈ l.map byteV, u.oneCell' = true := by
  intro u hu
  obtain ⟨b, _, rfl⟩ := List.mem_map.1 hu
  rfl

set_option maxRecDepth 100000 in
set_option maxHeartbeats 1600000 in
theorem walk_FnPutPoint (a : Option Addr) (n c : Nat) (z : List Int) (w : World) (hrow : IsRow .u8 w a n c z) :
    Calls Try.prog 8 #[.slice a n c] w fun e w' => e = .returned (.bool true) ∧ Below w.heap.size w w' := by
  have hcap := hrow.caps
  have hby := Lib.hid hrow.bytes
  clear hrow
  by_cases hn : 1048576 < n
  · go_enter Try.func8, Try.ntmps8
    go_wp2
    go_ret
    exact ⟨rfl, Below.refl _ _⟩
  · obtain ⟨i0, hi, hz0, hz1, hz2⟩ := info_parts info_u8
    have HI := Lib.hid hi; have HZ0 := Lib.hid hz0; have HZ1 := Lib.hid hz1; have HZ2 := Lib.hid hz2
    clear hi hz0 hz1 hz2
    go_enter Try.func8, Try.ntmps8
    go_wp2_with fail
    refine (draw_PutPoint _ _ _ _ _ hby.out hcap.1 hcap.2).mono ?_
    rintro e w1 ⟨m, rfl, hm1, hm2, b1⟩
    have B1 := Lib.hid b1; clear b1 hcap hn hby
    by_cases hv : ptB m = true
    · have CS := Lib.hid (spec_PutPoint m)
      have CI := Lib.hid (impl_PutPoint m)
      have hle := putP_le m
      have hpos : Hid (putP m ≠ []) := by
        show putP m ≠ []
        intro e
        have := getP_put m hv [65] []
        rw [e] at this
        have h2 := getP_out (b := [65] ++ ([] : List UInt8) ++ []) (at_ := 1) (by simp)
        simp at this h2
        rw [h2] at this
        injection this with h3
        have := ptB_t.1 hv
        omega
      have HG := Lib.hid (getP_put m hv [65] [65])
      have HE := Lib.hid (encode_put m hv)
      generalize putP m = l at CS CI hle HG HE hpos
      go_wp2_with fail
      refine (CI.out _).mono ?_
      rintro e w2 ⟨v2, rfl, o2, b2⟩
      obtain ⟨a2, c2, rfl, r2, k2, k2', g2⟩ := own_formn o2
      have B2 : Hid (Below w.heap.size w w2) := B1.out.trans (b2.mono B1.out.size)
      have O2 := Lib.hid o2
      have kd := conv_row w2.drew a2 l.length c2 l (own_formn_row (own_below o2 (Below.refl _ _).drew)) rfl
      clear o2 r2 b2 g2
      go_upto_region 5 with fail
      go_cut [19] (fun s wx => s = .bool false ∧ Below w2.heap.size w2 wx)
      case first =>
        go_region_with (first
          | (go_at_call 22; refine (CS.out _).mono ?_; rintro e w3 ⟨v3, rfl, o3, b3⟩; obtain ⟨a3, c3, rfl, r3, k3, k3', g3⟩ := own_formn o3; have kd3 := conv_row w3 a3 l.length c3 l r3 rfl; have kd2 := conv_row w3 a2 l.length c2 l (own_formn_row (own_below O2.out ((Below.refl _ _).drew.trans (b3.mono (by simp))))) rfl))
        all_goals
          have HBB : Hid (Below w2.heap.size w2 w3) := (Below.refl _ _).drew.trans (b3.mono (by simp))
          clear b3 o3 r3
          go_wp2_with fail
          go_meet
          exact ⟨rfl, HBB.out⟩
      case rest =>
        obtain ⟨rfl, b3⟩ := hcut
        clear kd
        have B3 : Hid (Below w.heap.size w wc) := B2.out.trans (b3.mono B2.out.size)
        have O3 := Lib.hid (own_below O2.out b3)
        clear b3
        have HC0 : Hid (a2 = none → c2 = 0) := fun e => by
          have h1 := O3.out
          rw [e] at h1
          have := row_none (own_formn_row h1)
          exact absurd (by simpa using this) hpos.out
        have HGG : Hid (getP ([65] ++ l ++ [65]) 1 = (m, 1 + (l.length : Int))) := HG.out
        have hE := HE.out
        go_wp2_with (first
          | (go_at_call 15; refine (spec_PointValid _ _).mono ?_; rintro e w' ⟨rfl, rfl⟩)
          | (at_builtin; refine wpList_append_row rfl (.tmp 30) (.tmp 31) _ rfl wc.heap.size 5 i0 _ 1 Try.underlying24 HI.out HZ0.out HZ1.out HZ2.out rfl (.slice (some ⟨wc.heap.size, 0, none⟩) 1 1) 1 [.int .u8 65] rfl (own_new wc #[.int .u8 65] 5 1 rfl (by omega)) a2 l.length c2 (l.map byteV) rfl HC0.out (own_formn_row (own_below O3.out ((Below.refl _ _).alloc (Nat.le_refl _) _))) (by simp) (bytes_one l) (by omega) (by omega) (by simp) ?_; intro v4 w4 o4 h4 _; have O4 := Lib.hid o4; have H4 := Lib.hid h4; clear o4 h4)
          | (at_builtin; refine wpList_append_row rfl (.tmp 32) (.tmp 33) _ rfl wc.heap.size 5 i0 _ 1 Try.underlying24 HI.out HZ0.out HZ1.out HZ2.out rfl v4 (1 + l.length) ([.int .u8 65] ++ l.map byteV) rfl (own_below O4.out ((Below.refl _ _).alloc (Nat.le_refl _) _)) (some ⟨w4.heap.size, 0, none⟩) 1 1 [.int .u8 65] rfl (by intro e; cases e) (own_formn_row (own_new w4 #[.int .u8 65] 5 1 rfl (by omega))) rfl (bytes_one [65]) (by omega) (by omega) (by have := H4.out.size; simp at this ⊢; omega) ?_; intro v5 w5 o5 h5 _; have O5 := Lib.hid o5; have H5 := Lib.hid h5; obtain ⟨a5, c5, rfl, r5, k5, k5', g5⟩ := own_formn o5; clear o5 h5; have R5 := Lib.hid r5; clear r5 g5))
        have e5 : ([65] ++ l ++ [65]).map byteV = [.int .u8 65] ++ l.map byteV ++ [.int .u8 65] := by rw [List.map_append, List.map_append]; rfl
        have CG := impl_GetPoint a5 (1 + l.length + 1) c5 ([65] ++ l ++ [65]) 1 w5 (by rw [e5]; exact R5.out) (by simp; omega) k5 (by omega) k5' (by omega) (by omega)
        rw [HGG.out] at CG
        have BC4 : Hid (Below wc.heap.size wc w4) := ((Below.refl wc.heap.size wc).alloc (Nat.le_refl _) _).grown H4.out (by simp) (fun k hk => by
          injection hk with hk; exact Nat.le_of_eq hk)
        have BC5 : Hid (Below wc.heap.size wc w5) := (BC4.out.alloc BC4.out.size _).grown H5.out (by have := BC4.out.size; simp; omega) (fun k hk => (own_ge O4.out k hk).1)
        have B5 : Hid (Below w.heap.size w w5) := B3.out.trans (BC5.out.mono B3.out.size)
        have O5' : Hid (w5.ownsRow w1.heap.size 5 1 (.slice a2 l.length c2) l.length (l.map byteV)) := own_below O3.out BC5.out
        clear e5
        refine CG.mono ?_
        rintro e w6 ⟨rfl, b6⟩
        have kd6 := conv_row w6 a2 l.length c2 l (own_formn_row (own_below O5'.out b6)) rfl
        have B6 : Hid (Below w.heap.size w w6) := B5.out.trans (b6.mono B5.out.size)
        clear b6 CG
        go_wp2
        go_ret
        exact ⟨rfl, B6.out⟩
    · have hv' : ptB m = false := by simpa using hv
      have CS := Lib.hid (spec_PutPoint m)
      have CI := Lib.hid (impl_PutPoint m)
      rw [put_0 hv'] at CS CI
      clear hv
      go_wp2_with fail
      refine (CI.out _).mono ?_
      rintro e w2 ⟨v2, rfl, o2, b2⟩
      obtain ⟨a2, c2, rfl, r2, k2, k2', g2⟩ := own_formn o2
      have B2 : Hid (Below w.heap.size w w2) := B1.out.trans (b2.mono B1.out.size)
      have O2 := Lib.hid o2
      have kd := conv_row w2.drew a2 0 c2 [] RowAt.nil rfl
      clear o2 r2 b2 g2
      go_upto_region 5 with fail
      go_cut [19] (fun s wx => s = .bool false ∧ Below w2.heap.size w2 wx)
      case first =>
        go_region_with (first
          | (go_at_call 22; refine (CS.out _).mono ?_; rintro e w3 ⟨v3, rfl, o3, b3⟩; obtain ⟨a3, c3, rfl, r3, k3, k3', g3⟩ := own_formn o3; have kd3 := conv_row w3 a3 0 c3 [] RowAt.nil rfl; have kd2 := conv_row w3 a2 0 c2 [] RowAt.nil rfl))
        all_goals
          have HBB : Hid (Below w2.heap.size w2 w3) := (Below.refl _ _).drew.trans (b3.mono (by simp))
          clear b3 o3 r3
          go_wp2_with fail
          go_meet
          exact ⟨rfl, HBB.out⟩
      case rest =>
        obtain ⟨rfl, b3⟩ := hcut
        clear kd
        have B3 : Hid (Below w.heap.size w wc) := B2.out.trans (b3.mono B2.out.size)
        clear b3
        go_wp2_with (first
          | (go_at_call 15; refine (spec_PointValid _ _).mono ?_; rintro e w' ⟨rfl, rfl⟩)
          | (go_at_call 20; refine (alive_any _).mono ?_; rintro e w4 ⟨rfl, b4⟩))
        go_ret
        exact ⟨rfl, B3.out.trans (b4.mono B3.out.size)⟩
end Go.Proofs.Ytfefgnehbpfonaa
