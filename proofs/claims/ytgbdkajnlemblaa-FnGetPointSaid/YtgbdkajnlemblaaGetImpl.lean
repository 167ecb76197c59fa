/- The contract of the program's GetPoint: it computes the plain function getP. -/
import Derived.Test.YtgbdkajnlemblaaGet
import Derived.Test.YtgbdkajnlemblaaConv
import Derived.Deep.RegionWith
import Derived.Deep.DeepCutAuto
import Derived.Deep.CutBlock
namespace Go.Proofs.Ytgbdkajnlemblaa
open Go.RowKit

/-- The program's classes: where they part from the reference's, neither finds a point. -/
theorem putP_len {n : Int} : (putP n).length ≤ 4 ∧ (n < 0 → putP n = []) ∧ (1114111 < n → putP n = []) := by
  refine ⟨?_, fun h => put_0 (ptB_f.2 (by omega)), fun h => put_0 (ptB_f.2 (by omega))⟩
  unfold putP
  split
  · split
    · simp
    · split
      · simp
      · split <;> simp
  · simp

theorem getP_mid {b : List UInt8} {p : Nat} (hp : p < b.length) (h1 : 128 ≤ (b.getD p 0).toNat) (h2 : (b.getD p 0).toNat < 192) : getP b (p : Int) = (-1, (p : Int)) := by
  have hc : cls (b.getD p 0).toNat = (1, ((b.getD p 0).toNat : Int)) := by unfold cls; rw [if_neg (by omega), if_neg (by omega), if_neg (by omega)]
  refine getP_no hp hc ?_
  intro e
  have := congrArg List.length e
  simp only [Nat.sub_self, decN] at this
  have hv : ptB ((b.getD p 0).toNat : Int) = true := ptB_t.2 (by omega)
  rw [put_2 hv (by omega) (by omega)] at this
  simp at this
  omega

theorem getP_low {b : List UInt8} {p : Nat} (hp : p < b.length) (h1 : (b.getD p 0).toNat < 128) : getP b (p : Int) = (((b.getD p 0).toNat : Int), (p : Int) + 1) := by
  have hc : cls (b.getD p 0).toNat = (1, ((b.getD p 0).toNat : Int)) := by unfold cls; rw [if_neg (by omega), if_neg (by omega), if_neg (by omega)]
  have hv : ptB ((b.getD p 0).toNat : Int) = true := ptB_t.2 (by omega)
  have := getP_yes hp hc (by omega) (by
    simp only [Nat.sub_self, decN]
    rw [put_1 hv (by omega), List.drop_eq_getElem_cons hp]
    show [u8 _] = [b[p]]
    simp [u8, List.getD_eq_getElem?_getD, hp])
  simpa [decN] using this

/-- A first byte above 247: neither finds a point. -/
theorem getP_high {b : List UInt8} {p : Nat} (hp : p < b.length) (h1 : 248 ≤ (b.getD p 0).toNat) : getP b (p : Int) = (-1, (p : Int)) := by
  have hc : cls (b.getD p 0).toNat = (1, ((b.getD p 0).toNat : Int)) := by unfold cls; rw [if_neg (by omega), if_neg (by omega), if_neg (by omega)]
  refine getP_no hp hc ?_
  intro e
  have := congrArg List.length e
  simp only [Nat.sub_self, decN] at this
  have hl := (b.getD p 0).toNat_lt
  have hv : ptB ((b.getD p 0).toNat : Int) = true := ptB_t.2 (by omega)
  rw [put_2 hv (by omega) (by omega)] at this
  simp at this
  omega

theorem putP_high {f : Nat → Int} {init : Int} (hf : ∀ i, 0 ≤ f i ∧ f i ≤ 255) (h : 8 ≤ init) : putP (decN f init 3) = [] := by
  have f1 := hf (0 + 1); have f2 := hf (1 + 1); have f3 := hf (2 + 1)
  refine putP_len.2.2 ?_
  simp only [decN]
  omega
theorem int_eq {a b : Int} (h : a = b) : Value.int .i64 a = Value.int .i64 b := by rw [h]

theorem sub_row {W : World} {blk off n p L : Nat} {b : List UInt8} (hB : BytesAt W (some ⟨blk, off, none⟩) n (fun i => b.getD i 0)) (hn : b.length = n) (hl : p + L ≤ n) : RowAt W (some ⟨blk, off + p, none⟩) (((b.drop p).take L).map byteV) := by
  intro i hi
  have hi' : i < L := by simp at hi; omega
  obtain ⟨b', o', ha, hlt, hc⟩ := hB (p + i) (by omega)
  injection ha with ha; injection ha with ha1 ha2
  subst ha1; subst ha2
  refine ⟨_, _, rfl, hlt, ?_⟩
  rw [Nat.add_assoc, hc]
  have : p + i < b.length := by omega
  simp [byteV, List.getD_eq_getElem?_getD, this]

set_option maxRecDepth 100000 in
set_option maxHeartbeats 1600000 in
theorem impl_GetPoint (a : Option Addr) (n c : Nat) (b : List UInt8) (at_ : Int) (w : World) (h : RowAt w a (b.map byteV)) (hn : b.length = n) (hcap : n ≤ c) (hn' : n ≤ 4611686018427387904) (hc' : c ≤ 9223372036854775807) (ha : -9223372036854775808 ≤ at_) (ha' : at_ ≤ 9223372036854775807) :
    Calls Try.prog 5 #[.slice a n c, .int .i64 at_] w (PairPost (getP b at_) w) := by
  by_cases hin : 0 ≤ at_ ∧ at_ < n
  · obtain ⟨p, rfl⟩ := Int.eq_ofNat_of_zero_le hin.1
    have hp : p < n := by omega
    clear hin ha ha'
    have hB := row_bytes h hn
    have HB := Lib.hid hB
    obtain ⟨blk, off, rfl, hlt, hc0⟩ := hB p hp
    change w.cell? _ = some (.int .u8 ((b.getD p 0).toNat : Int)) at hc0
    have hx : (b.getD p 0).toNat < 256 := (b.getD p 0).toNat_lt
    have b0 : (0 : Int) ≤ (p : Int) := by omega
    have b1 : (p : Int) < (n : Int) := by omega
    by_cases hlow : (b.getD p 0).toNat < 128
    · have E := Lib.hid (getP_low (by omega) hlow)
      generalize (b.getD p 0).toNat = x at hx hlow hc0 E
      clear h hB
      go_enter Try.func5, Try.ntmps5
      go_wp2
      go_quiet (fail)
      go_wp2
      go_ret2
      exact ⟨by rw [E.out]; rfl, below_drewN (Below.refl _ _) _⟩
    · by_cases hmid : (b.getD p 0).toNat < 192
      · have E := Lib.hid (getP_mid (by omega) (by omega) hmid)
        generalize (b.getD p 0).toNat = x at hx hlow hmid hc0
        clear h hB
        go_enter Try.func5, Try.ntmps5
        go_wp2
        go_quiet (fail)
        go_wp2
        go_ret2
        exact ⟨by rw [E.out]; rfl, below_drewN (Below.refl _ _) _⟩
      · have hcls : ∃ (L : Nat) (init : Int), 2 ≤ L ∧ L ≤ 4 ∧ 0 ≤ init ∧ init ≤ 255 ∧ (n < p + L → getP b (p : Int) = (-1, (p : Int))) ∧ (p + L ≤ n → putP (decN (byteAt b p) init (L - 1)) ≠ (b.drop p).take L → getP b (p : Int) = (-1, (p : Int))) ∧
            (p + L ≤ n → putP (decN (byteAt b p) init (L - 1)) = (b.drop p).take L → getP b (p : Int) = (decN (byteAt b p) init (L - 1), (p : Int) + L)) ∧
            (((b.getD p 0).toNat < 224 ∧ L = 2 ∧ init = ((b.getD p 0).toNat : Int) - 192) ∨ (224 ≤ (b.getD p 0).toNat ∧ (b.getD p 0).toNat < 240 ∧ L = 3 ∧ init = ((b.getD p 0).toNat : Int) - 224) ∨ (240 ≤ (b.getD p 0).toNat ∧ L = 4 ∧ init = ((b.getD p 0).toNat : Int) - 240)) := by
          by_cases hh : 248 ≤ (b.getD p 0).toNat
          · refine ⟨4, ((b.getD p 0).toNat : Int) - 240, by omega, by omega, by omega, by omega, fun _ => getP_high (by omega) hh, fun _ _ => getP_high (by omega) hh, fun hl he => ?_, .inr (.inr ⟨by omega, rfl, rfl⟩)⟩
            exfalso
            rw [putP_high (byteAt_bd b p) (by omega)] at he
            have := congrArg List.length he
            simp at this
            omega
          · obtain ⟨L, init, hc, hcase⟩ := cls_cases (b.getD p 0).toNat
            exact ⟨L, init, by omega, by omega, by omega, by omega, fun hs => getP_short (by omega) hc (by omega), fun _ hs => getP_no (by omega) hc hs, fun hl hs => getP_yes (by omega) hc (by omega) hs, by omega⟩
        obtain ⟨L, init, l1, l2, i1, i2, hs, hno, hyes, hcase⟩ := hcls
        have HD := Lib.hid (decN_bd (byteAt b p) init (byteAt_bd b p) i1 i2)
        have HN := Lib.hid hn
        have Hs := Lib.hid hs; have Hno := Lib.hid hno; have Hyes := Lib.hid hyes
        clear hs hno hyes h hB hn i1 i2
        generalize (b.getD p 0).toNat = x at hx hlow hmid hc0 hcase
        have HCASE := Lib.hid hcase
        clear hcase
        have HQ : Hid (∀ {v : Value}, v = .int .i64 init → v = .int .i64 (decN (byteAt b p) init 0)) := fun h => h
        go_enter Try.func5, Try.ntmps5
        go_wp2
        go_quiet (fail)
        go_upto_block 0 with fail
        go_cut [6, 7] (fun s t wx => s = .int .i64 (L : Int) ∧ t = .int .i64 (decN (byteAt b p) init 0) ∧ wx = w.drewN nq)
        case first =>
          rcases HCASE.out with ⟨g1, g2, g3⟩ | ⟨g0, g1, g2, g3⟩ | ⟨g1, g2, g3⟩
          all_goals
            have HI := Lib.hid g3; clear g3
            have HL := Lib.hid g2; clear g2
            go_wp2
            go_meet
            exact ⟨by rw [HL.out]; rfl, HQ.out (by rw [HI.out]), rfl⟩
        case rest =>
          obtain ⟨rfl, rfl, rfl⟩ := hcut
          by_cases hpl : n < p + L
          · have hD0 := HD.out 0 (by omega)
            generalize decN (byteAt b p) init 0 = D0 at hD0 ⊢
            go_wp2
            go_ret2
            exact ⟨by rw [Hs.out hpl]; rfl, below_drewN (Below.refl _ _) _⟩
          · have q1 : p + 1 < c := by omega
            go_wp2
            go_loop [7, 61] (fun d k => ∃ j : Nat, j + 1 ≤ L ∧ k = .int .i64 (j : Int) ∧ d = .int .i64 (decN (byteAt b p) init j)) (fun _ k => L - (intOf k).toNat)
            case atStart => exact ⟨0, by omega, rfl, rfl⟩
            case round =>
              obtain ⟨j, hj, rfl, rfl⟩ := hrel
              have hDj := HD.out j (by omega)
              by_cases hjl : j + 1 < L
              · obtain ⟨blk', off', hE, hlt', hc1⟩ := HB.out (p + 1 + j) (by omega)
                injection hE with hE; injection hE with hE1 hE2
                subst hE1; subst hE2
                change w.cell? _ = some (.int .u8 ((b.getD (p + 1 + j) 0).toNat : Int)) at hc1
                rw [show off + (p + 1 + j) = off + (p + 1) + j from by omega] at hc1
                have hz : (b.getD (p + 1 + j) 0).toNat < 256 := (b.getD (p + 1 + j) 0).toNat_lt
                have HZ : Hid (decN (byteAt b p) init (j + 1) = 64 * decN (byteAt b p) init j + ((b.getD (p + 1 + j) 0).toNat : Int) - 128) := by
                  rw [show p + 1 + j = p + (j + 1) from by omega]; rfl
                generalize hDD : decN (byteAt b p) init j = D at hDj HZ ⊢
                generalize hzz : (b.getD (p + 1 + j) 0).toNat = z at hz HZ hc1
                clear hDD hzz
                go_wp2
                go_round
                case rel => exact ⟨j + 1, by omega, by go_num, by rw [HZ.out]; exact int_eq (by omega)⟩
                case measure => simp [intOf]; omega
              · have hLj : L = j + 1 := by omega
                have HL := Lib.hid hLj; clear hLj
                have hjn : p + (j + 1) ≤ n := by omega
                have HQP : Hid (decN (byteAt b p) init (L - 1) = decN (byteAt b p) init j) := by show _ = _; rw [HL.out]; rfl
                obtain ⟨q, hq⟩ : ∃ q, q = putP (decN (byteAt b p) init j) := ⟨_, rfl⟩
                obtain ⟨r, hr⟩ : ∃ r, r = (b.drop p).take L := ⟨_, rfl⟩
                have HPUT : Hid (∀ W, Calls Try.prog 8 #[.int .i64 (decN (byteAt b p) init j)] W (BytesPost W q)) := fun W => by rw [hq]; exact impl_PutPoint _ W
                have HSUB : Hid (∀ W, Below w.heap.size w W → RowAt W (some ⟨blk, off + p, none⟩) (r.map byteV)) := fun W hW => by rw [hr]; exact sub_row (HB.out.below (Nat.le_refl _) hW) HN.out (by omega)
                have HLEN : Hid (r.length = L) := by show _ = _; rw [hr]; simp [HN.out]; omega
                have KNo : Hid (q ≠ r → getP b (p : Int) = (-1, (p : Int))) := fun h => Hno.out (by omega) (by rw [HQP.out, ← hq, ← hr]; exact h)
                have KYes : Hid (q = r → getP b (p : Int) = (decN (byteAt b p) init j, (p : Int) + L)) := fun h => by
                  have := Hyes.out (by omega) (by rw [HQP.out, ← hq, ← hr]; exact h)
                  rwa [HQP.out] at this
                clear hq hr HQP
                generalize decN (byteAt b p) init j = D at hDj HPUT KYes ⊢
                by_cases hqr : q = r
                · have hqb : (q == r) = true := beq_iff_eq.2 hqr
                  have HQR := Lib.hid hqr; clear hqr
                  go_wp2
                  have s2 : IntKind.i64.wrap ((p : Int) + L) = (p : Int) + L := IntWalk.i64_in _ (by omega)
                  have t2 : ((p : Int) + L).toNat = p + L := by omega
                  go_region_with (first
                    | (go_at_call 8; refine (HPUT.out _).mono ?_; rintro e w1 ⟨v, rfl, hown, hb1⟩; obtain ⟨a1, c1, rfl, hr1, hc1, hc1', hB1⟩ := own_formn hown)
                    | (go_at_call 12; refine (bytes_Equal _ _ _ _ _ _ q r _ hr1 (HSUB.out _ ((below_drewN (Below.refl _ _) _).drew.trans (hb1.mono (by simp)))) rfl HLEN.out).mono ?_; rintro e w2 ⟨rfl, rfl⟩))
                  all_goals
                    clear s2 t2 hown hr1 hB1
                    have HB1 : Hid (Below w.heap.size w w1) := (below_drewN (Below.refl _ _) _).drew.trans (hb1.mono (by simp))
                    clear hb1
                    go_wp2
                    go_ret2
                    exact ⟨by rw [KYes.out HQR.out]; rfl, HB1.out⟩
                · have hqb : (q == r) = false := beq_eq_false_iff_ne.2 hqr
                  have HQR := Lib.hid hqr; clear hqr
                  go_wp2
                  have s2 : IntKind.i64.wrap ((p : Int) + L) = (p : Int) + L := IntWalk.i64_in _ (by omega)
                  have t2 : ((p : Int) + L).toNat = p + L := by omega
                  go_region_with (first
                    | (go_at_call 8; refine (HPUT.out _).mono ?_; rintro e w1 ⟨v, rfl, hown, hb1⟩; obtain ⟨a1, c1, rfl, hr1, hc1, hc1', hB1⟩ := own_formn hown)
                    | (go_at_call 12; refine (bytes_Equal _ _ _ _ _ _ q r _ hr1 (HSUB.out _ ((below_drewN (Below.refl _ _) _).drew.trans (hb1.mono (by simp)))) rfl HLEN.out).mono ?_; rintro e w2 ⟨rfl, rfl⟩))
                  all_goals
                    clear s2 t2 hown hr1 hB1
                    have HB1 : Hid (Below w.heap.size w w1) := (below_drewN (Below.refl _ _) _).drew.trans (hb1.mono (by simp))
                    clear hb1
                    go_wp2
                    go_ret2
                    exact ⟨by rw [KNo.out HQR.out]; rfl, HB1.out⟩
  · have E := Lib.hid (getP_out (b := b) (at_ := at_) (by rw [hn]; exact hin))
    clear h
    by_cases hneg : at_ < 0
    all_goals
      go_enter Try.func5, Try.ntmps5
      go_wp2
      go_ret2
      exact ⟨by rw [E.out]; rfl, Below.refl _ _⟩
end Go.Proofs.Ytgbdkajnlemblaa
