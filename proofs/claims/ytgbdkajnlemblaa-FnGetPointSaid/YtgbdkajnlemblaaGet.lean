/- Contracts of GetPoint, of the program and of the reference: both compute the plain function getP. -/
import Derived.Test.YtgbdkajnlemblaaPoint
namespace Go.Proofs.Ytgbdkajnlemblaa
open Go.RowKit

/-- How many bytes a first byte asks for, and what it brings. -/
def cls (x : Nat) : Nat × Int :=
  if 192 ≤ x ∧ x ≤ 223 then (2, (x : Int) - 192) else if 224 ≤ x ∧ x ≤ 239 then (3, (x : Int) - 224) else if 240 ≤ x ∧ x ≤ 247 then (4, (x : Int) - 240) else (1, (x : Int))

/-- The number behind k bytes more. -/
def decN (f : Nat → Int) (init : Int) : Nat → Int
  | 0 => init
  | k + 1 => 64 * decN f init k + f (k + 1) - 128

def byteAt (b : List UInt8) (p : Nat) (i : Nat) : Int := ((b.getD (p + i) 0).toNat : Int)
theorem byteAt_bd (b : List UInt8) (p i : Nat) : 0 ≤ byteAt b p i ∧ byteAt b p i ≤ 255 := by
  unfold byteAt; have := (b.getD (p + i) 0).toNat_lt; omega

theorem decN_bd (f : Nat → Int) (init : Int) (hf : ∀ i, 0 ≤ f i ∧ f i ≤ 255) (h0 : 0 ≤ init) (h1 : init ≤ 255) : ∀ k, k ≤ 3 → -1000000 ≤ decN f init k ∧ decN f init k ≤ 100000000 := by
  intro k hk
  have f1 := hf (0 + 1); have f2 := hf (1 + 1); have f3 := hf (2 + 1)
  rcases (by omega : k = 0 ∨ k = 1 ∨ k = 2 ∨ k = 3) with rfl | rfl | rfl | rfl <;> simp only [decN] <;> omega

/-- The decoded number at a place. -/
def decAt (b : List UInt8) (p : Nat) : Int := decN (byteAt b p) (cls (b.getD p 0).toNat).2 ((cls (b.getD p 0).toNat).1 - 1)

def getP (b : List UInt8) (at_ : Int) : Int × Int :=
  if 0 ≤ at_ ∧ at_ < b.length then
    if at_.toNat + (cls (b.getD at_.toNat 0).toNat).1 ≤ b.length ∧ putP (decAt b at_.toNat) = (b.drop at_.toNat).take (cls (b.getD at_.toNat 0).toNat).1 then (decAt b at_.toNat, at_ + (cls (b.getD at_.toNat 0).toNat).1)
    else (-1, at_)
  else (-1, at_)

theorem cls_cases (x : Nat) : ∃ L init, cls x = (L, init) ∧
    ((192 ≤ x ∧ x ≤ 223 ∧ 2 ≤ L ∧ L ≤ 2 ∧ init = (x : Int) - 192) ∨ (224 ≤ x ∧ x ≤ 239 ∧ 3 ≤ L ∧ L ≤ 3 ∧ init = (x : Int) - 224) ∨ (240 ≤ x ∧ x ≤ 247 ∧ 4 ≤ L ∧ L ≤ 4 ∧ init = (x : Int) - 240) ∨ ((x < 192 ∨ 247 < x) ∧ 1 ≤ L ∧ L ≤ 1 ∧ init = (x : Int))) := by
  unfold cls
  by_cases h1 : 192 ≤ x ∧ x ≤ 223
  · exact ⟨_, _, if_pos h1, .inl ⟨h1.1, h1.2, by omega, by omega, rfl⟩⟩
  · by_cases h2 : 224 ≤ x ∧ x ≤ 239
    · exact ⟨_, _, by rw [if_neg h1, if_pos h2], .inr (.inl ⟨h2.1, h2.2, by omega, by omega, rfl⟩)⟩
    · by_cases h3 : 240 ≤ x ∧ x ≤ 247
      · exact ⟨_, _, by rw [if_neg h1, if_neg h2, if_pos h3], .inr (.inr (.inl ⟨h3.1, h3.2, by omega, by omega, rfl⟩))⟩
      · exact ⟨_, _, by rw [if_neg h1, if_neg h2, if_neg h3], .inr (.inr (.inr ⟨by omega, by omega, by omega, rfl⟩))⟩

/-- What getP answers, by what the walks find out. -/
theorem getP_out {b : List UInt8} {at_ : Int} (h : ¬ (0 ≤ at_ ∧ at_ < b.length)) : getP b at_ = (-1, at_) := by unfold getP; rw [if_neg h]
theorem getP_short {b : List UInt8} {p L : Nat} {init : Int} (h : p < b.length) (hc : cls (b.getD p 0).toNat = (L, init)) (hs : b.length < p + L) : getP b (p : Int) = (-1, (p : Int)) := by
  unfold getP
  rw [if_pos ⟨by omega, by omega⟩, Int.toNat_natCast, hc, if_neg]
  intro h1
  have := h1.1
  simp at this
  omega
theorem getP_no {b : List UInt8} {p L : Nat} {init : Int} (h : p < b.length) (hc : cls (b.getD p 0).toNat = (L, init)) (hs : putP (decN (byteAt b p) init (L - 1)) ≠ (b.drop p).take L) : getP b (p : Int) = (-1, (p : Int)) := by
  unfold getP decAt
  rw [if_pos ⟨by omega, by omega⟩, Int.toNat_natCast, hc, if_neg]
  exact fun h1 => hs h1.2
theorem getP_yes {b : List UInt8} {p L : Nat} {init : Int} (h : p < b.length) (hc : cls (b.getD p 0).toNat = (L, init)) (hl : p + L ≤ b.length) (hs : putP (decN (byteAt b p) init (L - 1)) = (b.drop p).take L) :
    getP b (p : Int) = (decN (byteAt b p) init (L - 1), (p : Int) + L) := by
  unfold getP decAt
  rw [if_pos ⟨by omega, by omega⟩, Int.toNat_natCast, hc, if_pos ⟨hl, hs⟩]

def PairPost (x : Int × Int) (w : World) (e : Ending) (w' : World) : Prop := e = .returned (.tuple #[.int .i64 x.1, .int .i64 x.2]) ∧ Below w.heap.size w w'

theorem ret2_int {a b a' b' : Int} (h1 : a = a') (h2 : b = b') : Ending.returned (.tuple #[.int .i64 a, .int .i64 b]) = Ending.returned (.tuple #[.int .i64 a', .int .i64 b']) := by rw [h1, h2]

theorem bne_lit {q : List UInt8} {x : Int} (h1 : (q.length : Int) ≤ x) (h2 : x ≤ (q.length : Int)) : ((q.length : Int) != x) = false := by rw [bne_eq_false_iff_eq]; omega

theorem take_eq_of {q b : List UInt8} {p L : Nat} (hq : q.length = L) (hl : p + L ≤ b.length) (h : ∀ i, i < L → q.getD i 0 = b.getD (p + i) 0) : q = (b.drop p).take L := by
  apply List.ext_getElem (by simp; omega)
  intro i h1 h2
  have := h i (by omega)
  simp only [List.getD_eq_getElem?_getD, List.getElem?_eq_getElem h1, List.getElem?_eq_getElem (show p + i < b.length by omega), Option.getD_some] at this
  simp [this]
theorem ne_of_at {q b : List UInt8} {p L i : Nat} (hi : i < L) (h : q.getD i 0 ≠ b.getD (p + i) 0) : q ≠ (b.drop p).take L := by
  rintro rfl
  apply h
  simp [List.getD_eq_getElem?_getD, hi]

set_option maxHeartbeats 1600000 in
theorem spec_GetPoint (a : Option Addr) (n c : Nat) (b : List UInt8) (at_ : Int) (w : World) (h : RowAt w a (b.map byteV)) (hn : b.length = n) (hn' : n ≤ 4611686018427387904) (ha : -9223372036854775808 ≤ at_) (ha' : at_ ≤ 9223372036854775807) :
    Calls Try.prog 6 #[.slice a n c, .int .i64 at_] w (PairPost (getP b at_) w) := by
  by_cases hin : 0 ≤ at_ ∧ at_ < n
  · obtain ⟨p, rfl⟩ := Int.eq_ofNat_of_zero_le hin.1
    have hp : p < n := by omega
    clear hin ha ha'
    obtain ⟨L, init, hc, hcase⟩ := cls_cases (b.getD p 0).toNat
    have hB := row_bytes h hn
    have HB := Lib.hid hB
    obtain ⟨blk, off, rfl, hlt, hc0⟩ := hB p hp
    have hF := byteAt_bd b p
    have hx : (b.getD p 0).toNat < 256 := (b.getD p 0).toNat_lt
    have hx2 : b.length = n := hn
    have HN := Lib.hid hn
    have hi0 : 0 ≤ init ∧ init ≤ 255 := by omega
    have HD := Lib.hid (decN_bd (byteAt b p) init hF hi0.1 hi0.2)
    have e0 : inB (p : Int) 0 ((n : Int) - 1) = true := inB_t (by omega) (by omega)
    have Gshort : Hid (n < p + L → getP b (p : Int) = (-1, (p : Int))) := fun hs => getP_short (by omega) hc (by omega)
    have Gno : Hid (putP (decN (byteAt b p) init (L - 1)) ≠ (b.drop p).take L → getP b (p : Int) = (-1, (p : Int))) := fun hs => getP_no (by omega) hc hs
    have Gyes : Hid (p + L ≤ n → putP (decN (byteAt b p) init (L - 1)) = (b.drop p).take L → getP b (p : Int) = (decN (byteAt b p) init (L - 1), (p : Int) + L)) := fun hl hs => getP_yes (by omega) hc (by omega) hs
    obtain ⟨x, hxx⟩ : ∃ x, x = (b.getD p 0).toNat := ⟨_, rfl⟩
    simp only [← hxx] at hcase hc0 hx hc
    have HX := Lib.hid hxx
    have HF := Lib.hid hF
    clear hxx hc h hB hn hx2 hF hi0
    have Q : ∀ {v : Value}, (v = .int .i64 init) → v = .int .i64 (decN (byteAt b p) init 0) := fun h => h
    have hfacts : (inB (x : Int) 192 223 = true ∧ 2 ≤ L ∧ L ≤ 2 ∧ init = (x : Int) - 192 ∧ 192 ≤ x) ∨ (inB (x : Int) 192 223 = false ∧ inB (x : Int) 224 239 = true ∧ 3 ≤ L ∧ L ≤ 3 ∧ init = (x : Int) - 224 ∧ 224 ≤ x) ∨
        (inB (x : Int) 192 223 = false ∧ inB (x : Int) 224 239 = false ∧ inB (x : Int) 240 247 = true ∧ 4 ≤ L ∧ L ≤ 4 ∧ init = (x : Int) - 240 ∧ 240 ≤ x) ∨ (inB (x : Int) 192 223 = false ∧ inB (x : Int) 224 239 = false ∧ inB (x : Int) 240 247 = false ∧ 1 ≤ L ∧ L ≤ 1 ∧ init = (x : Int) ∧ 0 ≤ x) := by
      rcases hcase with ⟨g1, g2, g3, g4, g5⟩ | ⟨g1, g2, g3, g4, g5⟩ | ⟨g1, g2, g3, g4, g5⟩ | ⟨g1, g3, g4, g5⟩
      · exact .inl ⟨inB_t (by omega) (by omega), g3, g4, g5, g1⟩
      · exact .inr (.inl ⟨inB_f (by omega), inB_t (by omega) (by omega), g3, g4, g5, g1⟩)
      · exact .inr (.inr (.inl ⟨inB_f (by omega), inB_f (by omega), inB_t (by omega) (by omega), g3, g4, g5, g1⟩))
      · exact .inr (.inr (.inr ⟨inB_f (by omega), inB_f (by omega), inB_f (by omega), g3, g4, g5, by omega⟩))
    clear hcase
    rcases hfacts with ⟨c1, g3, g4, g5, g1⟩ | ⟨c1, c2, g3, g4, g5, g1⟩ | ⟨c1, c2, c3, g3, g4, g5, g1⟩ | ⟨c1, c2, c3, g3, g4, g5, g1⟩
    all_goals
      have HI := Lib.hid g5; clear g5
      have HQ : Hid (∀ {v : Value}, v = .int .i64 init → v = .int .i64 (decN (byteAt b p) init 0)) := Q; clear Q
      go_enter Try.func6, Try.ntmps6
      go_wp2_with (go_at_call 13; refine (l1In_any _ _ _ _).mono ?_; rintro e w' ⟨rfl, rfl⟩)
      go_loop [7, 9] (fun d k => ∃ j : Nat, j + 1 ≤ L ∧ p + j < n ∧ k = .int .i64 ((j + 1 : Nat) : Int) ∧ d = .int .i64 (decN (byteAt b p) init j)) (fun _ k => L - (intOf k).toNat)
      case atStart => exact ⟨0, by omega, by omega, rfl, HQ.out (by rw [HI.out])⟩
      case round =>
        obtain ⟨j, hj, hpj, rfl, rfl⟩ := hrel
        have hDj := HD.out j (by omega)
        by_cases hjl : j + 1 < L
        · first
            | (exfalso; omega; done)
            | (by_cases hpn : p + (j + 1) < n
               · obtain ⟨blk', off', hE, hlt', hc1⟩ := HB.out (p + (j + 1)) hpn
                 injection hE with hE; injection hE with hE1 hE2
                 subst hE1; subst hE2
                 have hz : (b.getD (p + (j + 1)) 0).toNat < 256 := (b.getD (p + (j + 1)) 0).toNat_lt
                 have HZ : Hid (decN (byteAt b p) init (j + 1) = 64 * decN (byteAt b p) init j + ((b.getD (p + (j + 1)) 0).toNat : Int) - 128) := rfl
                 generalize hDD : decN (byteAt b p) init j = D at hDj HZ ⊢
                 generalize hzz : (b.getD (p + (j + 1)) 0).toNat = z at hz HZ hc1
                 clear hDD hzz
                 go_wp2
                 go_round
                 case rel => exact ⟨j + 1, by omega, by omega, by go_num, by rw [HZ.out]⟩
                 case measure => simp [intOf]; omega
               · generalize decN (byteAt b p) init j = D at hDj
                 go_wp2
                 go_ret2
                 exact ⟨by rw [Gshort.out (by omega)]; rfl, Below.refl _ _⟩)
        · have hLj : L = j + 1 := by omega
          have HL := Lib.hid hLj; clear hLj
          have hjn : p + (j + 1) ≤ n := by omega
          have CP := spec_PutPoint (decN (byteAt b p) init j) w
          have HQP : Hid (decN (byteAt b p) init (L - 1) = decN (byteAt b p) init j) := by show _ = _; rw [HL.out]; rfl
          obtain ⟨q, hq⟩ : ∃ q, q = putP (decN (byteAt b p) init j) := ⟨_, rfl⟩
          rw [← hq] at CP
          have HPQ := Lib.hid hq; clear hq
          have HCP := Lib.hid CP; clear CP
          have KNo : Hid (q ≠ (b.drop p).take L → getP b (p : Int) = (-1, (p : Int))) := fun h => Gno.out (by rw [HQP.out, ← HPQ.out]; exact h)
          have KYes : Hid (q = (b.drop p).take L → getP b (p : Int) = (decN (byteAt b p) init j, (p : Int) + L)) := fun h => by
            have := Gyes.out (by omega) (by rw [HQP.out, ← HPQ.out]; exact h)
            rwa [HQP.out] at this
          generalize decN (byteAt b p) init j = D at hDj HCP KYes ⊢
          by_cases hqs : q.length < L
          · go_wp2_with (go_at_call 14; refine HCP.out.mono ?_; rintro e w1 ⟨v, rfl, hown, hb1⟩; obtain ⟨a1, c1, rfl, hr1, hc1, hc1', hB1⟩ := own_formn hown)
            go_ret2
            exact ⟨by rw [KNo.out (fun e => by have := congrArg List.length e; simp [HN.out] at this; omega)]; rfl, hb1⟩
          · by_cases hqg : L < q.length
            · go_wp2_with (go_at_call 14; refine HCP.out.mono ?_; rintro e w1 ⟨v, rfl, hown, hb1⟩; obtain ⟨a1, c1, rfl, hr1, hc1, hc1', hB1⟩ := own_formn hown)
              go_ret2
              exact ⟨by rw [KNo.out (fun e => by have := congrArg List.length e; simp [HN.out] at this; omega)]; rfl, hb1⟩
            · go_wp2_with (go_at_call 14; refine HCP.out.mono ?_; rintro e w1 ⟨v, rfl, hown, hb1⟩; obtain ⟨a1, c1, rfl, hr1, hc1, hc1', hB1⟩ := own_formn hown)
              have HR := Lib.hid (row_bytes hr1 (rfl : q.length = q.length))
              first | simp only [bne_lit (q := q) (x := 2) (by omega) (by omega)] | simp only [bne_lit (q := q) (x := 3) (by omega) (by omega)] | simp only [bne_lit (q := q) (x := 4) (by omega) (by omega)] | simp only [bne_lit (q := q) (x := 1) (by omega) (by omega)]
              clear hown hr1 hB1
              have hqL : q.length = L := by omega
              have HQL := Lib.hid hqL; clear hqL
              go_loopw [11] (fun t wr => ∃ i : Nat, i ≤ L ∧ t = .int .i64 (i : Int) ∧ (∀ k, k < i → q.getD k 0 = b.getD (p + k) 0) ∧ Below w1.heap.size w1 wr) (fun t _ => L - (intOf t).toNat)
              case atStart => exact ⟨0, Nat.zero_le _, rfl, by intro k hk; omega, Below.refl _ _⟩
              case round =>
                obtain ⟨i, hi, rfl, heq, hb2⟩ := hrel
                by_cases hiL : i < L
                · obtain ⟨b1, o1, rfl, hl1, hcq⟩ := (HR.out.below (Nat.le_refl _) hb2) i (by omega)
                  obtain ⟨b2, o2, hE, hl2, hcb⟩ := (HB.out.below (Nat.le_refl _) (hb1.trans (hb2.mono hb1.size))) (p + i) (by omega)
                  injection hE with hE; injection hE with hE1 hE2
                  subst hE1; subst hE2
                  change wr.cell? _ = some (.int .u8 ((b.getD (p + i) 0).toNat : Int)) at hcb
                  change wr.cell? _ = some (.int .u8 ((q.getD i 0).toNat : Int)) at hcq
                  have k0 : (0 : Int) ≤ (i : Int) := by omega
                  have k2 : (i : Int) < (q.length : Int) := by omega
                  have k3 : (p : Int) + (i : Int) < (n : Int) := by omega
                  by_cases he : q.getD i 0 = b.getD (p + i) 0
                  · rw [← he] at hcb
                    have HE := Lib.hid he; have HQ2 := Lib.hid heq; clear he heq
                    generalize (q.getD i 0).toNat = z at hcq hcb
                    go_wp2
                    go_quiet (fail)
                    go_wp2
                    go_roundw
                    case rel => exact ⟨i + 1, by omega, by go_num, upto_succ HQ2.out HE.out, below_drewN hb2 _⟩
                    case measure => simp [intOf]; omega
                  · have hne : (((q.getD i 0).toNat : Int) != ((b.getD (p + i) 0).toNat : Int)) = true := by
                      rw [bne_iff_ne]; intro e; exact he (UInt8.toNat_inj.1 (by omega))
                    have HE := Lib.hid he; clear he heq
                    generalize (q.getD i 0).toNat = z1 at hcq hne
                    generalize (b.getD (p + i) 0).toNat = z2 at hcb hne
                    go_wp2
                    go_quiet (fail)
                    go_wp2
                    go_ret2
                    exact ⟨by rw [KNo.out (ne_of_at hiL HE.out)]; rfl, hb1.trans ((below_drewN hb2 _).mono hb1.size)⟩
                · have hiL' : i = L := by omega
                  subst hiL'
                  have HQ2 := Lib.hid heq; clear heq
                  go_wp2
                  go_ret2
                  exact ⟨by rw [KYes.out (take_eq_of HQL.out (by rw [HN.out]; omega) HQ2.out)]; exact ret2_int rfl (by show _ = _; omega), hb1.trans (hb2.mono hb1.size)⟩
  · have e0 : inB at_ 0 ((n : Int) - 1) = false := inB_f (by omega)
    have E := Lib.hid (getP_out (b := b) (at_ := at_) (by rw [hn]; exact hin))
    clear h
    go_enter Try.func6, Try.ntmps6
    go_wp2_with (go_at_call 13; refine (l1In_any _ _ _ _).mono ?_; rintro e w' ⟨rfl, rfl⟩)
    go_ret2
    exact ⟨by rw [E.out]; rfl, Below.refl _ _⟩
end Go.Proofs.Ytgbdkajnlemblaa