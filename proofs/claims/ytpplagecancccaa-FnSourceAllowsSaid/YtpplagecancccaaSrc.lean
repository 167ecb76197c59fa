/- Sources: a slice of structs that hold a string and a slice of strings; those that come in; the laws' helpers over them. -/
import Derived.Test.YtpplagecancccaaOwnN
import Derived.Test.YtpplagecancccaaSliceArg
import Derived.Test.YtpplagecancccaaStrs
import Derived.Deep.RegionHeld3
namespace Go.Proofs.Ytpplagecancccaa
open Go.ChangeShapes Go.WideShapes Go.Deep Go.RowKit

structure Src where
  K : ByteArray
  F : List ByteArray
/-- A value is a slice of these strings; it does not lie in a block below B, and not behind the world's end. -/
def SlS (w : World) (B : Nat) (v : Value) (F : List ByteArray) : Prop :=
  ∃ fa fc, v = .slice fa F.length fc ∧ RowAt w fa (F.map strV) ∧ F.length ≤ fc ∧ fc ≤ 9223372036854775807 ∧ ∀ x : Addr, fa = some x → B ≤ x.block
theorem SlS.below {w w' : World} {B : Nat} {v : Value} {F : List ByteArray} (h : SlS w B v F) (hb : Below w.heap.size w w') : SlS w' B v F := by
  obtain ⟨fa, fc, rfl, h1, h2, h3, h4⟩ := h
  exact ⟨fa, fc, rfl, h1.below (Nat.le_refl _) hb, h2, h3, h4⟩
theorem SlS.mono {w : World} {B B' : Nat} {v : Value} {F : List ByteArray} (h : SlS w B v F) (hb : B' ≤ B) : SlS w B' v F := by
  obtain ⟨fa, fc, rfl, h1, h2, h3, h4⟩ := h
  exact ⟨fa, fc, rfl, h1, h2, h3, fun x e => Nat.le_trans hb (h4 x e)⟩
/-- A row of sources. -/
def SrcsAt (w : World) (B : Nat) (a : Option Addr) (S : List Src) : Prop :=
  ∀ i (h : i < S.length), ∃ b off v, a = some ⟨b, off, none⟩ ∧ b < w.heap.size ∧ w.cell? ⟨b, off + i * 2, none⟩ = some (.string S[i].K) ∧ w.cell? ⟨b, off + i * 2 + 1, none⟩ = some v ∧ SlS w B v S[i].F
theorem SrcsAt.below {w w' : World} {B : Nat} {a : Option Addr} {S : List Src} (h : SrcsAt w B a S) (hb : Below w.heap.size w w') : SrcsAt w' B a S := fun i hi => by
  obtain ⟨b, off, v, h1, h2, h3, h4, h5⟩ := h i hi
  exact ⟨b, off, v, h1, Nat.lt_of_lt_of_le h2 hb.size, (hb.cell (p := ⟨b, off + i * 2, none⟩) h2).trans h3, (hb.cell (p := ⟨b, off + i * 2 + 1, none⟩) h2).trans h4, h5.below hb⟩
theorem SrcsAt.mono {w : World} {B B' : Nat} {a : Option Addr} {S : List Src} (h : SrcsAt w B a S) (hb : B' ≤ B) : SrcsAt w B' a S := fun i hi => by
  obtain ⟨b, off, v, h1, h2, h3, h4, h5⟩ := h i hi
  exact ⟨b, off, v, h1, h2, h3, h4, h5.mono hb⟩
def SrcOk (m : Nat) (s : Src) : Prop := s.K.size ≤ m ∧ s.F.length ≤ m ∧ ∀ t ∈ s.F, t.size ≤ m
/-- What a walk is told of a slice of sources that came in. -/
def IsSrcs (w : World) (a : Option Addr) (len cap : Nat) (z : List Src) : Prop :=
  z.length = len ∧ len ≤ cap ∧ cap ≤ maxLen ∧ SrcsAt w 0 a z ∧ ∀ s ∈ z, SrcOk 9223372036854775807 s
theorem IsSrcs.caps {w : World} {a : Option Addr} {n c : Nat} {z : List Src} (h : IsSrcs w a n c z) : n ≤ c ∧ c ≤ 9223372036854775807 := ⟨h.2.1, by simpa [maxLen] using h.2.2.1⟩
theorem srcs_of_trod {H : Type} {enc : TypeId × Value → H} {w : World} {base : Nat} {held : Bool} {fuel : Nat} {a : Option Addr} {n c : Nat} {x : DataW H × List MemPlace}
    (hf : DataW.trod enc Try.prog w base (fun _ => true) held fuel 31 [.slice a n c] = some x) : ∃ z, IsSrcs w a n c z := by
  rcases open_slice_fields Try.underlying31 Try.underlying49 (by kernel_rfl) (by kernel_rfl) hf with ⟨hcs, _⟩ | ⟨ad, len, cap, m, D, Pl, hcs, hb, hl, hm, hmm, hx, hi⟩
  · injection hcs with h1 _
    injection h1 with h1 h2 h3
    subst h1; subst h2; subst h3
    exact ⟨[], rfl, Nat.le_refl _, Nat.zero_le _, fun i h => by simp at h, fun s h => by cases h⟩
  · injection hcs with h1 _
    injection h1 with h1 h2 h3
    subst h1; subst h2; subst h3
    have hnm : n ≤ m := by rw [hmm]; split <;> omega
    have cells : ∀ i, i < n → ∃ s : Src, (w.cell? (ad.add (i * 2)) = some (.string s.K) ∧ ∃ v, w.cell? (ad.add (i * 2 + 1)) = some v ∧ SlS w 0 v s.F) ∧ SrcOk 9223372036854775807 s := by
      intro i hi'
      obtain ⟨ys, nn, _, _, _, hfld⟩ := hi i (by omega)
      obtain ⟨v0, y0, c0, _, t0⟩ := hfld 0 _ rfl
      obtain ⟨v1, y1, c1, _, t1⟩ := hfld 1 _ rfl
      obtain ⟨K, e0, _, hK⟩ := DataW.trod_string Try.underlying9 t0
      simp at e0
      subst e0
      rcases open_strings Try.underlying27 Try.underlying9 (by kernel_rfl) t1 with ⟨h1, _⟩ | ⟨fa, l, cc, zs, h1, _, hl1, hm1, hz1, _, hcell, hw⟩
      · simp at h1
        subst h1
        exact ⟨⟨K, []⟩, ⟨c0, _, c1, none, 0, rfl, RowAt.nil, Nat.le_refl _, by omega, fun x h => by cases h⟩, by simpa [maxLen] using hK, Nat.zero_le _, fun t h => by cases h⟩
      · simp at h1
        subst h1
        have hs : IsStrs w (some fa) l cc zs := .inr ⟨_, rfl, hl1, hm1, by simpa using hz1, hcell, hw⟩
        have hln := argS_len zs l
        have hc := hs.caps
        refine ⟨⟨K, argS zs l⟩, ⟨c0, _, c1, some fa, cc, by rw [hln], hs.row, by rw [hln]; exact hc.1, hc.2, fun x h => Nat.zero_le _⟩, by simpa [maxLen] using hK, by rw [hln]; omega, hs.size⟩
    let f : Nat → Src := fun i => if h : i < n then Classical.choose (cells i h) else ⟨⟨#[]⟩, []⟩
    have hf' : ∀ i (h : i < n), (w.cell? (ad.add (i * 2)) = some (.string (f i).K) ∧ ∃ v, w.cell? (ad.add (i * 2 + 1)) = some v ∧ SlS w 0 v (f i).F) ∧ SrcOk 9223372036854775807 (f i) := by
      intro i h
      have := Classical.choose_spec (cells i h)
      simp only [f, dif_pos h]
      exact this
    refine ⟨(List.range n).map f, by simp, hl, hm, ?_, ?_⟩
    · intro i hi'
      have hin : i < n := by simpa using hi'
      obtain ⟨b, off, spot⟩ := ad
      obtain ⟨⟨h0, v, h1, h2⟩, _⟩ := hf' i hin
      have hspot : spot = none := by simpa [Addr.add] using World.cell?_spot (hf' 0 (by omega)).1.1
      subst hspot
      have ea : ∀ j, (⟨b, off, none⟩ : Addr).add j = ⟨b, off + j, none⟩ := fun j => by unfold Addr.add; split <;> simp_all
      rw [ea] at h0 h1
      rw [← Nat.add_assoc] at h1
      refine ⟨b, off, v, rfl, World.block_lt_of_cell? w _ h0, ?_, h1, ?_⟩
      · rw [h0]; simp
      · simpa using h2
    · intro s hs
      obtain ⟨i, hi', rfl⟩ := List.mem_map.1 hs
      exact (hf' i (List.mem_range.1 hi')).2
/-- The bytes of a source, taken off. -/
def szSrc (s : Src) (left : Int) : Int := if left - s.K.size < 0 then -1 else if szB s.F (left - s.K.size) < 0 then -1 else szB s.F (left - s.K.size)
def szSs : List Src → Int → Int
  | [], left => left
  | s :: l, left => if szSrc s left < 0 then -1 else szSs l (szSrc s left)
def szSrcs (S : List Src) (left : Int) : Int := if left - S.length < 0 then -1 else szSs S (left - S.length)
theorem szSrc_yes {s : Src} {left : Int} (h : 0 ≤ szSrc s left) (_h0 : 0 ≤ left) : szSrc s left ≤ left ∧ (s.K.size : Int) ≤ left ∧ (s.F.length : Int) ≤ left ∧ ∀ t ∈ s.F, (t.size : Int) ≤ left := by
  unfold szSrc at h ⊢
  split at h
  · omega
  · rename_i h1
    rw [if_neg h1]
    split at h
    · omega
    · rename_i h2
      rw [if_neg h2]
      have := szB_yes (l := s.F) (left := left - s.K.size) (by omega)
      have hm : ∀ t ∈ s.F, t.size ≤ (s.F.map ByteArray.size).sum := fun t ht => by
        have : ∀ (l : List Nat) (x : Nat), x ∈ l → x ≤ l.sum := by
          intro l
          induction l with
          | nil => intro x h; cases h
          | cons a l ih =>
            intro x h
            rw [List.sum_cons]
            rcases List.mem_cons.1 h with rfl | h
            · omega
            · have := ih x h; omega
        exact this _ _ (List.mem_map_of_mem ht)
      refine ⟨by omega, by omega, by omega, fun t ht => ?_⟩
      have := hm t ht
      omega
theorem szSs_yes : ∀ (S : List Src) (left : Int), 0 ≤ szSs S left → 0 ≤ left → ∀ s ∈ S, (s.K.size : Int) ≤ left ∧ (s.F.length : Int) ≤ left ∧ ∀ t ∈ s.F, (t.size : Int) ≤ left := by
  intro S
  induction S with
  | nil => intro left _ _ s hs; cases hs
  | cons s0 S ih =>
    intro left h h0 s hs
    unfold szSs at h
    split at h
    · omega
    · rename_i h1
      have hy := szSrc_yes (s := s0) (left := left) (by omega) h0
      rcases List.mem_cons.1 hs with rfl | hs
      · exact ⟨hy.2.1, hy.2.2.1, hy.2.2.2⟩
      · have := ih _ h (by omega) s hs
        refine ⟨by omega, by omega, fun t ht => ?_⟩
        have := this.2.2 t ht
        omega
theorem szSrcs_yes {S : List Src} {m : Nat} (h : 0 ≤ szSrcs S (m : Int)) : S.length ≤ m ∧ ∀ s ∈ S, SrcOk m s := by
  unfold szSrcs at h
  split at h
  · omega
  · refine ⟨by omega, fun s hs => ?_⟩
    have := szSs_yes S _ h (by omega) s hs
    refine ⟨by omega, by omega, fun t ht => ?_⟩
    have := this.2.2 t ht
    omega
theorem szSs_neg {l : List Src} {left : Int} {k : Nat} (h : k < l.length) : szSs (l.drop k) left = if szSrc l[k] left < 0 then -1 else szSs (l.drop (k + 1)) (szSrc l[k] left) := by
  rw [List.drop_eq_getElem_cons h]; rfl
theorem szSrc_le {s : Src} {left : Int} (h : ¬ szSrc s left < 0) (h0 : 0 ≤ left) : szSrc s left ≤ left := (szSrc_yes (by omega) h0).1
theorem ret_int {a b : Int} (h : a = b) : Ending.returned (.int .i64 a) = .returned (.int .i64 b) := by rw [h]

set_option maxHeartbeats 800000 in
theorem szSource_any (s : Src) (v : Value) (left : Int) (w : World) (hv : SlS w 0 v s.F) (hs : SrcOk 9223372036854775807 s) (_h0 : 0 ≤ left) (h1 : left ≤ 4611686018427387904) :
    Calls Try.prog 29 #[.agg #[.string s.K, v], .int .i64 left] w fun e w' => e = .returned (.int .i64 (szSrc s left)) ∧ Below w.heap.size w w' := by
  obtain ⟨fa, fc, rfl, hrow, hc1, hc2, _⟩ := hv
  have hK := hs.1
  have HF : Hid (∀ t ∈ s.F, t.size ≤ 9223372036854775807) := hs.2.2
  have HR := Lib.hid hrow
  have hal : ∀ o, Below w.heap.size w (w.alloc o) := fun o => (Below.refl _ _).alloc (Nat.le_refl _) o
  have HAL := Lib.hid hal
  clear hal hrow hs
  by_cases hl : left - (s.K.size : Int) < 0
  · have HV : Hid (szSrc s left = -1) := by show _ = _; unfold szSrc; rw [if_pos hl]
    go_enter Try.func29, Try.ntmps29
    go_wp2
    go_ret
    exact ⟨ret_int HV.out.symm, HAL.out _⟩
  · have HV : Hid (szSrc s left = if szB s.F (left - s.K.size) < 0 then -1 else szB s.F (left - s.K.size)) := by show _ = _; unfold szSrc; rw [if_neg hl]
    have CS : Hid (∀ W, RowAt W fa (s.F.map strV) → Calls Try.prog 42 #[.slice fa s.F.length fc, .int .i64 (left - s.K.size)] W fun e w' => e = .returned (.int .i64 (szB s.F (left - s.K.size))) ∧ W = w') := fun W h => szStringS_any fa _ fc s.F _ W h rfl (by omega) HF.out (by omega) (by omega)
    generalize szB s.F (left - s.K.size) = q at *
    go_enter Try.func29, Try.ntmps29
    go_wp2_with fail
    refine (CS.out _ (HR.out.below (Nat.le_refl _) (HAL.out _))).mono ?_
    rintro e w1 ⟨rfl, rfl⟩
    by_cases hq : q < 0
    · rw [if_pos hq] at HV
      go_wp2
      go_ret
      exact ⟨ret_int HV.out.symm, HAL.out _⟩
    · rw [if_neg hq] at HV
      go_wp2
      go_ret
      exact ⟨ret_int HV.out.symm, HAL.out _⟩

set_option maxHeartbeats 800000 in
theorem szSourceS_any (a : Option Addr) (n c : Nat) (S : List Src) (left : Int) (w : World) (h : SrcsAt w 0 a S) (hn : S.length = n) (hn' : n ≤ 9223372036854775807) (hs : ∀ s ∈ S, SrcOk 9223372036854775807 s) (h0 : 0 ≤ left) (h1 : left ≤ 4611686018427387904) :
    Calls Try.prog 12 #[.slice a n c, .int .i64 left] w fun e w' => e = .returned (.int .i64 (szSrcs S left)) ∧ Below w.heap.size w w' := by
  have H := Lib.hid h; have HN := Lib.hid hn; have HS := Lib.hid hs
  clear h hn hs
  by_cases hl : left - (n : Int) < 0
  · have HV : Hid (szSrcs S left = -1) := by show _ = _; unfold szSrcs; rw [HN.out, if_pos hl]
    go_enter Try.func12, Try.ntmps12
    go_wp2
    go_ret
    exact ⟨ret_int HV.out.symm, Below.refl _ _⟩
  · have HV : Hid (szSrcs S left = szSs S (left - n)) := by show _ = _; unfold szSrcs; rw [HN.out, if_neg hl]
    go_enter Try.func12, Try.ntmps12
    go_wp2
    go_loopw [1, 5] (fun l t wr => ∃ (k : Nat) (q : Int), k ≤ n ∧ t = .int .i64 (k : Int) ∧ l = .int .i64 q ∧ 0 ≤ q ∧ q ≤ left ∧ Hid (szSs (S.drop k) q = szSrcs S left) ∧ Below w.heap.size w wr) (fun _ t _ => n - (intOf t).toNat)
    case atStart => exact ⟨0, left - n, Nat.zero_le _, rfl, rfl, by omega, by omega, HV.out.symm, Below.refl _ _⟩
    case round =>
      obtain ⟨k, q, hk, rfl, rfl, hq0, hq1, HQ, hb⟩ := hrel
      by_cases hlt : k < n
      · have hks : k < S.length := by rw [HN.out]; exact hlt
        obtain ⟨b, off, v, rfl, hbl, x0, x1, x2⟩ := H.out.below hb k hks
        have HST := szSs_neg (l := S) (left := q) hks
        have HQ1 := HQ.out
        rw [HST] at HQ1
        have CZ := Lib.hid (szSource_any S[k] v q wr x2 (HS.out _ (List.getElem_mem _)) hq0 (by omega))
        have hle := @szSrc_le S[k] q
        clear HST x2 HQ
        generalize szSrc S[k] q = q2 at *
        generalize S[k] = s at *
        have HB := Lib.hid hb
        clear hb
        by_cases hn2 : q2 < 0
        · rw [if_pos hn2] at HQ1
          have HQ2 := Lib.hid HQ1
          clear HQ1
          go_wp2_with fail
          refine CZ.out.mono ?_
          rintro e w1 ⟨rfl, b1⟩
          go_wp2
          go_ret
          exact ⟨ret_int HQ2.out, HB.out.trans (b1.mono HB.out.size)⟩
        · rw [if_neg hn2] at HQ1
          have HQ2 := Lib.hid HQ1
          have hle2 := hle hn2 hq0
          clear HQ1
          go_wp2_with fail
          refine CZ.out.mono ?_
          rintro e w1 ⟨rfl, b1⟩
          have HB1 := Lib.hid (HB.out.trans (b1.mono HB.out.size))
          clear b1
          go_wp2
          go_roundw
          case rel => exact ⟨k + 1, q2, by omega, by go_num, rfl, by omega, by omega, HQ2.out, HB1.out⟩
          case measure => simp [intOf]; omega
      · obtain rfl : k = n := by omega
        have HR : Hid (q = szSrcs S left) := by
          have := HQ.out
          rw [List.drop_eq_nil_of_le (by rw [HN.out]; exact Nat.le_refl _)] at this
          exact this
        go_wp2
        go_ret
        exact ⟨ret_int HR.out, hb⟩
end Go.Proofs.Ytpplagecancccaa
