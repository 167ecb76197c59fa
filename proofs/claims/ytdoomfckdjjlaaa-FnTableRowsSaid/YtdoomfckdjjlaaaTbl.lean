/- Tables: slices of slices of strings; those that come in; the laws' helpers over them. (Not to be imported beside XSrc, which has SlS too.) -/
import Derived.Test.YtdoomfckdjjlaaaOwnN
import Derived.Test.YtdoomfckdjjlaaaSliceArg
import Derived.Test.YtdoomfckdjjlaaaStrs
import Derived.Deep.Slices
namespace Go.Proofs.Ytdoomfckdjjlaaa
open Go.ChangeShapes Go.WideShapes Go.Deep Go.RowKit

/-- A value is a slice of these strings; it does not lie in a block below B. -/
def SlS (w : World) (B : Nat) (v : Value) (F : List ByteArray) : Prop :=
  ∃ fa fc, v = .slice fa F.length fc ∧ RowAt w fa (F.map strV) ∧ F.length ≤ fc ∧ fc ≤ 9223372036854775807 ∧ (fa = none → fc = 0) ∧ ∀ x : Addr, fa = some x → B ≤ x.block
theorem SlS.below {w w' : World} {B : Nat} {v : Value} {F : List ByteArray} (h : SlS w B v F) (hb : Below w.heap.size w w') : SlS w' B v F := by
  obtain ⟨fa, fc, rfl, h1, h2, h3, h4, h5⟩ := h
  exact ⟨fa, fc, rfl, h1.below (Nat.le_refl _) hb, h2, h3, h4, h5⟩
theorem SlS.mono {w : World} {B B' : Nat} {v : Value} {F : List ByteArray} (h : SlS w B v F) (hb : B' ≤ B) : SlS w B' v F := by
  obtain ⟨fa, fc, rfl, h1, h2, h3, h5, h4⟩ := h
  exact ⟨fa, fc, rfl, h1, h2, h3, h5, fun x e => Nat.le_trans hb (h4 x e)⟩
theorem SlS.of_own {w : World} {B : Nat} {v : Value} {F : List ByteArray} {n : Nat} (h : w.ownsRow B 9 1 v n (F.map strV)) (hn : F.length = n) : SlS w B v F := by
  subst hn
  obtain ⟨fa, fc, rfl, h1, h2, h3, h4, h5⟩ := ownN_formn h
  exact ⟨fa, fc, rfl, h1, h2, h3, h4, fun x e => (h5 x e).1⟩
/-- A row of slices of strings. -/
def TabsAt (w : World) (B : Nat) (a : Option Addr) (T : List (List ByteArray)) : Prop :=
  ∀ i (h : i < T.length), ∃ b off v, a = some ⟨b, off, none⟩ ∧ b < w.heap.size ∧ w.cell? ⟨b, off + i, none⟩ = some v ∧ SlS w B v T[i]
theorem TabsAt.below {w w' : World} {B : Nat} {a : Option Addr} {T : List (List ByteArray)} (h : TabsAt w B a T) (hb : Below w.heap.size w w') : TabsAt w' B a T := fun i hi => by
  obtain ⟨b, off, v, h1, h2, h3, h4⟩ := h i hi
  exact ⟨b, off, v, h1, Nat.lt_of_lt_of_le h2 hb.size, (hb.cell (p := ⟨b, off + i, none⟩) h2).trans h3, h4.below hb⟩
theorem TabsAt.mono {w : World} {B B' : Nat} {a : Option Addr} {T : List (List ByteArray)} (h : TabsAt w B a T) (hb : B' ≤ B) : TabsAt w B' a T := fun i hi => by
  obtain ⟨b, off, v, h1, h2, h3, h4⟩ := h i hi
  exact ⟨b, off, v, h1, h2, h3, h4.mono hb⟩
/-- Bounds on a table: rows, cells, bytes. -/
def TabOkN (m : Nat) (T : List (List ByteArray)) : Prop := T.length ≤ m ∧ ∀ r ∈ T, r.length ≤ m ∧ ∀ t ∈ r, t.size ≤ m
def IsTabs (w : World) (a : Option Addr) (len cap : Nat) (z : List (List ByteArray)) : Prop :=
  z.length = len ∧ len ≤ cap ∧ cap ≤ maxLen ∧ TabsAt w 0 a z ∧ TabOkN 9223372036854775807 z
theorem IsTabs.caps {w : World} {a : Option Addr} {n c : Nat} {z : List (List ByteArray)} (h : IsTabs w a n c z) : n ≤ c ∧ c ≤ 9223372036854775807 := ⟨h.2.1, by simpa [maxLen] using h.2.2.1⟩
theorem tabs_of_trod {H : Type} {enc : TypeId × Value → H} {w : World} {base : Nat} {held : Bool} {fuel : Nat} {a : Option Addr} {n c : Nat} {x : DataW H × List MemPlace}
    (hf : DataW.trod enc Try.prog w base (fun _ => true) held fuel 23 [.slice a n c] = some x) : ∃ z, IsTabs w a n c z := by
  have hC : Try.prog.cellsOf 31 = 1 := by kernel_rfl
  rcases open_slice1 Try.underlying23 hC hf with ⟨hcs, _⟩ | ⟨ad, len, cap, m, fu, V, D, Pl, hcs, hb, hl, hm, hmm, hx, hi⟩
  · injection hcs with h1 _
    injection h1 with h1 h2 h3
    subst h1; subst h2; subst h3
    exact ⟨[], rfl, Nat.le_refl _, Nat.zero_le _, fun i h => by simp at h, Nat.zero_le _, fun r h => by cases h⟩
  · injection hcs with h1 _
    injection h1 with h1 h2 h3
    subst h1; subst h2; subst h3
    have hnm : n ≤ m := by rw [hmm]; split <;> omega
    have cells : ∀ i, i < n → ∃ F : List ByteArray, (∃ v, w.cell? (ad.add i) = some v ∧ SlS w 0 v F) ∧ F.length ≤ 9223372036854775807 ∧ ∀ t ∈ F, t.size ≤ 9223372036854775807 := by
      intro i hi'
      obtain ⟨hv, t1⟩ := hi i (by omega)
      generalize V i = vi at hv t1
      rcases open_strings Try.underlying31 Try.underlying9 (by kernel_rfl) t1 with ⟨h1, _⟩ | ⟨fa, l, cc, zs, h1, _, hl1, hm1, hz1, _, hcell, hw⟩
      · simp at h1
        subst h1
        exact ⟨[], ⟨_, hv, none, 0, rfl, RowAt.nil, Nat.le_refl _, by omega, (fun _ => rfl), fun x h => by cases h⟩, Nat.zero_le _, fun t h => by cases h⟩
      · simp at h1
        subst h1
        have hs : IsStrs w (some fa) l cc zs := .inr ⟨_, rfl, hl1, hm1, by simpa using hz1, hcell, hw⟩
        have hln := argS_len zs l
        have hc := hs.caps
        exact ⟨argS zs l, ⟨_, hv, some fa, cc, by rw [hln], hs.row, by rw [hln]; exact hc.1, hc.2, (fun e => by cases e), fun x h => Nat.zero_le _⟩, by rw [hln]; omega, hs.size⟩
    let f : Nat → List ByteArray := fun i => if h : i < n then Classical.choose (cells i h) else []
    have hf' : ∀ i (h : i < n), (∃ v, w.cell? (ad.add i) = some v ∧ SlS w 0 v (f i)) ∧ (f i).length ≤ 9223372036854775807 ∧ ∀ t ∈ f i, t.size ≤ 9223372036854775807 := by
      intro i h
      have := Classical.choose_spec (cells i h)
      simp only [f, dif_pos h]
      exact this
    refine ⟨(List.range n).map f, by simp, hl, hm, ?_, by rw [List.length_map, List.length_range]; have := hm; simp only [maxLen] at this; omega, ?_⟩
    · intro i hi'
      have hin : i < n := by simpa using hi'
      obtain ⟨b, off, spot⟩ := ad
      obtain ⟨⟨v, h0, h2⟩, _⟩ := hf' i hin
      have hspot : spot = none := by
        obtain ⟨⟨v0, hv0, _⟩, _⟩ := hf' 0 (by omega)
        simpa [Addr.add] using World.cell?_spot hv0
      subst hspot
      have ea : (⟨b, off, none⟩ : Addr).add i = ⟨b, off + i, none⟩ := by unfold Addr.add; split <;> simp_all
      rw [ea] at h0
      refine ⟨b, off, v, rfl, World.block_lt_of_cell? w _ h0, h0, ?_⟩
      simpa using h2
    · intro s hs
      obtain ⟨i, hi', rfl⟩ := List.mem_map.1 hs
      exact (hf' i (List.mem_range.1 hi')).2
/-- The bytes of a table, taken off. -/
def szTs : List (List ByteArray) → Int → Int
  | [], left => left
  | r :: l, left => if szB r left < 0 then -1 else szTs l (szB r left)
def szTabs (T : List (List ByteArray)) (left : Int) : Int := if left - T.length < 0 then -1 else szTs T (left - T.length)
theorem szB_bounds {l : List ByteArray} {left : Int} (h : 0 ≤ szB l left) (_h0 : 0 ≤ left) : szB l left ≤ left ∧ (l.length : Int) ≤ left ∧ ∀ t ∈ l, (t.size : Int) ≤ left := by
  have := szB_yes (l := l) (left := left) h
  have hm : ∀ t ∈ l, t.size ≤ (l.map ByteArray.size).sum := fun t ht => by
    have : ∀ (l : List Nat) (x : Nat), x ∈ l → x ≤ l.sum := by
      intro l
      induction l with
      | nil => intro x h; cases h
      | cons a l ih =>
        intro x h
        rw [List.sum_cons]
        rcases List.mem_cons.1 h with rfl | h
        · omega
        · have := ih x h; omega
    exact this _ _ (List.mem_map_of_mem ht)
  refine ⟨by omega, by omega, fun t ht => ?_⟩
  have := hm t ht
  omega
theorem szTs_yes : ∀ (T : List (List ByteArray)) (left : Int), 0 ≤ szTs T left → 0 ≤ left → ∀ r ∈ T, (r.length : Int) ≤ left ∧ ∀ t ∈ r, (t.size : Int) ≤ left := by
  intro T
  induction T with
  | nil => intro left _ _ s hs; cases hs
  | cons r0 T ih =>
    intro left h h0 r hr
    unfold szTs at h
    split at h
    · omega
    · rename_i h1
      have hy := szB_bounds (l := r0) (left := left) (by omega) h0
      rcases List.mem_cons.1 hr with rfl | hr
      · exact hy.2
      · have := ih _ h (by omega) r hr
        refine ⟨by omega, fun t ht => ?_⟩
        have := this.2 t ht
        omega
theorem szTabs_yes {T : List (List ByteArray)} {m : Nat} (h : 0 ≤ szTabs T (m : Int)) : TabOkN m T := by
  unfold szTabs at h
  split at h
  · omega
  · refine ⟨by omega, fun r hr => ?_⟩
    have := szTs_yes T _ h (by omega) r hr
    refine ⟨by omega, fun t ht => ?_⟩
    have := this.2 t ht
    omega
theorem szTs_neg {l : List (List ByteArray)} {left : Int} {k : Nat} (h : k < l.length) : szTs (l.drop k) left = if szB l[k] left < 0 then -1 else szTs (l.drop (k + 1)) (szB l[k] left) := by
  rw [List.drop_eq_getElem_cons h]; rfl
theorem szB_le' {l : List ByteArray} {left : Int} (h : ¬ szB l left < 0) (h0 : 0 ≤ left) : szB l left ≤ left := (szB_bounds (by omega) h0).1
theorem ret_intT {a b : Int} (h : a = b) : Ending.returned (.int .i64 a) = .returned (.int .i64 b) := by rw [h]

set_option maxHeartbeats 800000 in
theorem szStringSS_any (a : Option Addr) (n c : Nat) (T : List (List ByteArray)) (left : Int) (w : World) (h : TabsAt w 0 a T) (hn : T.length = n) (hn' : n ≤ 9223372036854775807) (hs : ∀ r ∈ T, r.length ≤ 9223372036854775807 ∧ ∀ t ∈ r, t.size ≤ 9223372036854775807) (h0 : 0 ≤ left) (h1 : left ≤ 4611686018427387904) :
    Calls Try.prog 20 #[.slice a n c, .int .i64 left] w fun e w' => e = .returned (.int .i64 (szTabs T left)) ∧ w = w' := by
  have H := Lib.hid h; have HN := Lib.hid hn; have HS := Lib.hid hs
  clear h hn hs
  by_cases hl : left - (n : Int) < 0
  · have HV : Hid (szTabs T left = -1) := by show _ = _; unfold szTabs; rw [HN.out, if_pos hl]
    go_enter Try.func20, Try.ntmps20
    go_wp2
    go_ret
    exact ⟨ret_intT HV.out.symm, rfl⟩
  · have HV : Hid (szTabs T left = szTs T (left - n)) := by show _ = _; unfold szTabs; rw [HN.out, if_neg hl]
    go_enter Try.func20, Try.ntmps20
    go_wp2
    go_loop [1, 5] (fun l t => ∃ (k : Nat) (q : Int), k ≤ n ∧ t = .int .i64 (k : Int) ∧ l = .int .i64 q ∧ 0 ≤ q ∧ q ≤ left ∧ Hid (szTs (T.drop k) q = szTabs T left)) (fun _ t => n - (intOf t).toNat)
    case atStart => exact ⟨0, left - n, Nat.zero_le _, rfl, rfl, by omega, by omega, HV.out.symm⟩
    case round =>
      obtain ⟨k, q, hk, rfl, rfl, hq0, hq1, HQ⟩ := hrel
      by_cases hlt : k < n
      · have hks : k < T.length := by rw [HN.out]; exact hlt
        obtain ⟨b, off, v, rfl, hbl, x0, x1⟩ := H.out k hks
        obtain ⟨fa, fc, rfl, hrow, hc1, hc2, _⟩ := x1
        have hso := HS.out _ (List.getElem_mem hks)
        have HST := szTs_neg (l := T) (left := q) hks
        have HQ1 := HQ.out
        rw [HST] at HQ1
        have CZ := Lib.hid (szStringS_any fa _ fc T[k] q w hrow rfl hso.1 hso.2 hq0 (by omega))
        have hle := @szB_le' T[k] q
        clear HST hrow HQ hso
        generalize szB T[k] q = q2 at *
        generalize T[k].length = fl at *
        by_cases hn2 : q2 < 0
        · rw [if_pos hn2] at HQ1
          have HQ2 := Lib.hid HQ1
          clear HQ1
          go_wp2_with fail
          refine CZ.out.mono ?_
          rintro e w1 ⟨rfl, rfl⟩
          go_wp2
          go_ret
          exact ⟨ret_intT HQ2.out, rfl⟩
        · rw [if_neg hn2] at HQ1
          have HQ2 := Lib.hid HQ1
          have hle2 := hle hn2 hq0
          clear HQ1
          go_wp2_with fail
          refine CZ.out.mono ?_
          rintro e w1 ⟨rfl, rfl⟩
          go_wp2
          go_round
          case rel => exact ⟨k + 1, q2, by omega, by go_num, rfl, by omega, by omega, HQ2.out⟩
          case measure => simp [intOf]; omega
      · obtain rfl : k = n := by omega
        have HR : Hid (q = szTabs T left) := by
          have := HQ.out
          rw [List.drop_eq_nil_of_le (by rw [HN.out]; exact Nat.le_refl _)] at this
          exact this
        go_wp2
        go_ret
        exact ⟨ret_intT HR.out, rfl⟩
end Go.Proofs.Ytdoomfckdjjlaaa
