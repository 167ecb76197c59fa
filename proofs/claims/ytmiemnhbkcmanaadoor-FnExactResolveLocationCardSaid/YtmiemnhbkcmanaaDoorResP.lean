/- What is kept while a location is being made. -/
import Derived.Test.YtmiemnhbkcmanaaDoorRlI
import Derived.Test.YtmiemnhbkcmanaaDoorRes
import Derived.Test.YtmiemnhbkcmanaaDoorApart
namespace Go.Proofs.YtmiemnhbkcmanaaDoor
open Go.RowKit

/-- What ResolveLocation of the program returns. -/
def ResPost (T : Loc5) (w : World) (e : Ending) (w' : World) : Prop :=
  (∃ v, e = .returned (.tuple #[.agg #[.string T.1, .string T.2.1, v, .string T.2.2.2.1], .bool T.2.2.2.2]) ∧ w'.ownsRow w.heap.size 9 1 v T.2.2.1.length (T.2.2.1.map strV)) ∧ Below w.heap.size w w'
/-- What the reference's returns. -/
def RessPost (T : Loc5) (w : World) (e : Ending) (w' : World) : Prop :=
  (∃ a n c, e = .returned (.tuple #[.agg #[.string T.1, .string T.2.1, .slice a n c, .string T.2.2.2.1], .bool T.2.2.2.2]) ∧ T.2.2.1.length = n ∧ RowAt w' a (T.2.2.1.map strV) ∧ (a = none → c = 0)) ∧ Below w.heap.size w w'
/-- The location that is being made lies in the block ob, its path is a row of its own. -/
structure OutI (w0 w : World) (ob : Nat) (S H : ByteArray) (v : Value) (P : List ByteArray) (Q : ByteArray) : Prop where
  blk : w.heap[ob]? = some (.cells #[.string S, .string H, v, .string Q] 26 (0, 0))
  ge : w0.heap.size ≤ ob
  own : w.ownsRow w0.heap.size 9 1 v P.length (P.map strV)
  bel : Below w0.heap.size w0 w
theorem own_blk {w : World} {B k n : Nat} {e : TypeId} {v : Value} {l : List Value} (h : w.ownsRow B e k v n l) {b : Nat} (hb : v.ownBlock = some b) : ∃ cur, w.heap[b]? = some (.cells cur e (0, 0)) := by
  obtain ⟨_, h⟩ := h
  rcases h with ⟨hv, _⟩ | ⟨g, cap, cur, hv, _, hg, _⟩
  · subst hv; simp [Value.ownBlock] at hb
  · subst hv
    simp [Value.ownBlock] at hb
    subst hb
    exact ⟨cur, hg⟩
theorem OutI.ne {w0 w : World} {ob : Nat} {S H : ByteArray} {v : Value} {P : List ByteArray} {Q : ByteArray} (h : OutI w0 w ob S H v P Q) : v.ownBlock ≠ some ob := by
  intro e
  obtain ⟨cur, hc⟩ := own_blk h.own e
  rw [h.blk] at hc
  injection hc with hc
  injection hc with _ ht
  exact absurd ht (by decide)
theorem OutI.below {w0 w w' : World} {ob : Nat} {S H : ByteArray} {v : Value} {P : List ByteArray} {Q : ByteArray} (h : OutI w0 w ob S H v P Q) (hb : Below w.heap.size w w') : OutI w0 w' ob S H v P Q :=
  ⟨(hb.block ob (Array.getElem?_eq_some_iff.1 h.blk).1).trans h.blk, h.ge, own_below h.own hb, h.bel.trans (hb.mono h.bel.size)⟩
theorem OutI.setQ {w0 w : World} {ob : Nat} {S H : ByteArray} {v : Value} {P : List ByteArray} {Q : ByteArray} (h : OutI w0 w ob S H v P Q) (Q' : ByteArray) : OutI w0 (w.setCell ⟨ob, 3, none⟩ (.string Q')) ob S H v P Q' :=
  ⟨blkS 3 _ h.blk, h.ge, own_other h.own (grown_setCell (grown_refl w (some ob)) 3 _) (fun k hk e => h.ne (by rw [hk, ← e])), h.bel.setCell (p := ⟨ob, 3, none⟩) h.ge _⟩
theorem OutI.put {w0 w : World} {ob : Nat} {S H : ByteArray} {v v' : Value} {P' : List ByteArray} {Q : ByteArray} (h : w.heap[ob]? = some (.cells #[.string S, .string H, v, .string Q] 26 (0, 0))) (hge : w0.heap.size ≤ ob) (ho : w.ownsRow w0.heap.size 9 1 v' P'.length (P'.map strV)) (hb : Below w0.heap.size w0 w) : OutI w0 (w.setCell ⟨ob, 2, none⟩ v') ob S H v' P' Q := by
  refine ⟨blkS 2 _ h, hge, own_other ho (grown_setCell (grown_refl w (some ob)) 2 _) (fun k hk e => ?_), hb.setCell (p := ⟨ob, 2, none⟩) hge _⟩
  injection e with e
  subst e
  obtain ⟨cur, hc⟩ := own_blk ho hk
  rw [h] at hc
  injection hc with hc
  injection hc with _ ht
  exact absurd ht (by decide)
theorem OutI.fresh {w0 w : World} {S H : ByteArray} {v : Value} {P : List ByteArray} {Q : ByteArray} (ho : w.ownsRow w0.heap.size 9 1 v P.length (P.map strV)) (hb : Below w0.heap.size w0 w) : OutI w0 (w.alloc (.cells #[.string S, .string H, v, .string Q] 26 (0, 0))) w.heap.size S H v P Q :=
  ⟨heap_alloc_new w _, hb.size, own_below ho ((Below.refl _ _).alloc (Nat.le_refl _) _), hb.alloc hb.size _⟩
/-- A row appended to: the block of the location stays. -/
theorem OutI.grown {w0 w w' : World} {ob : Nat} {S H : ByteArray} {v : Value} {P : List ByteArray} {Q : ByteArray} (h : OutI w0 w ob S H v P Q) (hg : w.grownBy w' v.ownBlock) : w'.heap[ob]? = some (.cells #[.string S, .string H, v, .string Q] 26 (0, 0)) ∧ Below w0.heap.size w0 w' :=
  ⟨blk_keep h.blk hg h.ne, h.bel.grown hg h.bel.size (fun q hq => (own_ge h.own q hq).1)⟩
theorem OutI.lt {w0 w : World} {ob : Nat} {S H : ByteArray} {v : Value} {P : List ByteArray} {Q : ByteArray} (h : OutI w0 w ob S H v P Q) : ob < w.heap.size := (Array.getElem?_eq_some_iff.1 h.blk).1
/-- A new location. -/
theorem OutI.new {w0 w : World} {ob : Nat} {S H : ByteArray} {v : Value} {P : List ByteArray} {Q : ByteArray} {y0 y1 y2 y3 : Value} (h : w.heap[ob]? = some (.cells #[y0, y1, y2, y3] 26 (0, 0))) (hge : w0.heap.size ≤ ob) (ho : w.ownsRow w0.heap.size 9 1 v P.length (P.map strV)) (hb : Below w0.heap.size w0 w) :
    OutI w0 ((((w.setCell ⟨ob, 0, none⟩ (.string S)).setCell ⟨ob, 1, none⟩ (.string H)).setCell ⟨ob, 2, none⟩ v).setCell ⟨ob, 3, none⟩ (.string Q)) ob S H v P Q := by
  obtain ⟨f, g, bb, _⟩ := loc_put (.string S) (.string H) v (.string Q) h
  refine ⟨f, hge, own_other ho g (fun k hk e => ?_), hb.trans (bb _ hge)⟩
  injection e with e
  subst e
  obtain ⟨cur, hc⟩ := own_blk ho hk
  rw [h] at hc
  injection hc with hc
  injection hc with _ ht
  exact absurd ht (by decide)
/-- A row of strings stays while a cell of a location is written. -/
theorem own_setob {w : World} {ob B n i : Nat} {C : Array Value} {x v : Value} {l : List Value} (h : w.heap[ob]? = some (.cells C 26 (0, 0))) (ho : w.ownsRow B 9 1 v n l) : (w.setCell ⟨ob, i, none⟩ x).ownsRow B 9 1 v n l := by
  refine own_other ho (grown_setCell (grown_refl w (some ob)) i x) (fun j hj e => ?_)
  injection e with e
  subst e
  obtain ⟨cur, hc⟩ := own_blk ho hj
  rw [h] at hc
  injection hc with hc
  injection hc with _ ht
  exact absurd ht (by decide)
theorem row_grown {w w' : World} {b : Nat} {a : Option Addr} {l : List Value} (h : RowAt w a l) (hg : w.grownBy w' (some b)) (hne : ∀ x, a = some x → 0 < l.length → x.block ≠ b) : RowAt w' a l := by
  rcases l with _ | ⟨y, l⟩
  · exact RowAt.nil
  · exact h.grown hg (fun j x e1 e2 => by injection e1 with e1; rw [← e1]; exact hne x e2 (by simp))
/-- One word more behind the path of the location that is being made, in a world that a region has made. -/
theorem OutI.push {wb wr W w5 : World} {ob pb o : Nat} {S H : ByteArray} {v v5 : Value} {Rr : List ByteArray} {Q X : ByteArray} {l : List Value} (h : OutI wb wr ob S H v Rr Q) (hr : RowAt wr (some ⟨pb, o, none⟩) l) (hn : v.ownBlock ≠ some pb) (hp : pb < wr.heap.size) (hne : ob ≠ pb) (hW : Below wr.heap.size wr W)
    (o5 : w5.ownsRow wb.heap.size 9 1 v5 (Rr.length + 1) (Rr.map strV ++ [X].map strV)) (g5 : W.grownBy w5 v.ownBlock) (e5 : v5.ownBlock = v.ownBlock ∨ v5.ownBlock = some W.heap.size) :
    ∃ a5 c5, v5 = .slice a5 (Rr.length + 1) c5 ∧ w5.cell? ⟨ob, 2, none⟩ = some v ∧ w5.frozen? ⟨ob, 2, none⟩ = false ∧ OutI wb (w5.setCell ⟨ob, 2, none⟩ v5) ob S H v5 (Rr ++ [X]) Q ∧ RowAt (w5.setCell ⟨ob, 2, none⟩ v5) (some ⟨pb, o, none⟩) l ∧ v5.ownBlock ≠ some pb ∧ pb < (w5.setCell ⟨ob, 2, none⟩ v5).heap.size := by
  obtain ⟨a5, c5, hv, _⟩ := own_formn o5
  have hb5 := blk_keep ((hW.block ob h.lt).trans h.blk) g5 h.ne
  have hbel : Below wb.heap.size wb w5 := (h.bel.trans (hW.mono h.bel.size)).grown g5 (Nat.le_trans h.bel.size hW.size) (fun q hq => (own_ge h.own q hq).1)
  have hr5 : RowAt w5 (some ⟨pb, o, none⟩) l := (hr.below (Nat.le_refl _) hW).grown g5 (fun j y e1 e2 e3 => by
    injection e2 with e2
    rw [← e2] at e3
    exact hn (by rw [e1, ← e3]))
  refine ⟨a5, c5, hv, blkC hb5 2 _ rfl, blkF hb5 2, OutI.put hb5 h.ge (own_len_eq o5 (by simp) (by simp)) hbel, row_grown hr5 (grown_setCell (grown_refl w5 (some ob)) 2 v5) (fun y e _ => by injection e with e; rw [← e]; exact Ne.symm hne), fun e => ?_, ?_⟩
  · rcases e5 with e5 | e5
    · exact hn (by rw [← e5]; exact e)
    · rw [e5] at e
      injection e with e
      have := hW.size
      omega
  · have h1 := g5.size
    have h2 := hW.size
    have h3 : (w5.setCell ⟨ob, 2, none⟩ v5).heap.size = w5.heap.size := by simp
    omega
theorem cut_head {l : List UInt8} (h : l ≠ []) : (Lib.cut l [63]).1 = [] ↔ l.head? = some 63 := by
  rcases l with _ | ⟨x, t⟩
  · exact absurd rfl h
  rw [List.head?_cons, Option.some.injEq]
  by_cases hx : x = 63
  · subst hx
    have := cut_pre 63 [] t [] List.not_mem_nil
    rw [List.nil_append] at this
    have e : (63 :: [] ++ t : List UInt8) = 63 :: t := rfl
    rw [e] at this
    rw [this]
    simp
  · refine ⟨fun e => absurd e ?_, fun e => absurd e hx⟩
    by_cases hm : 63 ∈ (x :: t)
    · obtain ⟨pr, bs, he, hn⟩ := List.eq_append_cons_of_mem hm
      have := cut_pre 63 [] bs pr hn
      have e2 : pr ++ (63 :: [] ++ bs) = x :: t := he.symm
      rw [e2] at this
      rw [this]
      rcases pr with _ | ⟨y, pr⟩
      · rw [List.nil_append] at he
        injection he with h1 h2
        exact absurd h1 hx
      · exact fun e => by cases e
    · rw [cut_none1 63 _ hm]
      exact fun e => by cases e
theorem pre_slash (bf : List UInt8) : Lib.hasPrefix bf [47] = decide (bf.head? = some 47) ∧ Lib.trimPrefix bf [47] = pathOf bf := by
  have hp : Lib.hasPrefix bf [47] = decide (bf.head? = some 47) := by
    unfold Lib.hasPrefix
    rcases bf with _ | ⟨x, t⟩
    · rfl
    · rw [Bool.eq_iff_iff]
      simp [List.isPrefixOf]
      exact eq_comm
  refine ⟨hp, ?_⟩
  unfold Lib.trimPrefix pathOf
  rw [hp]
  by_cases h : bf.head? = some 47
  · rw [decide_eq_true h, if_pos rfl, if_pos h, ← List.drop_one]; rfl
  · rw [decide_eq_false h, if_neg (by simp), if_neg h]
theorem foldW_len : ∀ (W : List (List UInt8)) (R : List ByteArray), (foldW W R).length ≤ R.length + W.length := by
  intro W
  induction W with
  | nil => intro R; rw [foldW]; simp
  | cons x r ih =>
    intro R
    rw [foldW]
    have h1 := ih (stepW r.isEmpty R x)
    have h2 : (stepW r.isEmpty R x).length ≤ R.length + 1 := by
      unfold stepW
      split
      · omega
      · split
        · rw [List.length_dropLast]; omega
        · rw [List.length_append]; simp
    simp only [List.length_cons]
    omega
end Go.Proofs.YtmiemnhbkcmanaaDoor
