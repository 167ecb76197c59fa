/- Drawing slices: what an owned row, the reader and the frame do while the other turns. -/
import Derived.Test.YtdoomfckdjjlaaaDraw
import Derived.Test.YtdoomfckdjjlaaaOwn
namespace Go.Proofs.Ytdoomfckdjjlaaa
open Go.RowKit

theorem own_R {w w' : World} {B R : Nat} {e : TypeId} {v : Value} {n : Nat} {l : List Value} (h : w.ownsRow B e 1 v n l) (hg : w.grownBy w' (some R)) (hR : R < B) : w'.ownsRow B e 1 v n l :=
  own_other h hg (fun k hk e => by have := own_ge h k hk; injection e with e; omega)
theorem grown_below {a b c : World} {row : Option Nat} (h : a.grownBy b row) (hb : Below a.heap.size b c) : a.grownBy c row :=
  ⟨hb.os.trans h.os, hb.tape.trans h.tape, hb.output.trans h.output, Nat.le_trans h.size hb.size, fun i hi hn => (hb.block i hi).trans (h.block i hi hn)⟩
theorem Rdr.below {w w' : World} {R k B : Nat} (h : Rdr w R k) (hb : Below B w w') (hB : R < B) : Rdr w' R k := by
  obtain ⟨a, n, c, p, hR, hp, hn, hc⟩ := h
  refine ⟨a, n, c, p, (hb.block R hB).trans hR, hp, hn, fun i hi => ?_⟩
  obtain ⟨b, off, ha, hbR, z, hz, hcz⟩ := hc i hi
  exact ⟨b, off, ha, hbR, z, hz, (hb.cell (p := ⟨b, off + i, none⟩) (by show b < B; omega)).trans hcz⟩
theorem Rdr.alloc_ {w : World} {R k : Nat} (h : Rdr w R k) (o : Obj) : Rdr (w.alloc o) R k := h.kept (World.grownBy_alloc _ _ none) (by simp)
theorem below_R {w w' : World} {R B : Nat} (h : w.grownBy w' (some R)) (hB : B ≤ w.heap.size) (hR : B ≤ R) : Below B w w' :=
  below_of_grown h hB (by intro q hq; injection hq with hq; omega)
end Go.Proofs.Ytdoomfckdjjlaaa
