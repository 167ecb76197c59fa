/- Rows of bytes: reading, making strings of them, adding one byte behind an owned row. For seats whose laws hold no helpers over slices. -/
import Derived.Test.YtmiemnhbkcmanaaDoorOwn
import Derived.Test.YtmiemnhbkcmanaaDoorApp
import Derived.Test.YtmiemnhbkcmanaaDoorStr
namespace Go.Proofs.YtmiemnhbkcmanaaDoor
open Go.RowKit

def byteV (b : UInt8) : Value := .int .u8 (b.toNat : Int)
theorem getElem_map_byteV (l : List UInt8) (i : Nat) (h : i < (l.map byteV).length) : (l.map byteV)[i] = .int .u8 ((l[i]'(by simpa using h)).toNat : Int) := by simp [byteV]
/-- The bytes l can be read from the address a on. -/
theorem row_byte {w : World} {a : Option Addr} {l : List UInt8} (h : RowAt w a (l.map byteV)) (i : Nat) (hi : i < l.length) :
    ∃ b off, a = some ⟨b, off, none⟩ ∧ b < w.heap.size ∧ w.cell? ⟨b, off + i, none⟩ = some (.int .u8 (l[i].toNat : Int)) := by
  obtain ⟨b, off, ha, hlt, hc⟩ := h i (by simpa using hi)
  exact ⟨b, off, ha, hlt, by rw [hc, getElem_map_byteV]⟩
theorem info_u8 : (Tryd.prog.info? 5).map (fun i => (i.zero, i.size, i.bytes)) = some (some (.int .u8 0), 1, 1) := by kernel_rfl
theorem bytes_one (l : List UInt8) : ∀ u ∈ l.map byteV, u.oneCell' = true := by
  intro u hu
  obtain ⟨b, _, rfl⟩ := List.mem_map.1 hu
  rfl
theorem own_formn_row {w : World} {B : Nat} {e : TypeId} {a : Option Addr} {m n c : Nat} {l : List Value} (h : w.ownsRow B e 1 (.slice a m c) n l) : RowAt w a l := by
  obtain ⟨a', c', hv, hr, _⟩ := own_formn h
  injection hv with h1
  subst h1
  exact hr

/-- A new block is an owned row. -/
theorem own_new (w : World) (C : Array Value) (e : TypeId) (n : Nat) (hn : C.size = n) (hm : n ≤ 9223372036854775807) :
    (w.alloc (.cells C e (0, 0))).ownsRow w.heap.size e 1 (.slice (some ⟨w.heap.size, 0, none⟩) n n) n C.toList :=
  ⟨by simp [hn], .inr ⟨w.heap.size, n, C, rfl, Nat.le_refl _, heap_alloc_new w _, Nat.le_refl _, by simpa [maxLen] using hm, by omega, by rw [Nat.mul_one, ← hn, ← Array.length_toList, List.take_length]⟩⟩
theorem conv_row (w : World) (a : Option Addr) (n c : Nat) (l : List UInt8) (h : RowAt w a (l.map byteV)) (hn : l.length = n) :
    (convert 68 9 (.slice a n c)).run Tryd.prog w = .ok (.string (mkS l)) w := by
  subst hn
  rcases a with _ | ad
  · have : l = [] := by
      rcases l with _ | ⟨x, l⟩
      · rfl
      · obtain ⟨b, off, ha, _⟩ := h 0 (by simp)
        cases ha
    subst this
    exact run_convert_bytes_nil (P := Tryd.prog) (w := w) 68 5 Tryd.underlying68 Tryd.underlying5 0 c 9 Tryd.underlying9
  · refine run_convert_bytes_back (P := Tryd.prog) w 68 9 5 ad c l Tryd.underlying68 Tryd.underlying5 Tryd.underlying9 (fun j hj => ?_)
    obtain ⟨b, off, ha, _, hc⟩ := row_byte h j hj
    injection ha with ha
    subst ha
    have e : (⟨b, off, none⟩ : Addr).add j = ⟨b, off + j, none⟩ := by unfold Addr.add; split <;> simp_all
    rw [e, hc]

/-- One byte more behind an owned row of bytes: the row literal that holds it has just been laid. -/
theorem wpList_push {wr : World} {ops : Array Oper} {rest : List Oper} {o : Oper} {a : Act} {Q : Exit → Act → World → Prop} (s x : Operand) (B : Nat) (b : UInt8) (v : Value) (acc : List UInt8)
    (own : wr.ownsRow B 5 1 v acc.length (acc.map byteV)) (hB : B ≤ wr.heap.size) (hsz : acc.length ≤ 4611686018427387904 / 65536) (hgd : o.guard = none)
    (ho : o.op = .call { callee := .builtin .append, args := #[s, x], argTypes := #[68, 68] }) (hs : a.eval s = v) (hx : a.eval x = .slice (some ⟨wr.heap.size, 0, none⟩) 1 1)
    (h : ∀ v' w', w'.ownsRow B 5 1 v' (acc ++ [b]).length ((acc ++ [b]).map byteV) → Below B wr w' → wpList Tryd.prog ops Q rest (a.put o.dst v') w') :
    wpList Tryd.prog ops Q (o :: rest) a (wr.alloc (.cells #[.int .u8 (b.toNat : Int)] 5 (0, 0))) := by
  obtain ⟨i0, hi, hz0, hz1, hz2⟩ := info_parts info_u8
  have hal : Below wr.heap.size wr (wr.alloc (.cells #[.int .u8 (b.toNat : Int)] 5 (0, 0))) := (Below.refl _ _).alloc (Nat.le_refl _) _
  refine wpList_append_row hgd s x _ ho B 5 i0 _ 1 Tryd.underlying68 hi hz0 hz1 hz2 rfl v acc.length (acc.map byteV) hs (own_below own hal) (some ⟨wr.heap.size, 0, none⟩) 1 1 ([b].map byteV) hx (by intro e; cases e)
    (own_formn_row (own_new wr #[.int .u8 (b.toNat : Int)] 5 1 rfl (by omega))) rfl (bytes_one [b]) (by omega) (by omega) (by simp; omega) ?_
  intro v' w' o' g' _
  refine h v' w' ?_ ?_
  · rw [List.length_append, List.map_append]
    exact o'
  · exact (((Below.refl B wr).alloc hB _)).grown g' (by simp; omega) (fun q hq => (own_ge own q hq).1)
end Go.Proofs.YtmiemnhbkcmanaaDoor
