/- The machine of modes, plainly; the program's LowerText at one byte, and 'longer'. -/
import Derived.Test.YtdoomfckdjjlaaaHost
import Derived.Test.YtdoomfckdjjlaaaStrs
import Derived.Deep.RegionHeld3
import Derived.BigRegion
import Derived.Lib.SlBytesConst
namespace Go.Proofs.Ytdoomfckdjjlaaa
open Go.RowKit

structure St where
  M : Nat
  T : List UInt8
  A : List UInt8
  E : Bool
def stC (s : St) : Array Value := #[.int .i64 (s.M : Int), .string (mkS s.T), .string (mkS s.A), .bool s.E]
def stV (s : St) : Value := .agg (stC s)
def badS : St := ⟨15, [], [], false⟩
def lowC (b : UInt8) : UInt8 := if 65 ≤ b.toNat ∧ b.toNat ≤ 90 then b + 32 else b
def longT (s : St) (b : UInt8) : St := if 10 < (s.T ++ [lowC b]).length then badS else { s with T := s.T ++ [lowC b] }
def longA (s : St) (b : UInt8) : St := if 10 < (s.A ++ [lowC b]).length then badS else { s with A := s.A ++ [lowC b] }
theorem st_info : (Try.prog.info? 57).map (fun i => (i.zero, i.size, i.bytes)) = some (some (.agg #[.int .i64 0, .string ⟨#[]⟩, .string ⟨#[]⟩, .bool false]), 4, 48) := by kernel_rfl
theorem st_cells {w : World} {b : Nat} {s : St} (h : w.heap[b]? = some (.cells (stC s) 57 (0, 0))) : w.cell? ⟨b, 0, none⟩ = some (.int .i64 (s.M : Int)) ∧ w.cell? ⟨b, 1, none⟩ = some (.string (mkS s.T)) ∧ w.cell? ⟨b, 2, none⟩ = some (.string (mkS s.A)) ∧ w.cell? ⟨b, 3, none⟩ = some (.bool s.E) := by
  refine ⟨?_, ?_, ?_, ?_⟩ <;> (rw [cell_of_row w b _ _ _ _ h]; rfl)
theorem low_wrap {b : UInt8} (h : 65 ≤ b.toNat ∧ b.toNat ≤ 90) : ((b + 32).toNat : Int) = (b.toNat : Int) + 32 := by
  rw [UInt8.toNat_add]
  have : (32 : UInt8).toNat = 32 := rfl
  omega
theorem one_bytes (b : UInt8) (w : World) : ∃ (cp : Nat) (C : Array Value), (convert 9 22 (.string (mkS [b]))).run Try.prog w = .ok (.slice (some ⟨w.heap.size, 0, none⟩) 1 cp) (w.drew.alloc (.cells C 5 (C.size, C.size + 1))) ∧ C[0]? = some (.int .u8 (b.toNat : Int)) ∧ 1 ≤ cp := by
  refine ⟨_, _, run_bytes_of_string (P := Try.prog) w 9 22 5 (mkS [b]) Try.underlying9 Try.underlying22 Try.underlying5, ?_, ?_⟩
  · exact bytesRow_at (mkS [b]) _ 0 (by show 0 < 1; omega)
  · exact grownCap_ge w 1 0 5
theorem one_back (b : UInt8) (blk : Nat) (w : World) (cp : Nat) (h0 : w.cell? ⟨blk, 0, none⟩ = some (.int .u8 (b.toNat : Int))) :
    (convert 22 9 (.slice (some ⟨blk, 0, none⟩) 1 cp)).run Try.prog w = .ok (.string (mkS [b])) w :=
  run_convert_bytes_back (P := Try.prog) w 22 9 5 ⟨blk, 0, none⟩ cp [b] Try.underlying22 Try.underlying5 Try.underlying9 (fun j hj => by
    match j, hj with
    | 0, _ => exact h0)
set_option maxRecDepth 100000 in
set_option maxHeartbeats 1600000 in
theorem lower_one (b : UInt8) (w : World) : Calls Try.prog 36 #[.string (mkS [b])] w fun e w' => e = .returned (.string (mkS [lowC b])) ∧ Below w.heap.size w w' := by
  obtain ⟨cp, C, hrun, hC0, hcp⟩ := one_bytes b w
  have k0 : (w.alloc (.cells C 5 (C.size, C.size + 1))).cell? ⟨w.heap.size, 0, none⟩ = some (.int .u8 (b.toNat : Int)) := (World.cell?_alloc_mark _ _ _ _ _).trans hC0
  have hsz : 0 < C.size := (Array.getElem?_eq_some_iff.1 hC0).1
  have f0 : (w.alloc (.cells C 5 (C.size, C.size + 1))).frozen? ⟨w.heap.size, 0, none⟩ = false := by rw [World.frozen?_alloc_mark, decide_eq_false (by omega)]; rfl
  have HB := Lib.hid (fun X => (((Below.refl w.heap.size w).alloc (Nat.le_refl _) (.cells C 5 (C.size, C.size + 1))).setCell (p := ⟨w.heap.size, 0, none⟩) (Nat.le_refl _) X).drew)
  have HB0 := Lib.hid (((Below.refl w.heap.size w).alloc (Nat.le_refl _) (.cells C 5 (C.size, C.size + 1))).drew)
  clear hC0 hsz
  by_cases h : 65 ≤ b.toNat ∧ b.toNat ≤ 90
  · have HL : Hid (lowC b = b + 32) := by show _ = _; unfold lowC; rw [if_pos h]
    have hw := low_wrap h
    have h1 : (65 : Int) ≤ (b.toNat : Int) := by omega
    have h2 : (b.toNat : Int) ≤ 90 := by omega
    have kb := one_back (b + 32) w.heap.size
    rw [hw] at kb
    clear h hw
    go_enter Try.func36, Try.ntmps36
    go_wp2
    go_rounds 2
    go_ret
    exact ⟨by rw [HL.out]; rfl, HB.out _⟩
  · have HL : Hid (lowC b = b) := by show _ = _; unfold lowC; rw [if_neg h]
    have kb := one_back b w.heap.size
    by_cases h1 : 65 ≤ b.toNat
    · have h2 : ¬ (b.toNat : Int) ≤ 90 := by omega
      have h3 : (65 : Int) ≤ (b.toNat : Int) := by omega
      clear h
      go_enter Try.func36, Try.ntmps36
      go_wp2
      go_rounds 2
      go_ret
      exact ⟨by rw [HL.out]; rfl, HB0.out⟩
    · have h3 : ¬ (65 : Int) ≤ (b.toNat : Int) := by omega
      clear h
      go_enter Try.func36, Try.ntmps36
      go_wp2
      go_rounds 2
      go_ret
      exact ⟨by rw [HL.out]; rfl, HB0.out⟩
theorem zero_cells {w : World} {b : Nat} (h : w.heap[b]? = some (.cells #[.int .i64 0, .string ⟨#[]⟩, .string ⟨#[]⟩, .bool false] 57 (0, 0))) : w.cell? ⟨b, 0, none⟩ = some (.int .i64 0) ∧ w.cell? ⟨b, 1, none⟩ = some (.string ⟨#[]⟩) ∧ w.cell? ⟨b, 2, none⟩ = some (.string ⟨#[]⟩) ∧ w.cell? ⟨b, 3, none⟩ = some (.bool false) := by
  refine ⟨?_, ?_, ?_, ?_⟩ <;> (rw [cell_of_row w b _ _ _ _ h]; rfl)
theorem row_frozen {w : World} {b : Nat} {C : Array Value} {t : TypeId} (h : w.heap[b]? = some (.cells C t (0, 0))) (i : Nat) : w.frozen? ⟨b, i, none⟩ = false := by simp [World.frozen?, h]
theorem one_strD (w : World) (b : UInt8) : (convert 22 9 (.slice (some ⟨w.heap.size, 0, none⟩) 1 1)).run Try.prog (w.alloc (.cells #[.int .u8 (b.toNat : Int)] 5 (0, 0))).drew = .ok (.string (mkS [b])) (w.alloc (.cells #[.int .u8 (b.toNat : Int)] 5 (0, 0))).drew :=
  conv_row _ _ 1 1 [b] ((own_formn_row (own_new w #[.int .u8 (b.toNat : Int)] 5 1 rfl (by omega))).below (Nat.le_refl _) (Below.refl _ _).drew) rfl
theorem bld_ltS {w : World} {b : Nat} {o : Obj} (h : w.heap[b]? = some o) : b < w.heap.size := (Array.getElem?_eq_some_iff.1 h).1
end Go.Proofs.Ytdoomfckdjjlaaa
