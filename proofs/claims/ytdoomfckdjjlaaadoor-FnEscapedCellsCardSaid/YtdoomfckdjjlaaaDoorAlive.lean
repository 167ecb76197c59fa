/- The fixed question 'alive' answers true. -/
import Derived.Test.YtdoomfckdjjlaaaDoorBase
import Derived.Lib.SlBytesConst
namespace Go.Proofs.YtdoomfckdjjlaaaDoor
open Go.RowKit

theorem ab_bytes (w : World) : ∃ (cp : Nat) (C : Array Value), (convert 9 22 (.string ⟨#[65, 98]⟩)).run Tryd.prog w = .ok (.slice (some ⟨w.heap.size, 0, none⟩) 2 cp) (w.drew.alloc (.cells C 5 (C.size, C.size + 1))) ∧
    C[0]? = some (.int .u8 65) ∧ C[1]? = some (.int .u8 98) ∧ 2 ≤ cp := by
  refine ⟨_, _, run_bytes_of_string (P := Tryd.prog) w 9 22 5 ⟨#[65, 98]⟩ Tryd.underlying9 Tryd.underlying22 Tryd.underlying5, ?_, ?_, ?_⟩
  · exact bytesRow_at ⟨#[65, 98]⟩ _ 0 (by decide)
  · exact bytesRow_at ⟨#[65, 98]⟩ _ 1 (by decide)
  · exact grownCap_ge w 2 0 5

theorem lower_back (b : Nat) (w : World) (cp : Nat) (h0 : w.cell? ⟨b, 0, none⟩ = some (.int .u8 97)) (h1 : w.cell? ⟨b, 1, none⟩ = some (.int .u8 98)) :
    (convert 22 9 (.slice (some ⟨b, 0, none⟩) 2 cp)).run Tryd.prog w = .ok (.string ⟨#[97, 98]⟩) w :=
  run_convert_bytes_back (P := Tryd.prog) w 22 9 5 ⟨b, 0, none⟩ cp [97, 98] Tryd.underlying22 Tryd.underlying5 Tryd.underlying9 (fun j hj => by
    match j, hj with
    | 0, _ => exact h0
    | 1, _ => exact h1)

theorem lower_Ab (w : World) : Calls Tryd.prog 17 #[.string ⟨#[65, 98]⟩] w fun e w' => e = .returned (.string ⟨#[97, 98]⟩) ∧ Below w.heap.size w w' := by
  obtain ⟨cp, C, hrun, hC0, hC1, hcp⟩ := ab_bytes w
  have k0 : (w.alloc (.cells C 5 (C.size, C.size + 1))).cell? ⟨w.heap.size, 0, none⟩ = some (.int .u8 65) := (World.cell?_alloc_mark _ _ _ _ _).trans hC0
  have k1 : (w.alloc (.cells C 5 (C.size, C.size + 1))).cell? ⟨w.heap.size, 1, none⟩ = some (.int .u8 98) := (World.cell?_alloc_mark _ _ _ _ _).trans hC1
  have hsz : 1 < C.size := (Array.getElem?_eq_some_iff.1 hC1).1
  have f0 : (w.alloc (.cells C 5 (C.size, C.size + 1))).frozen? ⟨w.heap.size, 0, none⟩ = false := by rw [World.frozen?_alloc_mark, decide_eq_false (by omega)]; rfl
  have kb := lower_back w.heap.size
  clear hC0 hC1 hsz
  have hbel : ∀ X, Below w.heap.size w (((w.alloc (.cells C 5 (C.size, C.size + 1))).setCell ⟨w.heap.size, 0, none⟩ X).drew) := fun X => (((Below.refl _ _).alloc (Nat.le_refl _) _).setCell (Nat.le_refl _) _).drew
  have HB := Lib.hid hbel; clear hbel
  go_enter Tryd.func17, Tryd.ntmps17
  go_wp2
  go_rounds 3
  go_ret
  exact ⟨rfl, HB.out _⟩
theorem alive_any (w : World) : Calls Tryd.prog 8 #[] w fun e w' => e = .returned (.bool true) ∧ Below w.heap.size w w' := by
  go_enter Tryd.func8, Tryd.ntmps8
  go_wp2_with (go_at_call 17; refine (lower_Ab _).mono ?_; rintro e w1 ⟨rfl, hb⟩)
  go_ret
  exact ⟨rfl, hb⟩
end Go.Proofs.YtdoomfckdjjlaaaDoor
