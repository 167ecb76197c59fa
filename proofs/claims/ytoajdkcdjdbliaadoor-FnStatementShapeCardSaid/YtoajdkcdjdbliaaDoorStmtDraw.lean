/- The drawn statement of the laws on statements. -/
import Derived.Test.YtoajdkcdjdbliaaDoorWord
import Derived.Deep.RegionWith
import Derived.Deep.DeepCutAuto
namespace Go.Proofs.YtoajdkcdjdbliaaDoor
open Go.RowKit

theorem sep_lits : ∀ x ∈ (#[Value.string ⟨#[32, 105, 110, 32]⟩, .string ⟨#[44, 32]⟩] : Array Value).toList, Short 4 x := by
  intro x hx
  simp only [List.mem_cons, List.not_mem_nil, or_false] at hx
  rcases hx with rfl | rfl <;> exact ⟨_, rfl, by decide⟩

set_option maxHeartbeats 1600000 in
theorem stmt_any (w : World) (R k : Nat) (h : Rdr w R k) (hk : 90 ≤ k) :
    Calls Tryd.prog 40 #[.pointer (some ⟨R, 0, none⟩)] w (StrPost w R k 90 200) := by
  have hRl := h.lt
  go_enter Tryd.func40, Tryd.ntmps40
  go_wp2_with fail
  refine (pick_any _ _ k _ h (by omega) (by omega) (by omega)).mono ?_
  rintro e w1 ⟨v, rfl, hv, hg1, hr1⟩
  have hv4 : v < 4 := by omega
  have HG1 := Lib.hid hg1
  have HR1 := Lib.hid hr1
  clear hg1 hr1 h hv
  go_wp2
  go_loopw [3, 4] (fun o t wr => ∃ (j : Nat) (x : ByteArray), o = .string x ∧ t = .int .i64 (j : Int) ∧ j < 4 ∧ x.size + 30 * j ≤ 95 ∧ w.grownBy wr (some R) ∧ Rdr wr R (k - 90 + 20 * j)) (fun _ t _ => (intOf t).toNat)
  case atStart => exact ⟨v, _, rfl, rfl, hv4, (by show 5 + 30 * v ≤ 95; omega), HG1.out, HR1.out.less (by omega)⟩
  case round =>
    obtain ⟨j, x, rfl, rfl, hj, hx, hg, hr⟩ := hrel
    have HG := Lib.hid hg
    have HR := Lib.hid hr
    have hws := hg.size
    clear hg hr
    by_cases h0 : 0 < j
    · go_wp2_with fail
      refine (word_any _ _ (k - 90 + 20 * j) _ HR.out (by omega) (by omega) (by omega)).mono ?_
      rintro e w4 ⟨s, rfl, hs, hg4, hr4⟩
      have hq := qtR_len (bl s)
      rw [bl_len, ← mkS_size] at hq
      have HG4 := Lib.hid (HG.out.trans hg4)
      have HR4 := Lib.hid hr4
      have hw4 := hg4.size
      clear hg4 hr4
      go_wp2_with fail
      refine (spec_QuoteText s _ (by omega)).mono ?_
      rintro e w5 ⟨rfl, rfl⟩
      obtain ⟨z, hz⟩ : ∃ z, z = mkS (qtR (bl s)) := ⟨_, rfl⟩
      rw [← hz] at hq ⊢
      clear hz
      go_wp2_with fail
      refine (pick_any _ _ _ _ (HR4.out.alloc_ _) (by omega) (by omega) (by omega)).mono ?_
      rintro e w6 ⟨v6, rfl, hv6, hg6, hr6⟩
      have hv2 : v6 < 2 := by omega
      obtain ⟨y', hy, y, rfl, hys⟩ := lit_at hg6 (by intro e; injection e with e; omega) sep_lits v6 (by simpa using hv2)
      have HG6 := Lib.hid ((HG4.out.trans (World.grownBy_alloc _ _ _)).trans hg6)
      have HR6 := Lib.hid (hr6.less (k' := k - 90 + 20 * (j - 1)) (by omega))
      clear hg6 hr6 hv6
      have hsz : (x ++ z ++ y).size + 30 * (j - 1) ≤ 95 := by rw [ByteArray.size_append, ByteArray.size_append]; omega
      have HSZ := Lib.hid hsz
      clear hsz
      go_wp2
      go_roundw
      case rel => exact ⟨j - 1, _, rfl, by go_num, by omega, HSZ.out, HG6.out, HR6.out⟩
      case measure => simp [intOf]; omega
    · obtain rfl : j = 0 := by omega
      go_wp2
      go_ret
      exact ⟨x, rfl, by omega, HG.out, HR.out.less (by omega)⟩
end Go.Proofs.YtoajdkcdjdbliaaDoor
