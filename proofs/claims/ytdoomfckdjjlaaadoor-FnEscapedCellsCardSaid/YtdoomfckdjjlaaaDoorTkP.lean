/- Plain law: the markup of a table, read, are its tokens. -/
import Derived.Test.YtdoomfckdjjlaaaDoorTk
import Derived.Test.YtdoomfckdjjlaaaDoorPrintT
namespace Go.Proofs.YtdoomfckdjjlaaaDoor
open Go.RowKit

theorem escB_no (b : UInt8) : ∀ x ∈ escB b, x ≠ 60 := by
  intro x hx
  unfold escB at hx
  rcases ent_cases b with (rfl | rfl | rfl | rfl | rfl) | ⟨h0, _, h60, _⟩
  · have e : (if entB 38 = [] then [38] else entB 38) = [38, 97, 109, 112, 59] := rfl
    rw [e] at hx
    intro h; subst h; revert hx; decide
  · have e : (if entB 60 = [] then [60] else entB 60) = [38, 108, 116, 59] := rfl
    rw [e] at hx
    intro h; subst h; revert hx; decide
  · have e : (if entB 62 = [] then [62] else entB 62) = [38, 103, 116, 59] := rfl
    rw [e] at hx
    intro h; subst h; revert hx; decide
  · have e : (if entB 34 = [] then [34] else entB 34) = [38, 113, 117, 111, 116, 59] := rfl
    rw [e] at hx
    intro h; subst h; revert hx; decide
  · have e : (if entB 39 = [] then [39] else entB 39) = [38, 35, 51, 57, 59] := rfl
    rw [e] at hx
    intro h; subst h; revert hx; decide
  · rw [if_pos h0, List.mem_singleton] at hx
    subst hx; exact h60
theorem escR_no (l : List UInt8) : ∀ x ∈ escR l, x ≠ 60 := by
  intro x hx
  obtain ⟨b, _, hb⟩ := List.mem_flatMap.1 hx
  exact escB_no b x hb
theorem escR_nil {l : List UInt8} (h : escR l = []) : l = [] := by
  rcases l with _ | ⟨b, l⟩
  · rfl
  · have e : escR (b :: l) = escB b ++ escR l := rfl
    rw [e] at h
    have h1 := (escB_len b).2
    rw [(List.append_eq_nil_iff.1 h).1] at h1
    simp at h1
theorem run_text (out : List Tok) : ∀ (m raw : List UInt8), (∀ x ∈ m, x ≠ 60) → runC ⟨out, 0, [], raw⟩ m = some ⟨out, 0, [], raw ++ m⟩ := by
  intro m
  induction m with
  | nil => intro raw _; rw [List.append_nil]; rfl
  | cons b m ih =>
    intro raw h
    have hb : b ≠ 60 := h b (by simp)
    have hs : stepC ⟨out, 0, [], raw⟩ b = some ⟨out, 0, [], raw ++ [b]⟩ := by
      unfold stepC
      rw [if_pos rfl, if_neg hb]
    rw [runC, hs, Option.bind_some, ih _ (fun x hx => h x (by simp [hx])), List.append_assoc]
    rfl
theorem run_open {N : ByteArray} (h : N = tableS ∨ N = trS ∨ N = tdS) (c : Cf) (hM : c.M = 0) : runC c ([60] ++ bl N ++ [62]) = some ⟨flushC c ++ [⟨2, N, ⟨#[]⟩⟩], 0, [], []⟩ := by
  obtain ⟨out, M, T, raw⟩ := c
  obtain rfl : M = 0 := hM
  have h1 : stepC ⟨out, 0, T, raw⟩ 60 = some ⟨flushC ⟨out, 0, T, raw⟩, 1, [], []⟩ := rfl
  generalize flushC ⟨out, 0, T, raw⟩ = F at h1
  rcases h with rfl | rfl | rfl
  · show runC _ [60, 116, 97, 98, 108, 101, 62] = _
    rw [runC, h1]; rfl
  · show runC _ [60, 116, 114, 62] = _
    rw [runC, h1]; rfl
  · show runC _ [60, 116, 100, 62] = _
    rw [runC, h1]; rfl
theorem run_end {N : ByteArray} (h : N = tableS ∨ N = trS ∨ N = tdS) (c : Cf) (hM : c.M = 0) : runC c ([60, 47] ++ bl N ++ [62]) = some ⟨flushC c ++ [⟨3, N, ⟨#[]⟩⟩], 0, [], []⟩ := by
  obtain ⟨out, M, T, raw⟩ := c
  obtain rfl : M = 0 := hM
  have h1 : stepC ⟨out, 0, T, raw⟩ 60 = some ⟨flushC ⟨out, 0, T, raw⟩, 1, [], []⟩ := rfl
  generalize flushC ⟨out, 0, T, raw⟩ = F at h1
  rcases h with rfl | rfl | rfl
  · show runC _ [60, 47, 116, 97, 98, 108, 101, 62] = _
    rw [runC, h1]; rfl
  · show runC _ [60, 47, 116, 114, 62] = _
    rw [runC, h1]; rfl
  · show runC _ [60, 47, 116, 100, 62] = _
    rw [runC, h1]; rfl
theorem run_print : ∀ (X : List Tok) (k : Nat) (out : List Tok) (raw : List UInt8), (∀ t ∈ X, GoodTok t) → noTT k X = true → (k ≠ 1 → raw = []) →
    ∃ z, runC ⟨out, 0, [], raw⟩ (printR X) = some z ∧ z.M = 0 ∧ flushC z = flushC ⟨out, 0, [], raw⟩ ++ X := by
  intro X
  induction X with
  | nil => intro k out raw _ _ _; exact ⟨⟨out, 0, [], raw⟩, rfl, rfl, by rw [List.append_nil]⟩
  | cons t X ih =>
    intro k out raw hg hn hr
    have e : printR (t :: X) = printT t ++ printR X := rfl
    rw [noTT, Bool.and_eq_true] at hn
    have hg' : ∀ t ∈ X, GoodTok t := fun u hu => hg u (by simp [hu])
    rw [e, runC_app]
    rcases hg t (by simp) with ⟨h1, h2, h3, _⟩ | ⟨h1, h2, h3⟩
    · have hk : k ≠ 1 := by
        intro hk
        have := hn.1
        rw [hk, h1] at this
        revert this; decide
      obtain rfl := hr hk
      have hp : printT t = escR (bl t.V) := by unfold printT; rw [if_pos h1]
      rw [hp, run_text out _ [] (escR_no _), Option.bind_some, List.nil_append]
      obtain ⟨z, z1, z2, z3⟩ := ih t.K out (escR (bl t.V)) hg' hn.2 (fun h => absurd h1 h)
      refine ⟨z, z1, z2, ?_⟩
      have hne : escR (bl t.V) ≠ [] := by
        intro h
        exact h3 (bl_inj (a := t.V) (b := ⟨#[]⟩) (escR_nil h))
      have f1 : flushC ⟨out, 0, [], escR (bl t.V)⟩ = out ++ [t] := by
        unfold flushC
        rw [if_neg hne]
        simp only [unescR_escR, mkS_bl]
        obtain ⟨tK, tN, tV⟩ := t
        simp only at h1 h2
        rw [h1, h2]
      have f0 : flushC ⟨out, 0, [], []⟩ = out := by unfold flushC; rw [if_pos rfl]
      rw [z3, f1, f0, List.append_assoc]; rfl
    · have h1' : t.K ≠ 1 := by rcases h1 with h | h <;> omega
      have hrun : runC ⟨out, 0, [], raw⟩ (printT t) = some ⟨flushC ⟨out, 0, [], raw⟩ ++ [t], 0, [], []⟩ := by
        obtain ⟨tK, tN, tV⟩ := t
        simp only at h1 h2 h3
        subst h3
        rcases h1 with rfl | rfl
        · exact run_open h2 _ rfl
        · exact run_end h2 _ rfl
      obtain ⟨z, z1, z2, z3⟩ := ih t.K (flushC ⟨out, 0, [], raw⟩ ++ [t]) [] hg' hn.2 (fun _ => rfl)
      refine ⟨z, by rw [hrun, Option.bind_some]; exact z1, z2, ?_⟩
      have f0 : flushC ⟨flushC ⟨out, 0, [], raw⟩ ++ [t], 0, [], []⟩ = flushC ⟨out, 0, [], raw⟩ ++ [t] := by unfold flushC; rw [if_pos rfl]
      rw [z3, f0, List.append_assoc]; rfl
/-- The markup of a table, read. -/
theorem run_tab {T : List (List ByteArray)} (h : tabB T = true) : ∃ z, runC cf0 (printR (tabToks T)) = some z ∧ z.M = 0 ∧ flushC z = tabToks T := by
  obtain ⟨z, h1, h2, h3⟩ := run_print (tabToks T) 0 [] [] (good_tab h) (tab_noTT T) (fun _ => rfl)
  exact ⟨z, h1, h2, by rw [h3]; unfold flushC; rw [if_pos rfl]; rfl⟩
end Go.Proofs.YtdoomfckdjjlaaaDoor
