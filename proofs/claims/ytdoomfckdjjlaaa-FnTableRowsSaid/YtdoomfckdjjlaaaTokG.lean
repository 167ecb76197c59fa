/- impl.Tokenize for all texts (printed by gen_tokg.py). -/
import Derived.Test.YtdoomfckdjjlaaaTkG
import Derived.Test.YtdoomfckdjjlaaaTRI
namespace Go.Proofs.Ytdoomfckdjjlaaa
open Go.RowKit

def sigP (t : TokP) : Tok × Nat := (t.core, t.p)
def nowK (M : Nat) : Int := if 2 ≤ M ∧ M ≤ 8 then 2 else 0
def TokAns (w : World) (r : Option (List (Tok × Nat))) (e : Ending) (w' : World) : Prop :=
  match r with
  | some o => TkPost w (fun L => L.map sigP = o) e w'
  | none => e = .returned (.tuple #[.slice none 0 0, .bool false]) ∧ Below w.heap.size w w'
theorem tokAns_none {w w' : World} {r : Option (List (Tok × Nat))} (h : r = none) (hb : Below w.heap.size w w') : TokAns w r (.returned (.tuple #[.slice none 0 0, .bool false])) w' := by subst h; exact ⟨rfl, hb⟩
theorem unescR_len (l : List UInt8) : (unescR l).length ≤ l.length := unescF_len _ _
theorem tg_start (w : World) : TkG w (.slice (some ⟨w.heap.size, 0, none⟩) 0 0) (.slice (some ⟨w.heap.size + 1 + 1, 0, none⟩) 0 0) [] [] zeroS #[.int .i64 0, .string ⟨#[]⟩, .string ⟨#[]⟩, .slice none 0 0] (.slice none 0 0) [] (w.heap.size + 1) zeroS
    ((((w.alloc (.cells #[] 53 (0, 0))).alloc (.cells #[.int .i64 0, .string ⟨#[]⟩, .string ⟨#[]⟩, .bool false] 57 (0, 0))).alloc (.cells #[] 5 (0, 0))).alloc (.cells #[.int .i64 0, .string ⟨#[]⟩, .string ⟨#[]⟩, .slice none 0 0] 53 (0, 0))) := by
  obtain ⟨⟨p0, p1, p2⟩, bx⟩ := three_new w (.cells #[] 53 (0, 0)) (.cells #[.int .i64 0, .string ⟨#[]⟩, .string ⟨#[]⟩, .bool false] 57 (0, 0)) (.cells #[] 5 (0, 0))
  have hsz : (((w.alloc (.cells #[] 53 (0, 0))).alloc (.cells #[.int .i64 0, .string ⟨#[]⟩, .string ⟨#[]⟩, .bool false] 57 (0, 0))).alloc (.cells #[] 5 (0, 0))).heap.size = w.heap.size + 1 + 1 + 1 := by simp
  have pn := heap_alloc_new (((w.alloc (.cells #[] 53 (0, 0))).alloc (.cells #[.int .i64 0, .string ⟨#[]⟩, .string ⟨#[]⟩, .bool false] 57 (0, 0))).alloc (.cells #[] 5 (0, 0))) (.cells #[.int .i64 0, .string ⟨#[]⟩, .string ⟨#[]⟩, .slice none 0 0] 53 (0, 0))
  rw [hsz] at pn
  have old : ∀ {i : Nat} {o : Obj}, (((w.alloc (.cells #[] 53 (0, 0))).alloc (.cells #[.int .i64 0, .string ⟨#[]⟩, .string ⟨#[]⟩, .bool false] 57 (0, 0))).alloc (.cells #[] 5 (0, 0))).heap[i]? = some o → ((((w.alloc (.cells #[] 53 (0, 0))).alloc (.cells #[.int .i64 0, .string ⟨#[]⟩, .string ⟨#[]⟩, .bool false] 57 (0, 0))).alloc (.cells #[] 5 (0, 0))).alloc (.cells #[.int .i64 0, .string ⟨#[]⟩, .string ⟨#[]⟩, .slice none 0 0] 53 (0, 0))).heap[i]? = some o := fun h => (Lib.alloc_old _ _ _ (bld_ltS h)).trans h
  refine ⟨⟨rfl, .inr ⟨_, 0, _, rfl, Nat.le_refl _, old p0, Nat.le_refl _, Nat.zero_le _, rfl, rfl⟩⟩, ?_, ⟨rfl, .inr ⟨_, 0, _, rfl, by omega, old p2, Nat.le_refl _, Nat.zero_le _, rfl, rfl⟩⟩, old p1, pn, World.ownsRow_nil _ _ _ _, old p1, bx.alloc (by rw [hsz]; omega) _⟩
  intro e
  injection e with e
  simp only at e
  omega
/-- What holds at the head of a round. -/
structure RdI (w : World) (s : ByteArray) (k : Nat) (c : CfI) (L : List TokP) (pv : Value) (P : List (ByteArray × ByteArray)) (out raw : Value) (wr : World) : Prop where
  run : runI ci0 ((bl s).take k) = some c
  ok : CfIOk c
  sig : L.map sigP = c.out
  len : P.length = c.p
  vals : ∀ x ∈ P, x.2.size ≤ k
  texts : ∀ t ∈ L, t.V.size ≤ 1048576
  mem : TkG w out raw L c.raw c.s #[.int .i64 (nowK c.s.M), .string ⟨#[]⟩, .string ⟨#[]⟩, pv] pv P (w.heap.size + 1) c.s wr
theorem sig_snoc {L : List TokP} {o : List (Tok × Nat)} {t : TokP} {x : Tok × Nat} (h : L.map sigP = o) (hx : sigP t = x) : (L ++ [t]).map sigP = o ++ [x] := by rw [List.map_append, h, ← hx]; rfl
theorem text_snoc {L : List TokP} {t : TokP} (h : ∀ t ∈ L, t.V.size ≤ 1048576) (ht : t.V.size ≤ 1048576) : ∀ u ∈ L ++ [t], u.V.size ≤ 1048576 := by
  intro u hu
  rcases List.mem_append.1 hu with hu | hu
  · exact h u hu
  · rw [List.mem_singleton] at hu; subst hu; exact ht
theorem vals_more {P : List (ByteArray × ByteArray)} {k : Nat} (h : ∀ x ∈ P, x.2.size ≤ k) : ∀ x ∈ P, x.2.size ≤ k + 1 := fun x hx => Nat.le_succ_of_le (h x hx)
theorem ownM {w : World} {B k n m : Nat} {e : TypeId} {v : Value} {l : List Value} (h : w.ownsRow B e k v n l) (hn : n = m) : w.ownsRow B e k v m l := hn ▸ h
theorem app_one (y : ByteArray) (b : UInt8) : (y ++ mkS [b]).size = y.size + 1 := by rw [ByteArray.size_append, mkS_size]; rfl
theorem stepM_less (T A : List UInt8) (E : Bool) (b : UInt8) : (stepM ⟨0, T, A, E⟩ b).M = 0 ∨ (stepM ⟨0, T, A, E⟩ b).M = 1 := by
  unfold stepM
  simp only [if_true]
  split <;> simp
theorem stepM_name (T A : List UInt8) (E : Bool) (b : UInt8) : (stepM ⟨9, T, A, E⟩ b).M = 0 ∨ (stepM ⟨9, T, A, E⟩ b).M = 9 ∨ (stepM ⟨9, T, A, E⟩ b).M = 15 := by
  unfold stepM
  simp only [Nat.reduceEqDiff, if_true, if_false, or_self]
  split
  · simp [zeroS]
  · split
    · unfold longT; split <;> simp [badS]
    · simp [badS]
theorem stepM_say (T A : List UInt8) (E : Bool) (b : UInt8) : (stepM ⟨10, T, A, E⟩ b).M = 0 ∨ (stepM ⟨10, T, A, E⟩ b).M = 10 := by
  unfold stepM
  simp only [Nat.reduceEqDiff, if_true, if_false, or_self]
  split <;> simp [zeroS]
theorem row_butlast {w : World} {a : Option Addr} {l : List UInt8} (h : RowAt w a (l.map byteV)) : RowAt w a (l.dropLast.map byteV) := by
  intro i hi
  have hi' : i < (l.map byteV).length := by simp at hi ⊢; omega
  obtain ⟨b, off, h1, h2, h3⟩ := h i hi'
  refine ⟨b, off, h1, h2, ?_⟩
  rw [h3]
  simp [List.getElem_dropLast]
set_option maxRecDepth 100000 in
set_option maxHeartbeats 51200000 in
theorem impl_TokenizeG (s : ByteArray) (w : World) (hs : s.size ≤ 1048576) :
    Calls Try.prog 17 #[.string s] w (TokAns w (tokI (bl s))) := by
  rcases hv : textB (bl s) with _ | _
  · have CV := Lib.hid (fun W => (hv ▸ impl_TextValid s W (by omega) : Calls Try.prog 40 #[.string s] W fun e w' => e = .returned (.bool false) ∧ W = w'))
    have HT : Hid (tokI (bl s) = none) := by show _ = _; unfold tokI; rw [if_neg (by rw [hv]; simp)]
    clear hv
    go_enter Try.func17, Try.ntmps17
    go_wp2_with fail
    refine (CV.out _).mono ?_
    rintro e w1 ⟨rfl, rfl⟩
    go_wp2
    exact bodyPost_ret (v := .tuple #[.slice none 0 0, .bool false]) (by simp [results, Try.results17, go_sem]) rfl (tokAns_none HT.out (Below.refl _ _))
  have hs6 : s.size ≤ 600 := textB_size hv
  have CV := Lib.hid (fun W => (hv ▸ impl_TextValid s W (by omega) : Calls Try.prog 40 #[.string s] W fun e w' => e = .returned (.bool true) ∧ W = w'))
  have TS := Lib.hid (tg_start w)
  have HT : Hid (tokI (bl s) = (runI ci0 (bl s)).bind endI) := by show _ = _; unfold tokI; rw [if_pos hv]
  clear hv hs
  go_enter Try.func17, Try.ntmps17
  go_wp2_with fail
  refine (CV.out _).mono ?_
  rintro e w1 ⟨rfl, rfl⟩
  go_wp2
  go_loopw [4, 6, 8] (fun out raw t wr => ∃ (k : Nat) (c : CfI) (L : List TokP) (pv : Value) (P : List (ByteArray × ByteArray)), k ≤ s.size ∧ t = .int .i64 (k : Int) ∧ c.raw.length ≤ k ∧ L.length ≤ k ∧ P.length ≤ k ∧ Hid (RdI w s k c L pv P out raw wr)) (fun _ _ t _ => s.size - (intOf t).toNat)
  case atStart => exact ⟨0, ci0, [], .slice none 0 0, [], Nat.zero_le _, rfl, Nat.le_refl _, Nat.le_refl _, Nat.le_refl _, rfl, ⟨val_zero, (by intro h; exact absurd h (by decide)), (by intro _; rfl)⟩, rfl, rfl, (by intro x hx; cases hx), (by intro x hx; cases hx), TS.out⟩
  case round =>
    clear TS CV
    obtain ⟨k, c, L, pv, P, hk, rfl, hrl, hol, hpl, RD⟩ := hrel
    by_cases hks : k < s.size
    · have hi : (k : Int) < (s.size : Int) := by omega
      have hk0 : (0 : Int) ≤ (k : Int) := by omega
      have hcl := stepI_class c s[k]
      have HRN := Lib.hid (runI_next hks RD.out.run)
      have HOK := Lib.hid (fun c' (h : stepI c s[k] = some c') => RD.out.ok.next h)
      have HV := Lib.hid RD.out.ok.1
      have HP1 := Lib.hid RD.out.ok.2.1
      have HP0 := Lib.hid RD.out.ok.2.2
      have HNO : Hid (stepI c s[k] = none → tokI (bl s) = none) := by
        intro h
        rw [HT.out, runI_none (k := k + 1) (by rw [HRN.out]; exact h)]; rfl
      have HSIG := Lib.hid RD.out.sig
      have HLEN := Lib.hid RD.out.len
      have HVALS := Lib.hid RD.out.vals
      have HTX := Lib.hid RD.out.texts
      have TK := Lib.hid RD.out.mem
      have CS := Lib.hid (fun W => impl_StepState c.s s[k] W HV.out)
      have hm9 := (step_from HV.out s[k]).2.2.2
      clear RD HT
      obtain ⟨co, ⟨M, T, A, EE⟩, cr, cp⟩ := c
      simp only at hrl HSIG HLEN HP1 HP0 TK CS hm9
      obtain ⟨N, T2, A2, E2, hn⟩ : ∃ N T2 A2 E2, stepM ⟨M, T, A, EE⟩ s[k] = ⟨N, T2, A2, E2⟩ := ⟨_, _, _, _, rfl⟩
      rw [hn] at CS hm9
      simp only [st_agg] at CS
      have HN := Lib.hid hn
      obtain ⟨st, hst⟩ : ∃ st, stepI ⟨co, ⟨M, T, A, EE⟩, cr, cp⟩ s[k] = st := ⟨_, rfl⟩
      rw [hst] at hcl HRN HNO HOK
      clear hst
      cases hcl
      case bad =>
        as_aux_lemma =>
        rename_i h1
        simp only [hn] at h1
        subst h1
        have TK0 : Hid (TkG w _ _ L cr ⟨M, T, A, EE⟩ #[.int .i64 (nowK M), .string ⟨#[]⟩, .string ⟨#[]⟩, pv] pv P (w.heap.size + 1) ⟨M, T, A, EE⟩ wr) := TK.out
        have s0 : wr.cell? ⟨w.heap.size + 1, 0, none⟩ = some (.int .i64 (M : Int)) := TK0.out.cells.1.1
        have s1 : wr.cell? ⟨w.heap.size + 1, 1, none⟩ = some (.string (mkS T)) := TK0.out.cells.1.2.1
        have s2 : wr.cell? ⟨w.heap.size + 1, 2, none⟩ = some (.string (mkS A)) := TK0.out.cells.1.2.2.1
        have s3 : wr.cell? ⟨w.heap.size + 1, 3, none⟩ = some (.bool EE) := TK0.out.cells.1.2.2.2
        clear TK hn
        go_wp2_with fail
        refine (CS.out _).mono ?_
        rintro e w1 ⟨rfl, b1⟩
        have TK1 := Lib.hid (TK0.out.below b1)
        have TK2 : Hid (TkG w _ _ L cr ⟨M, T, A, EE⟩ #[.int .i64 (nowK M), .string ⟨#[]⟩, .string ⟨#[]⟩, pv] pv P w1.heap.size ⟨15, T2, A2, E2⟩ (w1.alloc (.cells #[.int .i64 15, .string (mkS T2), .string (mkS A2), .bool E2] 57 (0, 0)))) := TK1.out.fresh ⟨15, T2, A2, E2⟩
        have hnS : w1.heap.size ≠ w.heap.size + 1 := by have := bld_ltS TK1.out.s; omega
        have hnN : w1.heap.size ≠ w.heap.size + 1 + 1 + 1 := by have := bld_ltS TK1.out.n; omega
        have hws := TK2.out.b.size
        clear s0 s1 s2 s3 b1 TK0 TK1
        have s0 : (w1.alloc (.cells #[.int .i64 15, .string (mkS T2), .string (mkS A2), .bool E2] 57 (0, 0))).cell? ⟨w.heap.size + 1, 0, none⟩ = some (.int .i64 (M : Int)) := TK2.out.cells.1.1
        have s1 : (w1.alloc (.cells #[.int .i64 15, .string (mkS T2), .string (mkS A2), .bool E2] 57 (0, 0))).cell? ⟨w.heap.size + 1, 1, none⟩ = some (.string (mkS T)) := TK2.out.cells.1.2.1
        have s2 : (w1.alloc (.cells #[.int .i64 15, .string (mkS T2), .string (mkS A2), .bool E2] 57 (0, 0))).cell? ⟨w.heap.size + 1, 2, none⟩ = some (.string (mkS A)) := TK2.out.cells.1.2.2.1
        have s3 : (w1.alloc (.cells #[.int .i64 15, .string (mkS T2), .string (mkS A2), .bool E2] 57 (0, 0))).cell? ⟨w.heap.size + 1, 3, none⟩ = some (.bool EE) := TK2.out.cells.1.2.2.2
        have f0 : (w1.alloc (.cells #[.int .i64 15, .string (mkS T2), .string (mkS A2), .bool E2] 57 (0, 0))).frozen? ⟨w.heap.size + 1, 0, none⟩ = false := TK2.out.cells.2.2.1
        have f1 : (w1.alloc (.cells #[.int .i64 15, .string (mkS T2), .string (mkS A2), .bool E2] 57 (0, 0))).frozen? ⟨w.heap.size + 1, 1, none⟩ = false := TK2.out.cells.2.2.2.1
        have f2 : (w1.alloc (.cells #[.int .i64 15, .string (mkS T2), .string (mkS A2), .bool E2] 57 (0, 0))).frozen? ⟨w.heap.size + 1, 2, none⟩ = false := TK2.out.cells.2.2.2.2.1
        have f3 : (w1.alloc (.cells #[.int .i64 15, .string (mkS T2), .string (mkS A2), .bool E2] 57 (0, 0))).frozen? ⟨w.heap.size + 1, 3, none⟩ = false := TK2.out.cells.2.2.2.2.2
        go_wp2
        exact bodyPost_ret (v := .tuple #[.slice none 0 0, .bool false]) (by simp [results, Try.results17, go_sem]) rfl (tokAns_none (HNO.out (by first | rfl | trivial)) TK2.out.b)
      case text =>
        as_aux_lemma =>
        rename_i h1 h2
        simp only [hn] at h1 h2 HRN HOK
        subst h1; subst h2
        have HNK : Hid (nowK 0 = 0) := by show _ = _; unfold nowK; rw [if_neg (by omega)]
        rw [HNK.out] at TK
        have HNW : Hid (nowK 0 = 0) := by show _ = _; unfold nowK; rw [if_neg (by omega)]
        have TK0 : Hid (TkG w _ _ L cr ⟨0, T, A, EE⟩ #[.int .i64 0, .string ⟨#[]⟩, .string ⟨#[]⟩, pv] pv P (w.heap.size + 1) ⟨0, T, A, EE⟩ wr) := TK.out
        have s0 : wr.cell? ⟨w.heap.size + 1, 0, none⟩ = some (.int .i64 0) := TK0.out.cells.1.1
        have s1 : wr.cell? ⟨w.heap.size + 1, 1, none⟩ = some (.string (mkS T)) := TK0.out.cells.1.2.1
        have s2 : wr.cell? ⟨w.heap.size + 1, 2, none⟩ = some (.string (mkS A)) := TK0.out.cells.1.2.2.1
        have s3 : wr.cell? ⟨w.heap.size + 1, 3, none⟩ = some (.bool EE) := TK0.out.cells.1.2.2.2
        clear TK hn
        go_wp2_with fail
        refine (CS.out _).mono ?_
        rintro e w1 ⟨rfl, b1⟩
        have TK1 := Lib.hid (TK0.out.below b1)
        have TK2 : Hid (TkG w _ _ L cr ⟨0, T, A, EE⟩ #[.int .i64 0, .string ⟨#[]⟩, .string ⟨#[]⟩, pv] pv P w1.heap.size ⟨0, T2, A2, E2⟩ (w1.alloc (.cells #[.int .i64 0, .string (mkS T2), .string (mkS A2), .bool E2] 57 (0, 0)))) := TK1.out.fresh ⟨0, T2, A2, E2⟩
        have hnS : w1.heap.size ≠ w.heap.size + 1 := by have := bld_ltS TK1.out.s; omega
        have hnN : w1.heap.size ≠ w.heap.size + 1 + 1 + 1 := by have := bld_ltS TK1.out.n; omega
        have hws := TK2.out.b.size
        clear s0 s1 s2 s3 b1 TK0 TK1
        have s0 : (w1.alloc (.cells #[.int .i64 0, .string (mkS T2), .string (mkS A2), .bool E2] 57 (0, 0))).cell? ⟨w.heap.size + 1, 0, none⟩ = some (.int .i64 0) := TK2.out.cells.1.1
        have s1 : (w1.alloc (.cells #[.int .i64 0, .string (mkS T2), .string (mkS A2), .bool E2] 57 (0, 0))).cell? ⟨w.heap.size + 1, 1, none⟩ = some (.string (mkS T)) := TK2.out.cells.1.2.1
        have s2 : (w1.alloc (.cells #[.int .i64 0, .string (mkS T2), .string (mkS A2), .bool E2] 57 (0, 0))).cell? ⟨w.heap.size + 1, 2, none⟩ = some (.string (mkS A)) := TK2.out.cells.1.2.2.1
        have s3 : (w1.alloc (.cells #[.int .i64 0, .string (mkS T2), .string (mkS A2), .bool E2] 57 (0, 0))).cell? ⟨w.heap.size + 1, 3, none⟩ = some (.bool EE) := TK2.out.cells.1.2.2.2
        have f0 : (w1.alloc (.cells #[.int .i64 0, .string (mkS T2), .string (mkS A2), .bool E2] 57 (0, 0))).frozen? ⟨w.heap.size + 1, 0, none⟩ = false := TK2.out.cells.2.2.1
        have f1 : (w1.alloc (.cells #[.int .i64 0, .string (mkS T2), .string (mkS A2), .bool E2] 57 (0, 0))).frozen? ⟨w.heap.size + 1, 1, none⟩ = false := TK2.out.cells.2.2.2.1
        have f2 : (w1.alloc (.cells #[.int .i64 0, .string (mkS T2), .string (mkS A2), .bool E2] 57 (0, 0))).frozen? ⟨w.heap.size + 1, 2, none⟩ = false := TK2.out.cells.2.2.2.2.1
        have f3 : (w1.alloc (.cells #[.int .i64 0, .string (mkS T2), .string (mkS A2), .bool E2] 57 (0, 0))).frozen? ⟨w.heap.size + 1, 3, none⟩ = false := TK2.out.cells.2.2.2.2.2
        go_wp2_with (at_builtin; refine wpList_pushB2 (.tmp 45) (.tmp 47) w.heap.size s[k] _ cr.length cr TK2.out.r hws (by omega) rfl (by rfl) (by rfl) (w1.heap.size + 1) (by simp) (by rfl) ?_; intro v5 w5 o5 g5 b5; have TK5 : Hid (TkG w _ v5 L (cr ++ [s[k]]) ⟨0, T, A, EE⟩ #[.int .i64 0, .string ⟨#[]⟩, .string ⟨#[]⟩, pv] pv P w1.heap.size ⟨0, T2, A2, E2⟩ w5) := TK2.out.byte o5 g5; clear o5 g5 b5; have q0 : w5.cell? ⟨w.heap.size + 1, 0, none⟩ = some (.int .i64 0) := TK5.out.cells.1.1; have q1 : w5.cell? ⟨w.heap.size + 1, 1, none⟩ = some (.string (mkS T)) := TK5.out.cells.1.2.1; have q2 : w5.cell? ⟨w.heap.size + 1, 2, none⟩ = some (.string (mkS A)) := TK5.out.cells.1.2.2.1; have q3 : w5.cell? ⟨w.heap.size + 1, 3, none⟩ = some (.bool EE) := TK5.out.cells.1.2.2.2; have g0 : w5.frozen? ⟨w.heap.size + 1, 0, none⟩ = false := TK5.out.cells.2.2.1; have g1 : w5.frozen? ⟨w.heap.size + 1, 1, none⟩ = false := TK5.out.cells.2.2.2.1; have g2 : w5.frozen? ⟨w.heap.size + 1, 2, none⟩ = false := TK5.out.cells.2.2.2.2.1; have g3 : w5.frozen? ⟨w.heap.size + 1, 3, none⟩ = false := TK5.out.cells.2.2.2.2.2; have m0 : w5.cell? ⟨w1.heap.size, 0, none⟩ = some (.int .i64 0) := TK5.out.cells.2.1.1; have m1 : w5.cell? ⟨w1.heap.size, 1, none⟩ = some (.string (mkS T2)) := TK5.out.cells.2.1.2.1; have m2 : w5.cell? ⟨w1.heap.size, 2, none⟩ = some (.string (mkS A2)) := TK5.out.cells.2.1.2.2.1; have m3 : w5.cell? ⟨w1.heap.size, 3, none⟩ = some (.bool E2) := TK5.out.cells.2.1.2.2.2)
        go_roundw
        case rel => exact ⟨k + 1, ⟨co, ⟨0, T2, A2, E2⟩, cr ++ [s[k]], cp⟩, L, pv, P, by omega, by go_num, (by simp; omega), (by exact Nat.le_succ_of_le hol), (by exact Nat.le_succ_of_le hpl), HRN.out, HOK.out _ rfl, HSIG.out, HLEN.out, vals_more HVALS.out, HTX.out, (by rw [HNW.out]; exact (TK5.out.setS ⟨0, T2, A2, E2⟩ hnS).home)⟩
        case measure => simp [intOf]; omega
      case less =>
        as_aux_lemma =>
        rename_i h1 h2 h3
        simp only [hn] at h1 h2 h3 HRN HOK
        subst h1
        have n1 : N = 1 := by have := stepM_less T A EE s[k]; rw [hn] at this; simp only at this; omega
        subst n1
        have HNK : Hid (nowK 0 = 0) := by show _ = _; unfold nowK; rw [if_neg (by omega)]
        rw [HNK.out] at TK
        have HNW : Hid (nowK 1 = 0) := by show _ = _; unfold nowK; rw [if_neg (by omega)]
        have TK0 : Hid (TkG w _ _ L cr ⟨0, T, A, EE⟩ #[.int .i64 0, .string ⟨#[]⟩, .string ⟨#[]⟩, pv] pv P (w.heap.size + 1) ⟨0, T, A, EE⟩ wr) := TK.out
        have s0 : wr.cell? ⟨w.heap.size + 1, 0, none⟩ = some (.int .i64 0) := TK0.out.cells.1.1
        have s1 : wr.cell? ⟨w.heap.size + 1, 1, none⟩ = some (.string (mkS T)) := TK0.out.cells.1.2.1
        have s2 : wr.cell? ⟨w.heap.size + 1, 2, none⟩ = some (.string (mkS A)) := TK0.out.cells.1.2.2.1
        have s3 : wr.cell? ⟨w.heap.size + 1, 3, none⟩ = some (.bool EE) := TK0.out.cells.1.2.2.2
        clear TK hn h2 h3
        go_wp2_with fail
        refine (CS.out _).mono ?_
        rintro e w1 ⟨rfl, b1⟩
        have TK1 := Lib.hid (TK0.out.below b1)
        have TK2 : Hid (TkG w _ _ L cr ⟨0, T, A, EE⟩ #[.int .i64 0, .string ⟨#[]⟩, .string ⟨#[]⟩, pv] pv P w1.heap.size ⟨1, T2, A2, E2⟩ (w1.alloc (.cells #[.int .i64 1, .string (mkS T2), .string (mkS A2), .bool E2] 57 (0, 0)))) := TK1.out.fresh ⟨1, T2, A2, E2⟩
        have hnS : w1.heap.size ≠ w.heap.size + 1 := by have := bld_ltS TK1.out.s; omega
        have hnN : w1.heap.size ≠ w.heap.size + 1 + 1 + 1 := by have := bld_ltS TK1.out.n; omega
        have hws := TK2.out.b.size
        clear s0 s1 s2 s3 b1 TK0 TK1
        have s0 : (w1.alloc (.cells #[.int .i64 1, .string (mkS T2), .string (mkS A2), .bool E2] 57 (0, 0))).cell? ⟨w.heap.size + 1, 0, none⟩ = some (.int .i64 0) := TK2.out.cells.1.1
        have s1 : (w1.alloc (.cells #[.int .i64 1, .string (mkS T2), .string (mkS A2), .bool E2] 57 (0, 0))).cell? ⟨w.heap.size + 1, 1, none⟩ = some (.string (mkS T)) := TK2.out.cells.1.2.1
        have s2 : (w1.alloc (.cells #[.int .i64 1, .string (mkS T2), .string (mkS A2), .bool E2] 57 (0, 0))).cell? ⟨w.heap.size + 1, 2, none⟩ = some (.string (mkS A)) := TK2.out.cells.1.2.2.1
        have s3 : (w1.alloc (.cells #[.int .i64 1, .string (mkS T2), .string (mkS A2), .bool E2] 57 (0, 0))).cell? ⟨w.heap.size + 1, 3, none⟩ = some (.bool EE) := TK2.out.cells.1.2.2.2
        have f0 : (w1.alloc (.cells #[.int .i64 1, .string (mkS T2), .string (mkS A2), .bool E2] 57 (0, 0))).frozen? ⟨w.heap.size + 1, 0, none⟩ = false := TK2.out.cells.2.2.1
        have f1 : (w1.alloc (.cells #[.int .i64 1, .string (mkS T2), .string (mkS A2), .bool E2] 57 (0, 0))).frozen? ⟨w.heap.size + 1, 1, none⟩ = false := TK2.out.cells.2.2.2.1
        have f2 : (w1.alloc (.cells #[.int .i64 1, .string (mkS T2), .string (mkS A2), .bool E2] 57 (0, 0))).frozen? ⟨w.heap.size + 1, 2, none⟩ = false := TK2.out.cells.2.2.2.2.1
        have f3 : (w1.alloc (.cells #[.int .i64 1, .string (mkS T2), .string (mkS A2), .bool E2] 57 (0, 0))).frozen? ⟨w.heap.size + 1, 3, none⟩ = false := TK2.out.cells.2.2.2.2.2
        by_cases hr0 : cr = []
        · have HFL : Hid (flushI ⟨co, ⟨0, T, A, EE⟩, cr, cp⟩ = co) := by show _ = _; unfold flushI; rw [if_pos hr0]
          rw [HFL.out] at HRN HOK
          subst hr0
          obtain ⟨ra, rc, rfl, _⟩ := own_formn TK2.out.r
          have TK5 := Lib.hid TK2.out.drop
          go_wp2
          go_roundw
          case rel => exact ⟨k + 1, ⟨co, ⟨1, T2, A2, E2⟩, [], cp⟩, L, pv, P, by omega, by go_num, (Nat.zero_le _), (by exact Nat.le_succ_of_le hol), (by exact Nat.le_succ_of_le hpl), HRN.out, HOK.out _ rfl, HSIG.out, HLEN.out, vals_more HVALS.out, HTX.out, (by rw [HNW.out]; exact (TK5.out.setS ⟨1, T2, A2, E2⟩ hnS).home)⟩
          case measure => simp [intOf]; omega
        · have HFL : Hid (flushI ⟨co, ⟨0, T, A, EE⟩, cr, cp⟩ = co ++ [(tx 1 [] (unescR cr), 0)]) := by show _ = _; unfold flushI; rw [if_neg hr0]
          rw [HFL.out] at HRN HOK
          have hl0 : 0 < cr.length := List.length_pos_iff.2 hr0
          have hl1 : (0 : Int) < (cr.length : Int) := by omega
          obtain ⟨ra, rc, rfl, rrow, _⟩ := own_formn TK2.out.r
          have kd := conv_row _ ra cr.length rc cr rrow rfl
          have CU := Lib.hid (fun W => impl_UnescapeText (mkS cr) W (by rw [mkS_size]; omega))
          simp only [bl_mkS] at CU
          have HUL : Hid (((unescR cr).length : Nat) ≤ 1048576) := by have := unescR_len cr; show _ ≤ _; omega
          clear rrow hr0
          go_wp2_with fail
          refine (CU.out _).mono ?_
          rintro e w3 ⟨rfl, b3⟩
          have TK3 := Lib.hid (TK2.out.below b3)
          have hw3 := TK3.out.b.size
          clear b3 kd CU s0 s1 s2 s3 f0 f1 f2 f3 HFL
          have s0 : w3.cell? ⟨w.heap.size + 1, 0, none⟩ = some (.int .i64 0) := TK3.out.cells.1.1
          have s1 : w3.cell? ⟨w.heap.size + 1, 1, none⟩ = some (.string (mkS T)) := TK3.out.cells.1.2.1
          have s2 : w3.cell? ⟨w.heap.size + 1, 2, none⟩ = some (.string (mkS A)) := TK3.out.cells.1.2.2.1
          have s3 : w3.cell? ⟨w.heap.size + 1, 3, none⟩ = some (.bool EE) := TK3.out.cells.1.2.2.2
          have f0 : w3.frozen? ⟨w.heap.size + 1, 0, none⟩ = false := TK3.out.cells.2.2.1
          have f1 : w3.frozen? ⟨w.heap.size + 1, 1, none⟩ = false := TK3.out.cells.2.2.2.1
          have f2 : w3.frozen? ⟨w.heap.size + 1, 2, none⟩ = false := TK3.out.cells.2.2.2.2.1
          have f3 : w3.frozen? ⟨w.heap.size + 1, 3, none⟩ = false := TK3.out.cells.2.2.2.2.2
          have mm0 : w3.cell? ⟨w1.heap.size, 0, none⟩ = some (.int .i64 1) := TK3.out.cells.2.1.1
          have mm1 : w3.cell? ⟨w1.heap.size, 1, none⟩ = some (.string (mkS T2)) := TK3.out.cells.2.1.2.1
          have mm2 : w3.cell? ⟨w1.heap.size, 2, none⟩ = some (.string (mkS A2)) := TK3.out.cells.2.1.2.2.1
          have mm3 : w3.cell? ⟨w1.heap.size, 3, none⟩ = some (.bool E2) := TK3.out.cells.2.1.2.2.2
          generalize unescR cr = U at *
          go_wp2_with (at_builtin; refine wpList_pushTokP (.tmp 56) (.tmp 61) w.heap.size (⟨1, ⟨#[]⟩, mkS U, none, 0, 0⟩ : TokP) _ L.length L TK3.out.o hw3 (by omega) rfl (by rfl) (by rfl) (w3.heap.size) (by simp) (by rfl) ?_; intro v5 w5 o5 g5 a5; have TK5 : Hid (TkG w v5 _ (L ++ [(⟨1, ⟨#[]⟩, mkS U, none, 0, 0⟩ : TokP)]) cr ⟨0, T, A, EE⟩ #[.int .i64 0, .string ⟨#[]⟩, .string ⟨#[]⟩, pv] pv P w1.heap.size ⟨1, T2, A2, E2⟩ w5) := TK3.out.tok o5 g5 a5; clear o5 g5 a5; have q0 : w5.cell? ⟨w.heap.size + 1, 0, none⟩ = some (.int .i64 0) := TK5.out.cells.1.1; have q1 : w5.cell? ⟨w.heap.size + 1, 1, none⟩ = some (.string (mkS T)) := TK5.out.cells.1.2.1; have q2 : w5.cell? ⟨w.heap.size + 1, 2, none⟩ = some (.string (mkS A)) := TK5.out.cells.1.2.2.1; have q3 : w5.cell? ⟨w.heap.size + 1, 3, none⟩ = some (.bool EE) := TK5.out.cells.1.2.2.2; have g0 : w5.frozen? ⟨w.heap.size + 1, 0, none⟩ = false := TK5.out.cells.2.2.1; have g1 : w5.frozen? ⟨w.heap.size + 1, 1, none⟩ = false := TK5.out.cells.2.2.2.1; have g2 : w5.frozen? ⟨w.heap.size + 1, 2, none⟩ = false := TK5.out.cells.2.2.2.2.1; have g3 : w5.frozen? ⟨w.heap.size + 1, 3, none⟩ = false := TK5.out.cells.2.2.2.2.2; have m0 : w5.cell? ⟨w1.heap.size, 0, none⟩ = some (.int .i64 1) := TK5.out.cells.2.1.1; have m1 : w5.cell? ⟨w1.heap.size, 1, none⟩ = some (.string (mkS T2)) := TK5.out.cells.2.1.2.1; have m2 : w5.cell? ⟨w1.heap.size, 2, none⟩ = some (.string (mkS A2)) := TK5.out.cells.2.1.2.2.1; have m3 : w5.cell? ⟨w1.heap.size, 3, none⟩ = some (.bool E2) := TK5.out.cells.2.1.2.2.2)
          have TK6 := Lib.hid TK5.out.drop
          go_roundw
          case rel => exact ⟨k + 1, ⟨co ++ [(tx 1 [] U, 0)], ⟨1, T2, A2, E2⟩, [], cp⟩, L ++ [(⟨1, ⟨#[]⟩, mkS U, none, 0, 0⟩ : TokP)], pv, P, by omega, by go_num, (Nat.zero_le _), (by simp; omega), (by exact Nat.le_succ_of_le hpl), HRN.out, HOK.out _ rfl, sig_snoc HSIG.out rfl, HLEN.out, vals_more HVALS.out, text_snoc HTX.out (by show (mkS U).size ≤ _; rw [mkS_size]; exact HUL.out), (by rw [HNW.out]; exact (TK6.out.setS ⟨1, T2, A2, E2⟩ hnS).home)⟩
          case measure => simp [intOf]; omega
      case tag =>
        rename_i h1 h2
        simp only [hn] at h1 h2 HRN HOK
        subst h1; subst h2
        obtain rfl : cp = 0 := HP0.out (by omega)
        obtain rfl : P = [] := List.eq_nil_of_length_eq_zero HLEN.out
        have HNK : Hid (nowK 1 = 0) := by show _ = _; unfold nowK; rw [if_neg (by omega)]
        rw [HNK.out] at TK
        have HNW : Hid (nowK 2 = 2) := by show _ = _; unfold nowK; rw [if_pos (by omega)]
        have TK0 : Hid (TkG w _ _ L cr ⟨1, T, A, EE⟩ #[.int .i64 0, .string ⟨#[]⟩, .string ⟨#[]⟩, pv] pv [] (w.heap.size + 1) ⟨1, T, A, EE⟩ wr) := TK.out
        have s0 : wr.cell? ⟨w.heap.size + 1, 0, none⟩ = some (.int .i64 1) := TK0.out.cells.1.1
        have s1 : wr.cell? ⟨w.heap.size + 1, 1, none⟩ = some (.string (mkS T)) := TK0.out.cells.1.2.1
        have s2 : wr.cell? ⟨w.heap.size + 1, 2, none⟩ = some (.string (mkS A)) := TK0.out.cells.1.2.2.1
        have s3 : wr.cell? ⟨w.heap.size + 1, 3, none⟩ = some (.bool EE) := TK0.out.cells.1.2.2.2
        clear TK hn
        go_wp2_with fail
        refine (CS.out _).mono ?_
        rintro e w1 ⟨rfl, b1⟩
        have TK1 := Lib.hid (TK0.out.below b1)
        have TK2 : Hid (TkG w _ _ L cr ⟨1, T, A, EE⟩ #[.int .i64 0, .string ⟨#[]⟩, .string ⟨#[]⟩, pv] pv [] w1.heap.size ⟨2, T2, A2, E2⟩ (w1.alloc (.cells #[.int .i64 2, .string (mkS T2), .string (mkS A2), .bool E2] 57 (0, 0)))) := TK1.out.fresh ⟨2, T2, A2, E2⟩
        have hnS : w1.heap.size ≠ w.heap.size + 1 := by have := bld_ltS TK1.out.s; omega
        have hnN : w1.heap.size ≠ w.heap.size + 1 + 1 + 1 := by have := bld_ltS TK1.out.n; omega
        have hws := TK2.out.b.size
        clear s0 s1 s2 s3 b1 TK0 TK1
        have s0 : (w1.alloc (.cells #[.int .i64 2, .string (mkS T2), .string (mkS A2), .bool E2] 57 (0, 0))).cell? ⟨w.heap.size + 1, 0, none⟩ = some (.int .i64 1) := TK2.out.cells.1.1
        have s1 : (w1.alloc (.cells #[.int .i64 2, .string (mkS T2), .string (mkS A2), .bool E2] 57 (0, 0))).cell? ⟨w.heap.size + 1, 1, none⟩ = some (.string (mkS T)) := TK2.out.cells.1.2.1
        have s2 : (w1.alloc (.cells #[.int .i64 2, .string (mkS T2), .string (mkS A2), .bool E2] 57 (0, 0))).cell? ⟨w.heap.size + 1, 2, none⟩ = some (.string (mkS A)) := TK2.out.cells.1.2.2.1
        have s3 : (w1.alloc (.cells #[.int .i64 2, .string (mkS T2), .string (mkS A2), .bool E2] 57 (0, 0))).cell? ⟨w.heap.size + 1, 3, none⟩ = some (.bool EE) := TK2.out.cells.1.2.2.2
        have f0 : (w1.alloc (.cells #[.int .i64 2, .string (mkS T2), .string (mkS A2), .bool E2] 57 (0, 0))).frozen? ⟨w.heap.size + 1, 0, none⟩ = false := TK2.out.cells.2.2.1
        have f1 : (w1.alloc (.cells #[.int .i64 2, .string (mkS T2), .string (mkS A2), .bool E2] 57 (0, 0))).frozen? ⟨w.heap.size + 1, 1, none⟩ = false := TK2.out.cells.2.2.2.1
        have f2 : (w1.alloc (.cells #[.int .i64 2, .string (mkS T2), .string (mkS A2), .bool E2] 57 (0, 0))).frozen? ⟨w.heap.size + 1, 2, none⟩ = false := TK2.out.cells.2.2.2.2.1
        have f3 : (w1.alloc (.cells #[.int .i64 2, .string (mkS T2), .string (mkS A2), .bool E2] 57 (0, 0))).frozen? ⟨w.heap.size + 1, 3, none⟩ = false := TK2.out.cells.2.2.2.2.2
        have n0 : (w1.alloc (.cells #[.int .i64 2, .string (mkS T2), .string (mkS A2), .bool E2] 57 (0, 0))).cell? ⟨w.heap.size + 1 + 1 + 1, 0, none⟩ = some (.int .i64 0) := (TK2.out).nows.1.1
        have n1 : (w1.alloc (.cells #[.int .i64 2, .string (mkS T2), .string (mkS A2), .bool E2] 57 (0, 0))).cell? ⟨w.heap.size + 1 + 1 + 1, 1, none⟩ = some (.string ⟨#[]⟩) := (TK2.out).nows.1.2.1
        have n2 : (w1.alloc (.cells #[.int .i64 2, .string (mkS T2), .string (mkS A2), .bool E2] 57 (0, 0))).cell? ⟨w.heap.size + 1 + 1 + 1, 2, none⟩ = some (.string ⟨#[]⟩) := (TK2.out).nows.1.2.2.1
        have n3 : (w1.alloc (.cells #[.int .i64 2, .string (mkS T2), .string (mkS A2), .bool E2] 57 (0, 0))).cell? ⟨w.heap.size + 1 + 1 + 1, 3, none⟩ = some (pv) := (TK2.out).nows.1.2.2.2
        have nf0 : (w1.alloc (.cells #[.int .i64 2, .string (mkS T2), .string (mkS A2), .bool E2] 57 (0, 0))).frozen? ⟨w.heap.size + 1 + 1 + 1, 0, none⟩ = false := (TK2.out).nows.2.1
        have nf1 : (w1.alloc (.cells #[.int .i64 2, .string (mkS T2), .string (mkS A2), .bool E2] 57 (0, 0))).frozen? ⟨w.heap.size + 1 + 1 + 1, 1, none⟩ = false := (TK2.out).nows.2.2.1
        have nf2 : (w1.alloc (.cells #[.int .i64 2, .string (mkS T2), .string (mkS A2), .bool E2] 57 (0, 0))).frozen? ⟨w.heap.size + 1 + 1 + 1, 2, none⟩ = false := (TK2.out).nows.2.2.2.1
        have nf3 : (w1.alloc (.cells #[.int .i64 2, .string (mkS T2), .string (mkS A2), .bool E2] 57 (0, 0))).frozen? ⟨w.heap.size + 1 + 1 + 1, 3, none⟩ = false := (TK2.out).nows.2.2.2.2
        have TK5 : Hid (TkG w _ _ L cr ⟨1, T, A, EE⟩ #[.int .i64 2, .string ⟨#[]⟩, .string ⟨#[]⟩, .slice none 0 0] (.slice none 0 0) [] w1.heap.size ⟨2, T2, A2, E2⟩ (((((w1.alloc (.cells #[.int .i64 2, .string (mkS T2), .string (mkS A2), .bool E2] 57 (0, 0))).setCell ⟨w.heap.size + 1 + 1 + 1, 0, none⟩ (.int .i64 2)).setCell ⟨w.heap.size + 1 + 1 + 1, 1, none⟩ (.string ⟨#[]⟩)).setCell ⟨w.heap.size + 1 + 1 + 1, 2, none⟩ (.string ⟨#[]⟩)).setCell ⟨w.heap.size + 1 + 1 + 1, 3, none⟩ (.slice none 0 0))) := (TK2.out.setN4 hnN (.int .i64 2) (.string ⟨#[]⟩) (.string ⟨#[]⟩) (.slice none 0 0)).dropP
        go_wp2
        go_roundw
        case rel => exact ⟨k + 1, ⟨co, ⟨2, T2, A2, E2⟩, cr, 0⟩, L, .slice none 0 0, [], by omega, by go_num, (by exact Nat.le_succ_of_le hrl), (by exact Nat.le_succ_of_le hol), (Nat.zero_le _), HRN.out, HOK.out _ rfl, HSIG.out, rfl, (by intro x hx; cases hx), HTX.out, (by rw [HNW.out]; exact (TK5.out.setS ⟨2, T2, A2, E2⟩ hnS).home)⟩
        case measure => simp [intOf]; omega
      case mark =>
        as_aux_lemma =>
        rename_i h1 h2 h3
        simp only [hn] at h1 h2 h3 HRN HOK
        subst h1
        have HNK : Hid (nowK 1 = 0) := by show _ = _; unfold nowK; rw [if_neg (by omega)]
        rw [HNK.out] at TK
        have n9 : 8 < N := by have := hm9 rfl; simp only at this; omega
        have HNW : Hid (nowK N = 0) := by show _ = _; unfold nowK; rw [if_neg (by omega)]
        have nf2 : ((N : Int) == 2) = false := kindF (K := N) (n := 2) h2
        have nf15 : ((N : Int) == 15) = false := kindF (K := N) (n := 15) h3
        have TK0 : Hid (TkG w _ _ L cr ⟨1, T, A, EE⟩ #[.int .i64 0, .string ⟨#[]⟩, .string ⟨#[]⟩, pv] pv P (w.heap.size + 1) ⟨1, T, A, EE⟩ wr) := TK.out
        have s0 : wr.cell? ⟨w.heap.size + 1, 0, none⟩ = some (.int .i64 1) := TK0.out.cells.1.1
        have s1 : wr.cell? ⟨w.heap.size + 1, 1, none⟩ = some (.string (mkS T)) := TK0.out.cells.1.2.1
        have s2 : wr.cell? ⟨w.heap.size + 1, 2, none⟩ = some (.string (mkS A)) := TK0.out.cells.1.2.2.1
        have s3 : wr.cell? ⟨w.heap.size + 1, 3, none⟩ = some (.bool EE) := TK0.out.cells.1.2.2.2
        clear TK hn h2 h3
        go_wp2_with fail
        refine (CS.out _).mono ?_
        rintro e w1 ⟨rfl, b1⟩
        have TK1 := Lib.hid (TK0.out.below b1)
        have TK2 : Hid (TkG w _ _ L cr ⟨1, T, A, EE⟩ #[.int .i64 0, .string ⟨#[]⟩, .string ⟨#[]⟩, pv] pv P w1.heap.size ⟨N, T2, A2, E2⟩ (w1.alloc (.cells #[.int .i64 (N : Int), .string (mkS T2), .string (mkS A2), .bool E2] 57 (0, 0)))) := TK1.out.fresh ⟨N, T2, A2, E2⟩
        have hnS : w1.heap.size ≠ w.heap.size + 1 := by have := bld_ltS TK1.out.s; omega
        have hnN : w1.heap.size ≠ w.heap.size + 1 + 1 + 1 := by have := bld_ltS TK1.out.n; omega
        have hws := TK2.out.b.size
        clear s0 s1 s2 s3 b1 TK0 TK1
        have s0 : (w1.alloc (.cells #[.int .i64 (N : Int), .string (mkS T2), .string (mkS A2), .bool E2] 57 (0, 0))).cell? ⟨w.heap.size + 1, 0, none⟩ = some (.int .i64 1) := TK2.out.cells.1.1
        have s1 : (w1.alloc (.cells #[.int .i64 (N : Int), .string (mkS T2), .string (mkS A2), .bool E2] 57 (0, 0))).cell? ⟨w.heap.size + 1, 1, none⟩ = some (.string (mkS T)) := TK2.out.cells.1.2.1
        have s2 : (w1.alloc (.cells #[.int .i64 (N : Int), .string (mkS T2), .string (mkS A2), .bool E2] 57 (0, 0))).cell? ⟨w.heap.size + 1, 2, none⟩ = some (.string (mkS A)) := TK2.out.cells.1.2.2.1
        have s3 : (w1.alloc (.cells #[.int .i64 (N : Int), .string (mkS T2), .string (mkS A2), .bool E2] 57 (0, 0))).cell? ⟨w.heap.size + 1, 3, none⟩ = some (.bool EE) := TK2.out.cells.1.2.2.2
        have f0 : (w1.alloc (.cells #[.int .i64 (N : Int), .string (mkS T2), .string (mkS A2), .bool E2] 57 (0, 0))).frozen? ⟨w.heap.size + 1, 0, none⟩ = false := TK2.out.cells.2.2.1
        have f1 : (w1.alloc (.cells #[.int .i64 (N : Int), .string (mkS T2), .string (mkS A2), .bool E2] 57 (0, 0))).frozen? ⟨w.heap.size + 1, 1, none⟩ = false := TK2.out.cells.2.2.2.1
        have f2 : (w1.alloc (.cells #[.int .i64 (N : Int), .string (mkS T2), .string (mkS A2), .bool E2] 57 (0, 0))).frozen? ⟨w.heap.size + 1, 2, none⟩ = false := TK2.out.cells.2.2.2.2.1
        have f3 : (w1.alloc (.cells #[.int .i64 (N : Int), .string (mkS T2), .string (mkS A2), .bool E2] 57 (0, 0))).frozen? ⟨w.heap.size + 1, 3, none⟩ = false := TK2.out.cells.2.2.2.2.2
        go_wp2
        go_roundw
        case rel => exact ⟨k + 1, ⟨co, ⟨N, T2, A2, E2⟩, cr, cp⟩, L, pv, P, by omega, by go_num, (by exact Nat.le_succ_of_le hrl), (by exact Nat.le_succ_of_le hol), (by exact Nat.le_succ_of_le hpl), HRN.out, HOK.out _ rfl, HSIG.out, HLEN.out, vals_more HVALS.out, HTX.out, (by rw [HNW.out]; exact (TK2.out.setS ⟨N, T2, A2, E2⟩ hnS).home)⟩
        case measure => simp [intOf]; omega
      case fin =>
        as_aux_lemma =>
        rename_i h1 h2
        simp only [hn] at h1 h2 HRN HOK
        subst h1; subst h2
        have HNK : Hid (nowK 9 = 0) := by show _ = _; unfold nowK; rw [if_neg (by omega)]
        rw [HNK.out] at TK
        have HNW : Hid (nowK 0 = 0) := by show _ = _; unfold nowK; rw [if_neg (by omega)]
        have TK0 : Hid (TkG w _ _ L cr ⟨9, T, A, EE⟩ #[.int .i64 0, .string ⟨#[]⟩, .string ⟨#[]⟩, pv] pv P (w.heap.size + 1) ⟨9, T, A, EE⟩ wr) := TK.out
        have s0 : wr.cell? ⟨w.heap.size + 1, 0, none⟩ = some (.int .i64 9) := TK0.out.cells.1.1
        have s1 : wr.cell? ⟨w.heap.size + 1, 1, none⟩ = some (.string (mkS T)) := TK0.out.cells.1.2.1
        have s2 : wr.cell? ⟨w.heap.size + 1, 2, none⟩ = some (.string (mkS A)) := TK0.out.cells.1.2.2.1
        have s3 : wr.cell? ⟨w.heap.size + 1, 3, none⟩ = some (.bool EE) := TK0.out.cells.1.2.2.2
        clear TK hn
        go_wp2_with fail
        refine (CS.out _).mono ?_
        rintro e w1 ⟨rfl, b1⟩
        have TK1 := Lib.hid (TK0.out.below b1)
        have TK2 : Hid (TkG w _ _ L cr ⟨9, T, A, EE⟩ #[.int .i64 0, .string ⟨#[]⟩, .string ⟨#[]⟩, pv] pv P w1.heap.size ⟨0, T2, A2, E2⟩ (w1.alloc (.cells #[.int .i64 0, .string (mkS T2), .string (mkS A2), .bool E2] 57 (0, 0)))) := TK1.out.fresh ⟨0, T2, A2, E2⟩
        have hnS : w1.heap.size ≠ w.heap.size + 1 := by have := bld_ltS TK1.out.s; omega
        have hnN : w1.heap.size ≠ w.heap.size + 1 + 1 + 1 := by have := bld_ltS TK1.out.n; omega
        have hws := TK2.out.b.size
        clear s0 s1 s2 s3 b1 TK0 TK1
        have s0 : (w1.alloc (.cells #[.int .i64 0, .string (mkS T2), .string (mkS A2), .bool E2] 57 (0, 0))).cell? ⟨w.heap.size + 1, 0, none⟩ = some (.int .i64 9) := TK2.out.cells.1.1
        have s1 : (w1.alloc (.cells #[.int .i64 0, .string (mkS T2), .string (mkS A2), .bool E2] 57 (0, 0))).cell? ⟨w.heap.size + 1, 1, none⟩ = some (.string (mkS T)) := TK2.out.cells.1.2.1
        have s2 : (w1.alloc (.cells #[.int .i64 0, .string (mkS T2), .string (mkS A2), .bool E2] 57 (0, 0))).cell? ⟨w.heap.size + 1, 2, none⟩ = some (.string (mkS A)) := TK2.out.cells.1.2.2.1
        have s3 : (w1.alloc (.cells #[.int .i64 0, .string (mkS T2), .string (mkS A2), .bool E2] 57 (0, 0))).cell? ⟨w.heap.size + 1, 3, none⟩ = some (.bool EE) := TK2.out.cells.1.2.2.2
        have f0 : (w1.alloc (.cells #[.int .i64 0, .string (mkS T2), .string (mkS A2), .bool E2] 57 (0, 0))).frozen? ⟨w.heap.size + 1, 0, none⟩ = false := TK2.out.cells.2.2.1
        have f1 : (w1.alloc (.cells #[.int .i64 0, .string (mkS T2), .string (mkS A2), .bool E2] 57 (0, 0))).frozen? ⟨w.heap.size + 1, 1, none⟩ = false := TK2.out.cells.2.2.2.1
        have f2 : (w1.alloc (.cells #[.int .i64 0, .string (mkS T2), .string (mkS A2), .bool E2] 57 (0, 0))).frozen? ⟨w.heap.size + 1, 2, none⟩ = false := TK2.out.cells.2.2.2.2.1
        have f3 : (w1.alloc (.cells #[.int .i64 0, .string (mkS T2), .string (mkS A2), .bool E2] 57 (0, 0))).frozen? ⟨w.heap.size + 1, 3, none⟩ = false := TK2.out.cells.2.2.2.2.2
        go_wp2_with (at_builtin; refine wpList_pushTokP (.tmp 82) (.tmp 86) w.heap.size (⟨3, mkS T, ⟨#[]⟩, none, 0, 0⟩ : TokP) _ L.length L TK2.out.o hws (by omega) rfl (by rfl) (by rfl) (w1.heap.size + 1) (by simp) (by rfl) ?_; intro v5 w5 o5 g5 a5; have TK5 : Hid (TkG w v5 _ (L ++ [(⟨3, mkS T, ⟨#[]⟩, none, 0, 0⟩ : TokP)]) cr ⟨9, T, A, EE⟩ #[.int .i64 0, .string ⟨#[]⟩, .string ⟨#[]⟩, pv] pv P w1.heap.size ⟨0, T2, A2, E2⟩ w5) := TK2.out.tok o5 g5 a5; clear o5 g5 a5; have q0 : w5.cell? ⟨w.heap.size + 1, 0, none⟩ = some (.int .i64 9) := TK5.out.cells.1.1; have q1 : w5.cell? ⟨w.heap.size + 1, 1, none⟩ = some (.string (mkS T)) := TK5.out.cells.1.2.1; have q2 : w5.cell? ⟨w.heap.size + 1, 2, none⟩ = some (.string (mkS A)) := TK5.out.cells.1.2.2.1; have q3 : w5.cell? ⟨w.heap.size + 1, 3, none⟩ = some (.bool EE) := TK5.out.cells.1.2.2.2; have g0 : w5.frozen? ⟨w.heap.size + 1, 0, none⟩ = false := TK5.out.cells.2.2.1; have g1 : w5.frozen? ⟨w.heap.size + 1, 1, none⟩ = false := TK5.out.cells.2.2.2.1; have g2 : w5.frozen? ⟨w.heap.size + 1, 2, none⟩ = false := TK5.out.cells.2.2.2.2.1; have g3 : w5.frozen? ⟨w.heap.size + 1, 3, none⟩ = false := TK5.out.cells.2.2.2.2.2; have m0 : w5.cell? ⟨w1.heap.size, 0, none⟩ = some (.int .i64 0) := TK5.out.cells.2.1.1; have m1 : w5.cell? ⟨w1.heap.size, 1, none⟩ = some (.string (mkS T2)) := TK5.out.cells.2.1.2.1; have m2 : w5.cell? ⟨w1.heap.size, 2, none⟩ = some (.string (mkS A2)) := TK5.out.cells.2.1.2.2.1; have m3 : w5.cell? ⟨w1.heap.size, 3, none⟩ = some (.bool E2) := TK5.out.cells.2.1.2.2.2)
        go_roundw
        case rel => exact ⟨k + 1, ⟨co ++ [(tx 3 T [], 0)], ⟨0, T2, A2, E2⟩, cr, cp⟩, L ++ [(⟨3, mkS T, ⟨#[]⟩, none, 0, 0⟩ : TokP)], pv, P, by omega, by go_num, (by exact Nat.le_succ_of_le hrl), (by simp; omega), (by exact Nat.le_succ_of_le hpl), HRN.out, HOK.out _ rfl, sig_snoc HSIG.out rfl, HLEN.out, vals_more HVALS.out, text_snoc HTX.out (Nat.zero_le _), (by rw [HNW.out]; exact (TK5.out.setS ⟨0, T2, A2, E2⟩ hnS).home)⟩
        case measure => simp [intOf]; omega
      case name =>
        as_aux_lemma =>
        rename_i h1 h2 h3
        simp only [hn] at h1 h2 h3 HRN HOK
        subst h1
        have n9 : N = 9 := by have := stepM_name T A EE s[k]; rw [hn] at this; simp only at this; omega
        subst n9
        have HNK : Hid (nowK 9 = 0) := by show _ = _; unfold nowK; rw [if_neg (by omega)]
        rw [HNK.out] at TK
        have HNW : Hid (nowK 9 = 0) := by show _ = _; unfold nowK; rw [if_neg (by omega)]
        have TK0 : Hid (TkG w _ _ L cr ⟨9, T, A, EE⟩ #[.int .i64 0, .string ⟨#[]⟩, .string ⟨#[]⟩, pv] pv P (w.heap.size + 1) ⟨9, T, A, EE⟩ wr) := TK.out
        have s0 : wr.cell? ⟨w.heap.size + 1, 0, none⟩ = some (.int .i64 9) := TK0.out.cells.1.1
        have s1 : wr.cell? ⟨w.heap.size + 1, 1, none⟩ = some (.string (mkS T)) := TK0.out.cells.1.2.1
        have s2 : wr.cell? ⟨w.heap.size + 1, 2, none⟩ = some (.string (mkS A)) := TK0.out.cells.1.2.2.1
        have s3 : wr.cell? ⟨w.heap.size + 1, 3, none⟩ = some (.bool EE) := TK0.out.cells.1.2.2.2
        clear TK hn h2 h3
        go_wp2_with fail
        refine (CS.out _).mono ?_
        rintro e w1 ⟨rfl, b1⟩
        have TK1 := Lib.hid (TK0.out.below b1)
        have TK2 : Hid (TkG w _ _ L cr ⟨9, T, A, EE⟩ #[.int .i64 0, .string ⟨#[]⟩, .string ⟨#[]⟩, pv] pv P w1.heap.size ⟨9, T2, A2, E2⟩ (w1.alloc (.cells #[.int .i64 9, .string (mkS T2), .string (mkS A2), .bool E2] 57 (0, 0)))) := TK1.out.fresh ⟨9, T2, A2, E2⟩
        have hnS : w1.heap.size ≠ w.heap.size + 1 := by have := bld_ltS TK1.out.s; omega
        have hnN : w1.heap.size ≠ w.heap.size + 1 + 1 + 1 := by have := bld_ltS TK1.out.n; omega
        have hws := TK2.out.b.size
        clear s0 s1 s2 s3 b1 TK0 TK1
        have s0 : (w1.alloc (.cells #[.int .i64 9, .string (mkS T2), .string (mkS A2), .bool E2] 57 (0, 0))).cell? ⟨w.heap.size + 1, 0, none⟩ = some (.int .i64 9) := TK2.out.cells.1.1
        have s1 : (w1.alloc (.cells #[.int .i64 9, .string (mkS T2), .string (mkS A2), .bool E2] 57 (0, 0))).cell? ⟨w.heap.size + 1, 1, none⟩ = some (.string (mkS T)) := TK2.out.cells.1.2.1
        have s2 : (w1.alloc (.cells #[.int .i64 9, .string (mkS T2), .string (mkS A2), .bool E2] 57 (0, 0))).cell? ⟨w.heap.size + 1, 2, none⟩ = some (.string (mkS A)) := TK2.out.cells.1.2.2.1
        have s3 : (w1.alloc (.cells #[.int .i64 9, .string (mkS T2), .string (mkS A2), .bool E2] 57 (0, 0))).cell? ⟨w.heap.size + 1, 3, none⟩ = some (.bool EE) := TK2.out.cells.1.2.2.2
        have f0 : (w1.alloc (.cells #[.int .i64 9, .string (mkS T2), .string (mkS A2), .bool E2] 57 (0, 0))).frozen? ⟨w.heap.size + 1, 0, none⟩ = false := TK2.out.cells.2.2.1
        have f1 : (w1.alloc (.cells #[.int .i64 9, .string (mkS T2), .string (mkS A2), .bool E2] 57 (0, 0))).frozen? ⟨w.heap.size + 1, 1, none⟩ = false := TK2.out.cells.2.2.2.1
        have f2 : (w1.alloc (.cells #[.int .i64 9, .string (mkS T2), .string (mkS A2), .bool E2] 57 (0, 0))).frozen? ⟨w.heap.size + 1, 2, none⟩ = false := TK2.out.cells.2.2.2.2.1
        have f3 : (w1.alloc (.cells #[.int .i64 9, .string (mkS T2), .string (mkS A2), .bool E2] 57 (0, 0))).frozen? ⟨w.heap.size + 1, 3, none⟩ = false := TK2.out.cells.2.2.2.2.2
        go_wp2
        go_roundw
        case rel => exact ⟨k + 1, ⟨co, ⟨9, T2, A2, E2⟩, cr, cp⟩, L, pv, P, by omega, by go_num, (by exact Nat.le_succ_of_le hrl), (by exact Nat.le_succ_of_le hol), (by exact Nat.le_succ_of_le hpl), HRN.out, HOK.out _ rfl, HSIG.out, HLEN.out, vals_more HVALS.out, HTX.out, (by rw [HNW.out]; exact (TK2.out.setS ⟨9, T2, A2, E2⟩ hnS).home)⟩
        case measure => simp [intOf]; omega
      case said =>
        as_aux_lemma =>
        rename_i h1 h2
        simp only [hn] at h1 h2 HRN HOK
        subst h1; subst h2
        have HNK : Hid (nowK 10 = 0) := by show _ = _; unfold nowK; rw [if_neg (by omega)]
        rw [HNK.out] at TK
        have HNW : Hid (nowK 0 = 0) := by show _ = _; unfold nowK; rw [if_neg (by omega)]
        have TK0 : Hid (TkG w _ _ L cr ⟨10, T, A, EE⟩ #[.int .i64 0, .string ⟨#[]⟩, .string ⟨#[]⟩, pv] pv P (w.heap.size + 1) ⟨10, T, A, EE⟩ wr) := TK.out
        have s0 : wr.cell? ⟨w.heap.size + 1, 0, none⟩ = some (.int .i64 10) := TK0.out.cells.1.1
        have s1 : wr.cell? ⟨w.heap.size + 1, 1, none⟩ = some (.string (mkS T)) := TK0.out.cells.1.2.1
        have s2 : wr.cell? ⟨w.heap.size + 1, 2, none⟩ = some (.string (mkS A)) := TK0.out.cells.1.2.2.1
        have s3 : wr.cell? ⟨w.heap.size + 1, 3, none⟩ = some (.bool EE) := TK0.out.cells.1.2.2.2
        clear TK hn
        go_wp2_with fail
        refine (CS.out _).mono ?_
        rintro e w1 ⟨rfl, b1⟩
        have TK1 := Lib.hid (TK0.out.below b1)
        have TK2 : Hid (TkG w _ _ L cr ⟨10, T, A, EE⟩ #[.int .i64 0, .string ⟨#[]⟩, .string ⟨#[]⟩, pv] pv P w1.heap.size ⟨0, T2, A2, E2⟩ (w1.alloc (.cells #[.int .i64 0, .string (mkS T2), .string (mkS A2), .bool E2] 57 (0, 0)))) := TK1.out.fresh ⟨0, T2, A2, E2⟩
        have hnS : w1.heap.size ≠ w.heap.size + 1 := by have := bld_ltS TK1.out.s; omega
        have hnN : w1.heap.size ≠ w.heap.size + 1 + 1 + 1 := by have := bld_ltS TK1.out.n; omega
        have hws := TK2.out.b.size
        clear s0 s1 s2 s3 b1 TK0 TK1
        have s0 : (w1.alloc (.cells #[.int .i64 0, .string (mkS T2), .string (mkS A2), .bool E2] 57 (0, 0))).cell? ⟨w.heap.size + 1, 0, none⟩ = some (.int .i64 10) := TK2.out.cells.1.1
        have s1 : (w1.alloc (.cells #[.int .i64 0, .string (mkS T2), .string (mkS A2), .bool E2] 57 (0, 0))).cell? ⟨w.heap.size + 1, 1, none⟩ = some (.string (mkS T)) := TK2.out.cells.1.2.1
        have s2 : (w1.alloc (.cells #[.int .i64 0, .string (mkS T2), .string (mkS A2), .bool E2] 57 (0, 0))).cell? ⟨w.heap.size + 1, 2, none⟩ = some (.string (mkS A)) := TK2.out.cells.1.2.2.1
        have s3 : (w1.alloc (.cells #[.int .i64 0, .string (mkS T2), .string (mkS A2), .bool E2] 57 (0, 0))).cell? ⟨w.heap.size + 1, 3, none⟩ = some (.bool EE) := TK2.out.cells.1.2.2.2
        have f0 : (w1.alloc (.cells #[.int .i64 0, .string (mkS T2), .string (mkS A2), .bool E2] 57 (0, 0))).frozen? ⟨w.heap.size + 1, 0, none⟩ = false := TK2.out.cells.2.2.1
        have f1 : (w1.alloc (.cells #[.int .i64 0, .string (mkS T2), .string (mkS A2), .bool E2] 57 (0, 0))).frozen? ⟨w.heap.size + 1, 1, none⟩ = false := TK2.out.cells.2.2.2.1
        have f2 : (w1.alloc (.cells #[.int .i64 0, .string (mkS T2), .string (mkS A2), .bool E2] 57 (0, 0))).frozen? ⟨w.heap.size + 1, 2, none⟩ = false := TK2.out.cells.2.2.2.2.1
        have f3 : (w1.alloc (.cells #[.int .i64 0, .string (mkS T2), .string (mkS A2), .bool E2] 57 (0, 0))).frozen? ⟨w.heap.size + 1, 3, none⟩ = false := TK2.out.cells.2.2.2.2.2
        obtain ⟨ra, rc, rfl, rrow, _⟩ := own_formn TK2.out.r
        have kd := conv_row _ ra cr.length rc cr rrow rfl
        clear rrow
        go_wp2_with (at_builtin; refine wpList_pushTokP (.tmp 97) (.tmp 101) w.heap.size (⟨4, ⟨#[]⟩, mkS cr, none, 0, 0⟩ : TokP) _ L.length L TK2.out.o hws (by omega) rfl (by rfl) (by rfl) (w1.heap.size + 1) (by simp) (by rfl) ?_; intro v5 w5 o5 g5 a5; have TK5 : Hid (TkG w v5 _ (L ++ [(⟨4, ⟨#[]⟩, mkS cr, none, 0, 0⟩ : TokP)]) cr ⟨10, T, A, EE⟩ #[.int .i64 0, .string ⟨#[]⟩, .string ⟨#[]⟩, pv] pv P w1.heap.size ⟨0, T2, A2, E2⟩ w5) := TK2.out.tok o5 g5 a5; clear o5 g5 a5; have q0 : w5.cell? ⟨w.heap.size + 1, 0, none⟩ = some (.int .i64 10) := TK5.out.cells.1.1; have q1 : w5.cell? ⟨w.heap.size + 1, 1, none⟩ = some (.string (mkS T)) := TK5.out.cells.1.2.1; have q2 : w5.cell? ⟨w.heap.size + 1, 2, none⟩ = some (.string (mkS A)) := TK5.out.cells.1.2.2.1; have q3 : w5.cell? ⟨w.heap.size + 1, 3, none⟩ = some (.bool EE) := TK5.out.cells.1.2.2.2; have g0 : w5.frozen? ⟨w.heap.size + 1, 0, none⟩ = false := TK5.out.cells.2.2.1; have g1 : w5.frozen? ⟨w.heap.size + 1, 1, none⟩ = false := TK5.out.cells.2.2.2.1; have g2 : w5.frozen? ⟨w.heap.size + 1, 2, none⟩ = false := TK5.out.cells.2.2.2.2.1; have g3 : w5.frozen? ⟨w.heap.size + 1, 3, none⟩ = false := TK5.out.cells.2.2.2.2.2; have m0 : w5.cell? ⟨w1.heap.size, 0, none⟩ = some (.int .i64 0) := TK5.out.cells.2.1.1; have m1 : w5.cell? ⟨w1.heap.size, 1, none⟩ = some (.string (mkS T2)) := TK5.out.cells.2.1.2.1; have m2 : w5.cell? ⟨w1.heap.size, 2, none⟩ = some (.string (mkS A2)) := TK5.out.cells.2.1.2.2.1; have m3 : w5.cell? ⟨w1.heap.size, 3, none⟩ = some (.bool E2) := TK5.out.cells.2.1.2.2.2)
        have TK6 := Lib.hid TK5.out.drop
        go_roundw
        case rel => exact ⟨k + 1, ⟨co ++ [(tx 4 [] cr, 0)], ⟨0, T2, A2, E2⟩, [], cp⟩, L ++ [(⟨4, ⟨#[]⟩, mkS cr, none, 0, 0⟩ : TokP)], pv, P, by omega, by go_num, (Nat.zero_le _), (by simp; omega), (by exact Nat.le_succ_of_le hpl), HRN.out, HOK.out _ rfl, sig_snoc HSIG.out rfl, HLEN.out, vals_more HVALS.out, text_snoc HTX.out (by show (mkS cr).size ≤ _; rw [mkS_size]; omega), (by rw [HNW.out]; exact (TK6.out.setS ⟨0, T2, A2, E2⟩ hnS).home)⟩
        case measure => simp [intOf]; omega
      case say =>
        as_aux_lemma =>
        rename_i h1 h2 h3
        simp only [hn] at h1 h2 h3 HRN HOK
        subst h1
        have n9 : N = 10 := by have := stepM_say T A EE s[k]; rw [hn] at this; simp only at this; omega
        subst n9
        have HNK : Hid (nowK 10 = 0) := by show _ = _; unfold nowK; rw [if_neg (by omega)]
        rw [HNK.out] at TK
        have HNW : Hid (nowK 10 = 0) := by show _ = _; unfold nowK; rw [if_neg (by omega)]
        have TK0 : Hid (TkG w _ _ L cr ⟨10, T, A, EE⟩ #[.int .i64 0, .string ⟨#[]⟩, .string ⟨#[]⟩, pv] pv P (w.heap.size + 1) ⟨10, T, A, EE⟩ wr) := TK.out
        have s0 : wr.cell? ⟨w.heap.size + 1, 0, none⟩ = some (.int .i64 10) := TK0.out.cells.1.1
        have s1 : wr.cell? ⟨w.heap.size + 1, 1, none⟩ = some (.string (mkS T)) := TK0.out.cells.1.2.1
        have s2 : wr.cell? ⟨w.heap.size + 1, 2, none⟩ = some (.string (mkS A)) := TK0.out.cells.1.2.2.1
        have s3 : wr.cell? ⟨w.heap.size + 1, 3, none⟩ = some (.bool EE) := TK0.out.cells.1.2.2.2
        clear TK hn h2 h3
        go_wp2_with fail
        refine (CS.out _).mono ?_
        rintro e w1 ⟨rfl, b1⟩
        have TK1 := Lib.hid (TK0.out.below b1)
        have TK2 : Hid (TkG w _ _ L cr ⟨10, T, A, EE⟩ #[.int .i64 0, .string ⟨#[]⟩, .string ⟨#[]⟩, pv] pv P w1.heap.size ⟨10, T2, A2, E2⟩ (w1.alloc (.cells #[.int .i64 10, .string (mkS T2), .string (mkS A2), .bool E2] 57 (0, 0)))) := TK1.out.fresh ⟨10, T2, A2, E2⟩
        have hnS : w1.heap.size ≠ w.heap.size + 1 := by have := bld_ltS TK1.out.s; omega
        have hnN : w1.heap.size ≠ w.heap.size + 1 + 1 + 1 := by have := bld_ltS TK1.out.n; omega
        have hws := TK2.out.b.size
        clear s0 s1 s2 s3 b1 TK0 TK1
        have s0 : (w1.alloc (.cells #[.int .i64 10, .string (mkS T2), .string (mkS A2), .bool E2] 57 (0, 0))).cell? ⟨w.heap.size + 1, 0, none⟩ = some (.int .i64 10) := TK2.out.cells.1.1
        have s1 : (w1.alloc (.cells #[.int .i64 10, .string (mkS T2), .string (mkS A2), .bool E2] 57 (0, 0))).cell? ⟨w.heap.size + 1, 1, none⟩ = some (.string (mkS T)) := TK2.out.cells.1.2.1
        have s2 : (w1.alloc (.cells #[.int .i64 10, .string (mkS T2), .string (mkS A2), .bool E2] 57 (0, 0))).cell? ⟨w.heap.size + 1, 2, none⟩ = some (.string (mkS A)) := TK2.out.cells.1.2.2.1
        have s3 : (w1.alloc (.cells #[.int .i64 10, .string (mkS T2), .string (mkS A2), .bool E2] 57 (0, 0))).cell? ⟨w.heap.size + 1, 3, none⟩ = some (.bool EE) := TK2.out.cells.1.2.2.2
        have f0 : (w1.alloc (.cells #[.int .i64 10, .string (mkS T2), .string (mkS A2), .bool E2] 57 (0, 0))).frozen? ⟨w.heap.size + 1, 0, none⟩ = false := TK2.out.cells.2.2.1
        have f1 : (w1.alloc (.cells #[.int .i64 10, .string (mkS T2), .string (mkS A2), .bool E2] 57 (0, 0))).frozen? ⟨w.heap.size + 1, 1, none⟩ = false := TK2.out.cells.2.2.2.1
        have f2 : (w1.alloc (.cells #[.int .i64 10, .string (mkS T2), .string (mkS A2), .bool E2] 57 (0, 0))).frozen? ⟨w.heap.size + 1, 2, none⟩ = false := TK2.out.cells.2.2.2.2.1
        have f3 : (w1.alloc (.cells #[.int .i64 10, .string (mkS T2), .string (mkS A2), .bool E2] 57 (0, 0))).frozen? ⟨w.heap.size + 1, 3, none⟩ = false := TK2.out.cells.2.2.2.2.2
        go_wp2_with (at_builtin; refine wpList_pushB2 (.tmp 107) (.tmp 109) w.heap.size s[k] _ cr.length cr TK2.out.r hws (by omega) rfl (by rfl) (by rfl) (w1.heap.size + 1) (by simp) (by rfl) ?_; intro v5 w5 o5 g5 b5; have TK5 : Hid (TkG w _ v5 L (cr ++ [s[k]]) ⟨10, T, A, EE⟩ #[.int .i64 0, .string ⟨#[]⟩, .string ⟨#[]⟩, pv] pv P w1.heap.size ⟨10, T2, A2, E2⟩ w5) := TK2.out.byte o5 g5; clear o5 g5 b5; have q0 : w5.cell? ⟨w.heap.size + 1, 0, none⟩ = some (.int .i64 10) := TK5.out.cells.1.1; have q1 : w5.cell? ⟨w.heap.size + 1, 1, none⟩ = some (.string (mkS T)) := TK5.out.cells.1.2.1; have q2 : w5.cell? ⟨w.heap.size + 1, 2, none⟩ = some (.string (mkS A)) := TK5.out.cells.1.2.2.1; have q3 : w5.cell? ⟨w.heap.size + 1, 3, none⟩ = some (.bool EE) := TK5.out.cells.1.2.2.2; have g0 : w5.frozen? ⟨w.heap.size + 1, 0, none⟩ = false := TK5.out.cells.2.2.1; have g1 : w5.frozen? ⟨w.heap.size + 1, 1, none⟩ = false := TK5.out.cells.2.2.2.1; have g2 : w5.frozen? ⟨w.heap.size + 1, 2, none⟩ = false := TK5.out.cells.2.2.2.2.1; have g3 : w5.frozen? ⟨w.heap.size + 1, 3, none⟩ = false := TK5.out.cells.2.2.2.2.2; have m0 : w5.cell? ⟨w1.heap.size, 0, none⟩ = some (.int .i64 10) := TK5.out.cells.2.1.1; have m1 : w5.cell? ⟨w1.heap.size, 1, none⟩ = some (.string (mkS T2)) := TK5.out.cells.2.1.2.1; have m2 : w5.cell? ⟨w1.heap.size, 2, none⟩ = some (.string (mkS A2)) := TK5.out.cells.2.1.2.2.1; have m3 : w5.cell? ⟨w1.heap.size, 3, none⟩ = some (.bool E2) := TK5.out.cells.2.1.2.2.2)
        go_roundw
        case rel => exact ⟨k + 1, ⟨co, ⟨10, T2, A2, E2⟩, cr ++ [s[k]], cp⟩, L, pv, P, by omega, by go_num, (by simp; omega), (by exact Nat.le_succ_of_le hol), (by exact Nat.le_succ_of_le hpl), HRN.out, HOK.out _ rfl, HSIG.out, HLEN.out, vals_more HVALS.out, HTX.out, (by rw [HNW.out]; exact (TK5.out.setS ⟨10, T2, A2, E2⟩ hnS).home)⟩
        case measure => simp [intOf]; omega
      case ends =>
        as_aux_lemma =>
        rename_i h1 h2 h3
        simp only [hn] at h1 h2 h3 HRN HOK
        subst h1; subst h2
        have HNK : Hid (nowK 14 = 0) := by show _ = _; unfold nowK; rw [if_neg (by omega)]
        rw [HNK.out] at TK
        have HNW : Hid (nowK 9 = 0) := by show _ = _; unfold nowK; rw [if_neg (by omega)]
        have TK0 : Hid (TkG w _ _ L cr ⟨14, T, A, EE⟩ #[.int .i64 0, .string ⟨#[]⟩, .string ⟨#[]⟩, pv] pv P (w.heap.size + 1) ⟨14, T, A, EE⟩ wr) := TK.out
        have s0 : wr.cell? ⟨w.heap.size + 1, 0, none⟩ = some (.int .i64 14) := TK0.out.cells.1.1
        have s1 : wr.cell? ⟨w.heap.size + 1, 1, none⟩ = some (.string (mkS T)) := TK0.out.cells.1.2.1
        have s2 : wr.cell? ⟨w.heap.size + 1, 2, none⟩ = some (.string (mkS A)) := TK0.out.cells.1.2.2.1
        have s3 : wr.cell? ⟨w.heap.size + 1, 3, none⟩ = some (.bool EE) := TK0.out.cells.1.2.2.2
        clear TK hn
        go_wp2_with fail
        refine (CS.out _).mono ?_
        rintro e w1 ⟨rfl, b1⟩
        have TK1 := Lib.hid (TK0.out.below b1)
        have TK2 : Hid (TkG w _ _ L cr ⟨14, T, A, EE⟩ #[.int .i64 0, .string ⟨#[]⟩, .string ⟨#[]⟩, pv] pv P w1.heap.size ⟨9, T2, A2, E2⟩ (w1.alloc (.cells #[.int .i64 9, .string (mkS T2), .string (mkS A2), .bool E2] 57 (0, 0)))) := TK1.out.fresh ⟨9, T2, A2, E2⟩
        have hnS : w1.heap.size ≠ w.heap.size + 1 := by have := bld_ltS TK1.out.s; omega
        have hnN : w1.heap.size ≠ w.heap.size + 1 + 1 + 1 := by have := bld_ltS TK1.out.n; omega
        have hws := TK2.out.b.size
        clear s0 s1 s2 s3 b1 TK0 TK1
        have s0 : (w1.alloc (.cells #[.int .i64 9, .string (mkS T2), .string (mkS A2), .bool E2] 57 (0, 0))).cell? ⟨w.heap.size + 1, 0, none⟩ = some (.int .i64 14) := TK2.out.cells.1.1
        have s1 : (w1.alloc (.cells #[.int .i64 9, .string (mkS T2), .string (mkS A2), .bool E2] 57 (0, 0))).cell? ⟨w.heap.size + 1, 1, none⟩ = some (.string (mkS T)) := TK2.out.cells.1.2.1
        have s2 : (w1.alloc (.cells #[.int .i64 9, .string (mkS T2), .string (mkS A2), .bool E2] 57 (0, 0))).cell? ⟨w.heap.size + 1, 2, none⟩ = some (.string (mkS A)) := TK2.out.cells.1.2.2.1
        have s3 : (w1.alloc (.cells #[.int .i64 9, .string (mkS T2), .string (mkS A2), .bool E2] 57 (0, 0))).cell? ⟨w.heap.size + 1, 3, none⟩ = some (.bool EE) := TK2.out.cells.1.2.2.2
        have f0 : (w1.alloc (.cells #[.int .i64 9, .string (mkS T2), .string (mkS A2), .bool E2] 57 (0, 0))).frozen? ⟨w.heap.size + 1, 0, none⟩ = false := TK2.out.cells.2.2.1
        have f1 : (w1.alloc (.cells #[.int .i64 9, .string (mkS T2), .string (mkS A2), .bool E2] 57 (0, 0))).frozen? ⟨w.heap.size + 1, 1, none⟩ = false := TK2.out.cells.2.2.2.1
        have f2 : (w1.alloc (.cells #[.int .i64 9, .string (mkS T2), .string (mkS A2), .bool E2] 57 (0, 0))).frozen? ⟨w.heap.size + 1, 2, none⟩ = false := TK2.out.cells.2.2.2.2.1
        have f3 : (w1.alloc (.cells #[.int .i64 9, .string (mkS T2), .string (mkS A2), .bool E2] 57 (0, 0))).frozen? ⟨w.heap.size + 1, 3, none⟩ = false := TK2.out.cells.2.2.2.2.2
        obtain ⟨ra, rc, rfl, rrow, hrc, hrc2, _⟩ := own_formn TK2.out.r
        obtain ⟨rn, hrn⟩ : ∃ rn, cr.length = rn + 1 := ⟨cr.length - 1, by omega⟩
        have rrow2 := row_butlast rrow
        have HDL : Hid (cr.dropLast.length = rn) := by show _ = _; rw [List.length_dropLast]; omega
        have kd := conv_row _ ra rn rc cr.dropLast rrow2 HDL.out
        have hl1 : (1 : Int) < (cr.length : Int) := by omega
        rw [hrn] at hl1 hrc
        have e1 : (0 : Int) ≤ (rn : Int) := by omega
        have e2 : (rn : Int) ≤ (rc : Int) := by omega
        have e4 : IntKind.i64.wrap (rn : Int) = (rn : Int) := IntWalk.i64_in _ (by omega)
        have e5 : 1 < rn + 1 := by omega
        rw [hrn]
        have hrl2 : rn + 1 ≤ k := by omega
        have HDS : Hid ((mkS cr.dropLast).size ≤ 1048576) := by show _ ≤ _; rw [mkS_size, HDL.out]; omega
        clear rrow rrow2 h3
        go_wp2_with (at_builtin; refine wpList_pushTokP (.tmp 123) (.tmp 131) w.heap.size (⟨5, ⟨#[]⟩, mkS cr.dropLast, none, 0, 0⟩ : TokP) _ L.length L TK2.out.o hws (by omega) rfl (by rfl) (by rfl) (w1.heap.size + 1) (by simp) (by rfl) ?_; intro v5 w5 o5 g5 a5; have TK5 : Hid (TkG w v5 _ (L ++ [(⟨5, ⟨#[]⟩, mkS cr.dropLast, none, 0, 0⟩ : TokP)]) cr ⟨14, T, A, EE⟩ #[.int .i64 0, .string ⟨#[]⟩, .string ⟨#[]⟩, pv] pv P w1.heap.size ⟨9, T2, A2, E2⟩ w5) := TK2.out.tok o5 g5 a5; clear o5 g5 a5; have q0 : w5.cell? ⟨w.heap.size + 1, 0, none⟩ = some (.int .i64 14) := TK5.out.cells.1.1; have q1 : w5.cell? ⟨w.heap.size + 1, 1, none⟩ = some (.string (mkS T)) := TK5.out.cells.1.2.1; have q2 : w5.cell? ⟨w.heap.size + 1, 2, none⟩ = some (.string (mkS A)) := TK5.out.cells.1.2.2.1; have q3 : w5.cell? ⟨w.heap.size + 1, 3, none⟩ = some (.bool EE) := TK5.out.cells.1.2.2.2; have g0 : w5.frozen? ⟨w.heap.size + 1, 0, none⟩ = false := TK5.out.cells.2.2.1; have g1 : w5.frozen? ⟨w.heap.size + 1, 1, none⟩ = false := TK5.out.cells.2.2.2.1; have g2 : w5.frozen? ⟨w.heap.size + 1, 2, none⟩ = false := TK5.out.cells.2.2.2.2.1; have g3 : w5.frozen? ⟨w.heap.size + 1, 3, none⟩ = false := TK5.out.cells.2.2.2.2.2; have m0 : w5.cell? ⟨w1.heap.size, 0, none⟩ = some (.int .i64 9) := TK5.out.cells.2.1.1; have m1 : w5.cell? ⟨w1.heap.size, 1, none⟩ = some (.string (mkS T2)) := TK5.out.cells.2.1.2.1; have m2 : w5.cell? ⟨w1.heap.size, 2, none⟩ = some (.string (mkS A2)) := TK5.out.cells.2.1.2.2.1; have m3 : w5.cell? ⟨w1.heap.size, 3, none⟩ = some (.bool E2) := TK5.out.cells.2.1.2.2.2)
        have TK6 := Lib.hid TK5.out.drop
        go_roundw
        case rel => exact ⟨k + 1, ⟨co ++ [(tx 5 [] cr.dropLast, 0)], ⟨9, T2, A2, E2⟩, [], cp⟩, L ++ [(⟨5, ⟨#[]⟩, mkS cr.dropLast, none, 0, 0⟩ : TokP)], pv, P, by omega, by go_num, (Nat.zero_le _), (by simp; omega), (by exact Nat.le_succ_of_le hpl), HRN.out, HOK.out _ rfl, sig_snoc HSIG.out rfl, HLEN.out, vals_more HVALS.out, text_snoc HTX.out HDS.out, (by rw [HNW.out]; exact (TK6.out.setS ⟨9, T2, A2, E2⟩ hnS).home)⟩
        case measure => simp [intOf]; omega
      case endn =>
        as_aux_lemma =>
        rename_i h1 h2 h3
        simp only [hn] at h1 h2 h3 HRN HOK
        subst h1; subst h2
        have HNK : Hid (nowK 14 = 0) := by show _ = _; unfold nowK; rw [if_neg (by omega)]
        rw [HNK.out] at TK
        have HNW : Hid (nowK 9 = 0) := by show _ = _; unfold nowK; rw [if_neg (by omega)]
        have TK0 : Hid (TkG w _ _ L cr ⟨14, T, A, EE⟩ #[.int .i64 0, .string ⟨#[]⟩, .string ⟨#[]⟩, pv] pv P (w.heap.size + 1) ⟨14, T, A, EE⟩ wr) := TK.out
        have s0 : wr.cell? ⟨w.heap.size + 1, 0, none⟩ = some (.int .i64 14) := TK0.out.cells.1.1
        have s1 : wr.cell? ⟨w.heap.size + 1, 1, none⟩ = some (.string (mkS T)) := TK0.out.cells.1.2.1
        have s2 : wr.cell? ⟨w.heap.size + 1, 2, none⟩ = some (.string (mkS A)) := TK0.out.cells.1.2.2.1
        have s3 : wr.cell? ⟨w.heap.size + 1, 3, none⟩ = some (.bool EE) := TK0.out.cells.1.2.2.2
        clear TK hn
        go_wp2_with fail
        refine (CS.out _).mono ?_
        rintro e w1 ⟨rfl, b1⟩
        have TK1 := Lib.hid (TK0.out.below b1)
        have TK2 : Hid (TkG w _ _ L cr ⟨14, T, A, EE⟩ #[.int .i64 0, .string ⟨#[]⟩, .string ⟨#[]⟩, pv] pv P w1.heap.size ⟨9, T2, A2, E2⟩ (w1.alloc (.cells #[.int .i64 9, .string (mkS T2), .string (mkS A2), .bool E2] 57 (0, 0)))) := TK1.out.fresh ⟨9, T2, A2, E2⟩
        have hnS : w1.heap.size ≠ w.heap.size + 1 := by have := bld_ltS TK1.out.s; omega
        have hnN : w1.heap.size ≠ w.heap.size + 1 + 1 + 1 := by have := bld_ltS TK1.out.n; omega
        have hws := TK2.out.b.size
        clear s0 s1 s2 s3 b1 TK0 TK1
        have s0 : (w1.alloc (.cells #[.int .i64 9, .string (mkS T2), .string (mkS A2), .bool E2] 57 (0, 0))).cell? ⟨w.heap.size + 1, 0, none⟩ = some (.int .i64 14) := TK2.out.cells.1.1
        have s1 : (w1.alloc (.cells #[.int .i64 9, .string (mkS T2), .string (mkS A2), .bool E2] 57 (0, 0))).cell? ⟨w.heap.size + 1, 1, none⟩ = some (.string (mkS T)) := TK2.out.cells.1.2.1
        have s2 : (w1.alloc (.cells #[.int .i64 9, .string (mkS T2), .string (mkS A2), .bool E2] 57 (0, 0))).cell? ⟨w.heap.size + 1, 2, none⟩ = some (.string (mkS A)) := TK2.out.cells.1.2.2.1
        have s3 : (w1.alloc (.cells #[.int .i64 9, .string (mkS T2), .string (mkS A2), .bool E2] 57 (0, 0))).cell? ⟨w.heap.size + 1, 3, none⟩ = some (.bool EE) := TK2.out.cells.1.2.2.2
        have f0 : (w1.alloc (.cells #[.int .i64 9, .string (mkS T2), .string (mkS A2), .bool E2] 57 (0, 0))).frozen? ⟨w.heap.size + 1, 0, none⟩ = false := TK2.out.cells.2.2.1
        have f1 : (w1.alloc (.cells #[.int .i64 9, .string (mkS T2), .string (mkS A2), .bool E2] 57 (0, 0))).frozen? ⟨w.heap.size + 1, 1, none⟩ = false := TK2.out.cells.2.2.2.1
        have f2 : (w1.alloc (.cells #[.int .i64 9, .string (mkS T2), .string (mkS A2), .bool E2] 57 (0, 0))).frozen? ⟨w.heap.size + 1, 2, none⟩ = false := TK2.out.cells.2.2.2.2.1
        have f3 : (w1.alloc (.cells #[.int .i64 9, .string (mkS T2), .string (mkS A2), .bool E2] 57 (0, 0))).frozen? ⟨w.heap.size + 1, 3, none⟩ = false := TK2.out.cells.2.2.2.2.2
        obtain ⟨ra, rc, rfl, _⟩ := own_formn TK2.out.r
        have hl1 : ¬ (1 : Int) < (cr.length : Int) := by omega
        have TK6 := Lib.hid TK2.out.drop
        go_wp2
        go_roundw
        case rel => exact ⟨k + 1, ⟨co, ⟨9, T2, A2, E2⟩, [], cp⟩, L, pv, P, by omega, by go_num, (Nat.zero_le _), (by exact Nat.le_succ_of_le hol), (by exact Nat.le_succ_of_le hpl), HRN.out, HOK.out _ rfl, HSIG.out, HLEN.out, vals_more HVALS.out, HTX.out, (by rw [HNW.out]; exact (TK6.out.setS ⟨9, T2, A2, E2⟩ hnS).home)⟩
        case measure => simp [intOf]; omega
      case code =>
        as_aux_lemma =>
        rename_i h1 h2 h3
        simp only [hn] at h1 h2 h3 HRN HOK
        have HNK : Hid (nowK M = 0) := by show _ = _; unfold nowK; rw [if_neg (by omega)]
        rw [HNK.out] at TK
        have n9 : N < 2 ∨ 8 < N := by have := (step_from HV.out s[k]).2.1; rw [hn] at this; simp only at this; omega
        have HNW : Hid (nowK N = 0) := by show _ = _; unfold nowK; rw [if_neg (by omega)]
        have mf0 : ((M : Int) == 0) = false := kindF (K := M) (n := 0) (by omega)
        have mf1 : ((M : Int) == 1) = false := kindF (K := M) (n := 1) (by omega)
        have mf9 : ((M : Int) == 9) = false := kindF (K := M) (n := 9) (by omega)
        have mf10 : ((M : Int) == 10) = false := kindF (K := M) (n := 10) (by omega)
        have nf15 : ((N : Int) == 15) = false := kindF (K := N) (n := 15) h3
        have t9 : (11 : Int) ≤ (M : Int) := by omega
        have t8 : ¬ (M : Int) ≤ 8 := by omega
        have t2 : (2 : Int) ≤ (M : Int) := by omega
        have hb14 : (((M : Int) == 14) = true ∧ ((N : Int) == 9) = false) ∨ ((M : Int) == 14) = false := by
          by_cases e : M = 14
          · exact .inl ⟨kindT (n := 14) e, kindF (n := 9) (fun e2 => h2 ⟨e, e2⟩)⟩
          · exact .inr (kindF (n := 14) e)
        have TK0 : Hid (TkG w _ _ L cr ⟨M, T, A, EE⟩ #[.int .i64 0, .string ⟨#[]⟩, .string ⟨#[]⟩, pv] pv P (w.heap.size + 1) ⟨M, T, A, EE⟩ wr) := TK.out
        have s0 : wr.cell? ⟨w.heap.size + 1, 0, none⟩ = some (.int .i64 (M : Int)) := TK0.out.cells.1.1
        have s1 : wr.cell? ⟨w.heap.size + 1, 1, none⟩ = some (.string (mkS T)) := TK0.out.cells.1.2.1
        have s2 : wr.cell? ⟨w.heap.size + 1, 2, none⟩ = some (.string (mkS A)) := TK0.out.cells.1.2.2.1
        have s3 : wr.cell? ⟨w.heap.size + 1, 3, none⟩ = some (.bool EE) := TK0.out.cells.1.2.2.2
        clear TK hn h2 h3 h1 n9
        go_wp2_with fail
        refine (CS.out _).mono ?_
        rintro e w1 ⟨rfl, b1⟩
        have TK1 := Lib.hid (TK0.out.below b1)
        have TK2 : Hid (TkG w _ _ L cr ⟨M, T, A, EE⟩ #[.int .i64 0, .string ⟨#[]⟩, .string ⟨#[]⟩, pv] pv P w1.heap.size ⟨N, T2, A2, E2⟩ (w1.alloc (.cells #[.int .i64 (N : Int), .string (mkS T2), .string (mkS A2), .bool E2] 57 (0, 0)))) := TK1.out.fresh ⟨N, T2, A2, E2⟩
        have hnS : w1.heap.size ≠ w.heap.size + 1 := by have := bld_ltS TK1.out.s; omega
        have hnN : w1.heap.size ≠ w.heap.size + 1 + 1 + 1 := by have := bld_ltS TK1.out.n; omega
        have hws := TK2.out.b.size
        clear s0 s1 s2 s3 b1 TK0 TK1
        have s0 : (w1.alloc (.cells #[.int .i64 (N : Int), .string (mkS T2), .string (mkS A2), .bool E2] 57 (0, 0))).cell? ⟨w.heap.size + 1, 0, none⟩ = some (.int .i64 (M : Int)) := TK2.out.cells.1.1
        have s1 : (w1.alloc (.cells #[.int .i64 (N : Int), .string (mkS T2), .string (mkS A2), .bool E2] 57 (0, 0))).cell? ⟨w.heap.size + 1, 1, none⟩ = some (.string (mkS T)) := TK2.out.cells.1.2.1
        have s2 : (w1.alloc (.cells #[.int .i64 (N : Int), .string (mkS T2), .string (mkS A2), .bool E2] 57 (0, 0))).cell? ⟨w.heap.size + 1, 2, none⟩ = some (.string (mkS A)) := TK2.out.cells.1.2.2.1
        have s3 : (w1.alloc (.cells #[.int .i64 (N : Int), .string (mkS T2), .string (mkS A2), .bool E2] 57 (0, 0))).cell? ⟨w.heap.size + 1, 3, none⟩ = some (.bool EE) := TK2.out.cells.1.2.2.2
        have f0 : (w1.alloc (.cells #[.int .i64 (N : Int), .string (mkS T2), .string (mkS A2), .bool E2] 57 (0, 0))).frozen? ⟨w.heap.size + 1, 0, none⟩ = false := TK2.out.cells.2.2.1
        have f1 : (w1.alloc (.cells #[.int .i64 (N : Int), .string (mkS T2), .string (mkS A2), .bool E2] 57 (0, 0))).frozen? ⟨w.heap.size + 1, 1, none⟩ = false := TK2.out.cells.2.2.2.1
        have f2 : (w1.alloc (.cells #[.int .i64 (N : Int), .string (mkS T2), .string (mkS A2), .bool E2] 57 (0, 0))).frozen? ⟨w.heap.size + 1, 2, none⟩ = false := TK2.out.cells.2.2.2.2.1
        have f3 : (w1.alloc (.cells #[.int .i64 (N : Int), .string (mkS T2), .string (mkS A2), .bool E2] 57 (0, 0))).frozen? ⟨w.heap.size + 1, 3, none⟩ = false := TK2.out.cells.2.2.2.2.2
        rcases hb14 with ⟨c1, c2⟩ | c1
        · go_wp2_with (at_builtin; refine wpList_pushB2 (.tmp 137) (.tmp 139) w.heap.size s[k] _ cr.length cr TK2.out.r hws (by omega) rfl (by rfl) (by rfl) (w1.heap.size + 1) (by simp) (by rfl) ?_; intro v5 w5 o5 g5 b5; have TK5 : Hid (TkG w _ v5 L (cr ++ [s[k]]) ⟨M, T, A, EE⟩ #[.int .i64 0, .string ⟨#[]⟩, .string ⟨#[]⟩, pv] pv P w1.heap.size ⟨N, T2, A2, E2⟩ w5) := TK2.out.byte o5 g5; clear o5 g5 b5; have q0 : w5.cell? ⟨w.heap.size + 1, 0, none⟩ = some (.int .i64 (M : Int)) := TK5.out.cells.1.1; have q1 : w5.cell? ⟨w.heap.size + 1, 1, none⟩ = some (.string (mkS T)) := TK5.out.cells.1.2.1; have q2 : w5.cell? ⟨w.heap.size + 1, 2, none⟩ = some (.string (mkS A)) := TK5.out.cells.1.2.2.1; have q3 : w5.cell? ⟨w.heap.size + 1, 3, none⟩ = some (.bool EE) := TK5.out.cells.1.2.2.2; have g0 : w5.frozen? ⟨w.heap.size + 1, 0, none⟩ = false := TK5.out.cells.2.2.1; have g1 : w5.frozen? ⟨w.heap.size + 1, 1, none⟩ = false := TK5.out.cells.2.2.2.1; have g2 : w5.frozen? ⟨w.heap.size + 1, 2, none⟩ = false := TK5.out.cells.2.2.2.2.1; have g3 : w5.frozen? ⟨w.heap.size + 1, 3, none⟩ = false := TK5.out.cells.2.2.2.2.2; have m0 : w5.cell? ⟨w1.heap.size, 0, none⟩ = some (.int .i64 (N : Int)) := TK5.out.cells.2.1.1; have m1 : w5.cell? ⟨w1.heap.size, 1, none⟩ = some (.string (mkS T2)) := TK5.out.cells.2.1.2.1; have m2 : w5.cell? ⟨w1.heap.size, 2, none⟩ = some (.string (mkS A2)) := TK5.out.cells.2.1.2.2.1; have m3 : w5.cell? ⟨w1.heap.size, 3, none⟩ = some (.bool E2) := TK5.out.cells.2.1.2.2.2)
          go_roundw
          case rel => exact ⟨k + 1, ⟨co, ⟨N, T2, A2, E2⟩, cr ++ [s[k]], cp⟩, L, pv, P, by omega, by go_num, (by simp; omega), (by exact Nat.le_succ_of_le hol), (by exact Nat.le_succ_of_le hpl), HRN.out, HOK.out _ rfl, HSIG.out, HLEN.out, vals_more HVALS.out, HTX.out, (by rw [HNW.out]; exact (TK5.out.setS ⟨N, T2, A2, E2⟩ hnS).home)⟩
          case measure => simp [intOf]; omega
        · go_wp2_with (at_builtin; refine wpList_pushB2 (.tmp 137) (.tmp 139) w.heap.size s[k] _ cr.length cr TK2.out.r hws (by omega) rfl (by rfl) (by rfl) (w1.heap.size + 1) (by simp) (by rfl) ?_; intro v5 w5 o5 g5 b5; have TK5 : Hid (TkG w _ v5 L (cr ++ [s[k]]) ⟨M, T, A, EE⟩ #[.int .i64 0, .string ⟨#[]⟩, .string ⟨#[]⟩, pv] pv P w1.heap.size ⟨N, T2, A2, E2⟩ w5) := TK2.out.byte o5 g5; clear o5 g5 b5; have q0 : w5.cell? ⟨w.heap.size + 1, 0, none⟩ = some (.int .i64 (M : Int)) := TK5.out.cells.1.1; have q1 : w5.cell? ⟨w.heap.size + 1, 1, none⟩ = some (.string (mkS T)) := TK5.out.cells.1.2.1; have q2 : w5.cell? ⟨w.heap.size + 1, 2, none⟩ = some (.string (mkS A)) := TK5.out.cells.1.2.2.1; have q3 : w5.cell? ⟨w.heap.size + 1, 3, none⟩ = some (.bool EE) := TK5.out.cells.1.2.2.2; have g0 : w5.frozen? ⟨w.heap.size + 1, 0, none⟩ = false := TK5.out.cells.2.2.1; have g1 : w5.frozen? ⟨w.heap.size + 1, 1, none⟩ = false := TK5.out.cells.2.2.2.1; have g2 : w5.frozen? ⟨w.heap.size + 1, 2, none⟩ = false := TK5.out.cells.2.2.2.2.1; have g3 : w5.frozen? ⟨w.heap.size + 1, 3, none⟩ = false := TK5.out.cells.2.2.2.2.2; have m0 : w5.cell? ⟨w1.heap.size, 0, none⟩ = some (.int .i64 (N : Int)) := TK5.out.cells.2.1.1; have m1 : w5.cell? ⟨w1.heap.size, 1, none⟩ = some (.string (mkS T2)) := TK5.out.cells.2.1.2.1; have m2 : w5.cell? ⟨w1.heap.size, 2, none⟩ = some (.string (mkS A2)) := TK5.out.cells.2.1.2.2.1; have m3 : w5.cell? ⟨w1.heap.size, 3, none⟩ = some (.bool E2) := TK5.out.cells.2.1.2.2.2)
          go_roundw
          case rel => exact ⟨k + 1, ⟨co, ⟨N, T2, A2, E2⟩, cr ++ [s[k]], cp⟩, L, pv, P, by omega, by go_num, (by simp; omega), (by exact Nat.le_succ_of_le hol), (by exact Nat.le_succ_of_le hpl), HRN.out, HOK.out _ rfl, HSIG.out, HLEN.out, vals_more HVALS.out, HTX.out, (by rw [HNW.out]; exact (TK5.out.setS ⟨N, T2, A2, E2⟩ hnS).home)⟩
          case measure => simp [intOf]; omega
      case rest =>
        as_aux_lemma =>
        rename_i h1 h2 h3 h4 h5 h6 h7 h8
        simp only [hn] at h1 h2 h3 h4 h5 h6 h7 h8 HRN HOK
        have HNK : Hid (nowK M = 2) := by show _ = _; unfold nowK; rw [if_pos (by omega)]
        rw [HNK.out] at TK
        obtain ⟨pn, hpn⟩ : ∃ pn, P.length = pn := ⟨_, rfl⟩
        obtain ⟨pa, pc, rfl, _, hpc, hpc2, _⟩ := ownN_formn (ownM TK.out.q hpn)
        have n9 : 2 ≤ N ∧ N ≤ 8 := by have := (step_from HV.out s[k]).2.2.1; rw [hn] at this; simp only at this; omega
        have HNW : Hid (nowK N = 2) := by show _ = _; unfold nowK; rw [if_pos (by omega)]
        have mf0 : ((M : Int) == 0) = false := kindF (K := M) (n := 0) (by omega)
        have mf1 : ((M : Int) == 1) = false := kindF (K := M) (n := 1) (by omega)
        have mf9 : ((M : Int) == 9) = false := kindF (K := M) (n := 9) (by omega)
        have mf10 : ((M : Int) == 10) = false := kindF (K := M) (n := 10) (by omega)
        have mf14 : ((M : Int) == 14) = false := kindF (K := M) (n := 14) (by omega)
        have t9 : ¬ (11 : Int) ≤ (M : Int) := by omega
        have t8 : (M : Int) ≤ 8 := by omega
        have t2 : (2 : Int) ≤ (M : Int) := by omega
        have nf15 : ((N : Int) == 15) = false := kindF (K := N) (n := 15) h8
        have nf0 : ((N : Int) == 0) = false := kindF (K := N) (n := 0) h3
        have nf11 : ((N : Int) == 11) = false := kindF (K := N) (n := 11) h4
        have nf4 : ((N : Int) == 4) = false := kindF (K := N) (n := 4) h5
        have nf8 : ((N : Int) == 8) = false := kindF (K := N) (n := 8) h6
        have hq : (((M : Int) == (N : Int)) = false) ∨ (((M : Int) == (N : Int)) = true ∧ ((N : Int) == 6) = false ∧ ((N : Int) == 7) = false) := by
          by_cases e : M = N
          · exact .inr ⟨by simp; omega, kindF (n := 6) (fun e2 => h7 ⟨e, .inl e2⟩), kindF (n := 7) (fun e2 => h7 ⟨e, .inr e2⟩)⟩
          · exact .inl (by simp; omega)
        have TK0 : Hid (TkG w _ _ L cr ⟨M, T, A, EE⟩ #[.int .i64 2, .string ⟨#[]⟩, .string ⟨#[]⟩, (.slice pa pn pc)] (.slice pa pn pc) P (w.heap.size + 1) ⟨M, T, A, EE⟩ wr) := TK.out
        have s0 : wr.cell? ⟨w.heap.size + 1, 0, none⟩ = some (.int .i64 (M : Int)) := TK0.out.cells.1.1
        have s1 : wr.cell? ⟨w.heap.size + 1, 1, none⟩ = some (.string (mkS T)) := TK0.out.cells.1.2.1
        have s2 : wr.cell? ⟨w.heap.size + 1, 2, none⟩ = some (.string (mkS A)) := TK0.out.cells.1.2.2.1
        have s3 : wr.cell? ⟨w.heap.size + 1, 3, none⟩ = some (.bool EE) := TK0.out.cells.1.2.2.2
        clear TK hn h3 h4 h5 h6 h7 h8
        go_wp2_with fail
        refine (CS.out _).mono ?_
        rintro e w1 ⟨rfl, b1⟩
        have TK1 := Lib.hid (TK0.out.below b1)
        have TK2 : Hid (TkG w _ _ L cr ⟨M, T, A, EE⟩ #[.int .i64 2, .string ⟨#[]⟩, .string ⟨#[]⟩, (.slice pa pn pc)] (.slice pa pn pc) P w1.heap.size ⟨N, T2, A2, E2⟩ (w1.alloc (.cells #[.int .i64 (N : Int), .string (mkS T2), .string (mkS A2), .bool E2] 57 (0, 0)))) := TK1.out.fresh ⟨N, T2, A2, E2⟩
        have hnS : w1.heap.size ≠ w.heap.size + 1 := by have := bld_ltS TK1.out.s; omega
        have hnN : w1.heap.size ≠ w.heap.size + 1 + 1 + 1 := by have := bld_ltS TK1.out.n; omega
        have hws := TK2.out.b.size
        clear s0 s1 s2 s3 b1 TK0 TK1
        have s0 : (w1.alloc (.cells #[.int .i64 (N : Int), .string (mkS T2), .string (mkS A2), .bool E2] 57 (0, 0))).cell? ⟨w.heap.size + 1, 0, none⟩ = some (.int .i64 (M : Int)) := TK2.out.cells.1.1
        have s1 : (w1.alloc (.cells #[.int .i64 (N : Int), .string (mkS T2), .string (mkS A2), .bool E2] 57 (0, 0))).cell? ⟨w.heap.size + 1, 1, none⟩ = some (.string (mkS T)) := TK2.out.cells.1.2.1
        have s2 : (w1.alloc (.cells #[.int .i64 (N : Int), .string (mkS T2), .string (mkS A2), .bool E2] 57 (0, 0))).cell? ⟨w.heap.size + 1, 2, none⟩ = some (.string (mkS A)) := TK2.out.cells.1.2.2.1
        have s3 : (w1.alloc (.cells #[.int .i64 (N : Int), .string (mkS T2), .string (mkS A2), .bool E2] 57 (0, 0))).cell? ⟨w.heap.size + 1, 3, none⟩ = some (.bool EE) := TK2.out.cells.1.2.2.2
        have f0 : (w1.alloc (.cells #[.int .i64 (N : Int), .string (mkS T2), .string (mkS A2), .bool E2] 57 (0, 0))).frozen? ⟨w.heap.size + 1, 0, none⟩ = false := TK2.out.cells.2.2.1
        have f1 : (w1.alloc (.cells #[.int .i64 (N : Int), .string (mkS T2), .string (mkS A2), .bool E2] 57 (0, 0))).frozen? ⟨w.heap.size + 1, 1, none⟩ = false := TK2.out.cells.2.2.2.1
        have f2 : (w1.alloc (.cells #[.int .i64 (N : Int), .string (mkS T2), .string (mkS A2), .bool E2] 57 (0, 0))).frozen? ⟨w.heap.size + 1, 2, none⟩ = false := TK2.out.cells.2.2.2.2.1
        have f3 : (w1.alloc (.cells #[.int .i64 (N : Int), .string (mkS T2), .string (mkS A2), .bool E2] 57 (0, 0))).frozen? ⟨w.heap.size + 1, 3, none⟩ = false := TK2.out.cells.2.2.2.2.2
        rcases hq with c1 | ⟨c1, c2, c3⟩
        · have n0 : (w1.alloc (.cells #[.int .i64 (N : Int), .string (mkS T2), .string (mkS A2), .bool E2] 57 (0, 0))).cell? ⟨w.heap.size + 1 + 1 + 1, 0, none⟩ = some (.int .i64 2) := (TK2.out).nows.1.1
          have n1 : (w1.alloc (.cells #[.int .i64 (N : Int), .string (mkS T2), .string (mkS A2), .bool E2] 57 (0, 0))).cell? ⟨w.heap.size + 1 + 1 + 1, 1, none⟩ = some (.string ⟨#[]⟩) := (TK2.out).nows.1.2.1
          have n2 : (w1.alloc (.cells #[.int .i64 (N : Int), .string (mkS T2), .string (mkS A2), .bool E2] 57 (0, 0))).cell? ⟨w.heap.size + 1 + 1 + 1, 2, none⟩ = some (.string ⟨#[]⟩) := (TK2.out).nows.1.2.2.1
          have n3 : (w1.alloc (.cells #[.int .i64 (N : Int), .string (mkS T2), .string (mkS A2), .bool E2] 57 (0, 0))).cell? ⟨w.heap.size + 1 + 1 + 1, 3, none⟩ = some ((.slice pa pn pc)) := (TK2.out).nows.1.2.2.2
          go_wp2
          go_roundw
          case rel => exact ⟨k + 1, ⟨co, ⟨N, T2, A2, E2⟩, cr, cp⟩, L, (.slice pa pn pc), P, by omega, by go_num, (by exact Nat.le_succ_of_le hrl), (by exact Nat.le_succ_of_le hol), (by exact Nat.le_succ_of_le hpl), HRN.out, HOK.out _ rfl, HSIG.out, HLEN.out, vals_more HVALS.out, HTX.out, (by rw [HNW.out]; exact (TK2.out.setS ⟨N, T2, A2, E2⟩ hnS).home)⟩
          case measure => simp [intOf]; omega
        · have n0 : (w1.alloc (.cells #[.int .i64 (N : Int), .string (mkS T2), .string (mkS A2), .bool E2] 57 (0, 0))).cell? ⟨w.heap.size + 1 + 1 + 1, 0, none⟩ = some (.int .i64 2) := (TK2.out).nows.1.1
          have n1 : (w1.alloc (.cells #[.int .i64 (N : Int), .string (mkS T2), .string (mkS A2), .bool E2] 57 (0, 0))).cell? ⟨w.heap.size + 1 + 1 + 1, 1, none⟩ = some (.string ⟨#[]⟩) := (TK2.out).nows.1.2.1
          have n2 : (w1.alloc (.cells #[.int .i64 (N : Int), .string (mkS T2), .string (mkS A2), .bool E2] 57 (0, 0))).cell? ⟨w.heap.size + 1 + 1 + 1, 2, none⟩ = some (.string ⟨#[]⟩) := (TK2.out).nows.1.2.2.1
          have n3 : (w1.alloc (.cells #[.int .i64 (N : Int), .string (mkS T2), .string (mkS A2), .bool E2] 57 (0, 0))).cell? ⟨w.heap.size + 1 + 1 + 1, 3, none⟩ = some ((.slice pa pn pc)) := (TK2.out).nows.1.2.2.2
          go_wp2
          go_roundw
          case rel => exact ⟨k + 1, ⟨co, ⟨N, T2, A2, E2⟩, cr, cp⟩, L, (.slice pa pn pc), P, by omega, by go_num, (by exact Nat.le_succ_of_le hrl), (by exact Nat.le_succ_of_le hol), (by exact Nat.le_succ_of_le hpl), HRN.out, HOK.out _ rfl, HSIG.out, HLEN.out, vals_more HVALS.out, HTX.out, (by rw [HNW.out]; exact (TK2.out.setS ⟨N, T2, A2, E2⟩ hnS).home)⟩
          case measure => simp [intOf]; omega
      case attr =>
        as_aux_lemma =>
        rename_i h1 h2
        simp only [hn] at h1 h2 HRN HOK
        subst h1; subst h2
        have HNK : Hid (nowK 3 = 2) := by show _ = _; unfold nowK; rw [if_pos (by omega)]
        rw [HNK.out] at TK
        have HNW : Hid (nowK 4 = 2) := by show _ = _; unfold nowK; rw [if_pos (by omega)]
        obtain ⟨pn, hpn⟩ : ∃ pn, P.length = pn := ⟨_, rfl⟩
        obtain ⟨pa, pc, rfl, _, hpc, hpc2, _⟩ := ownN_formn (ownM TK.out.q hpn)
        have TK0 : Hid (TkG w _ _ L cr ⟨3, T, A, EE⟩ #[.int .i64 2, .string ⟨#[]⟩, .string ⟨#[]⟩, (.slice pa pn pc)] (.slice pa pn pc) P (w.heap.size + 1) ⟨3, T, A, EE⟩ wr) := TK.out
        have s0 : wr.cell? ⟨w.heap.size + 1, 0, none⟩ = some (.int .i64 3) := TK0.out.cells.1.1
        have s1 : wr.cell? ⟨w.heap.size + 1, 1, none⟩ = some (.string (mkS T)) := TK0.out.cells.1.2.1
        have s2 : wr.cell? ⟨w.heap.size + 1, 2, none⟩ = some (.string (mkS A)) := TK0.out.cells.1.2.2.1
        have s3 : wr.cell? ⟨w.heap.size + 1, 3, none⟩ = some (.bool EE) := TK0.out.cells.1.2.2.2
        clear TK hn
        go_wp2_with fail
        refine (CS.out _).mono ?_
        rintro e w1 ⟨rfl, b1⟩
        have TK1 := Lib.hid (TK0.out.below b1)
        have TK2 : Hid (TkG w _ _ L cr ⟨3, T, A, EE⟩ #[.int .i64 2, .string ⟨#[]⟩, .string ⟨#[]⟩, (.slice pa pn pc)] (.slice pa pn pc) P w1.heap.size ⟨4, T2, A2, E2⟩ (w1.alloc (.cells #[.int .i64 4, .string (mkS T2), .string (mkS A2), .bool E2] 57 (0, 0)))) := TK1.out.fresh ⟨4, T2, A2, E2⟩
        have hnS : w1.heap.size ≠ w.heap.size + 1 := by have := bld_ltS TK1.out.s; omega
        have hnN : w1.heap.size ≠ w.heap.size + 1 + 1 + 1 := by have := bld_ltS TK1.out.n; omega
        have hws := TK2.out.b.size
        clear s0 s1 s2 s3 b1 TK0 TK1
        have s0 : (w1.alloc (.cells #[.int .i64 4, .string (mkS T2), .string (mkS A2), .bool E2] 57 (0, 0))).cell? ⟨w.heap.size + 1, 0, none⟩ = some (.int .i64 3) := TK2.out.cells.1.1
        have s1 : (w1.alloc (.cells #[.int .i64 4, .string (mkS T2), .string (mkS A2), .bool E2] 57 (0, 0))).cell? ⟨w.heap.size + 1, 1, none⟩ = some (.string (mkS T)) := TK2.out.cells.1.2.1
        have s2 : (w1.alloc (.cells #[.int .i64 4, .string (mkS T2), .string (mkS A2), .bool E2] 57 (0, 0))).cell? ⟨w.heap.size + 1, 2, none⟩ = some (.string (mkS A)) := TK2.out.cells.1.2.2.1
        have s3 : (w1.alloc (.cells #[.int .i64 4, .string (mkS T2), .string (mkS A2), .bool E2] 57 (0, 0))).cell? ⟨w.heap.size + 1, 3, none⟩ = some (.bool EE) := TK2.out.cells.1.2.2.2
        have f0 : (w1.alloc (.cells #[.int .i64 4, .string (mkS T2), .string (mkS A2), .bool E2] 57 (0, 0))).frozen? ⟨w.heap.size + 1, 0, none⟩ = false := TK2.out.cells.2.2.1
        have f1 : (w1.alloc (.cells #[.int .i64 4, .string (mkS T2), .string (mkS A2), .bool E2] 57 (0, 0))).frozen? ⟨w.heap.size + 1, 1, none⟩ = false := TK2.out.cells.2.2.2.1
        have f2 : (w1.alloc (.cells #[.int .i64 4, .string (mkS T2), .string (mkS A2), .bool E2] 57 (0, 0))).frozen? ⟨w.heap.size + 1, 2, none⟩ = false := TK2.out.cells.2.2.2.2.1
        have f3 : (w1.alloc (.cells #[.int .i64 4, .string (mkS T2), .string (mkS A2), .bool E2] 57 (0, 0))).frozen? ⟨w.heap.size + 1, 3, none⟩ = false := TK2.out.cells.2.2.2.2.2
        have n0 : (w1.alloc (.cells #[.int .i64 4, .string (mkS T2), .string (mkS A2), .bool E2] 57 (0, 0))).cell? ⟨w.heap.size + 1 + 1 + 1, 0, none⟩ = some (.int .i64 2) := (TK2.out).nows.1.1
        have n1 : (w1.alloc (.cells #[.int .i64 4, .string (mkS T2), .string (mkS A2), .bool E2] 57 (0, 0))).cell? ⟨w.heap.size + 1 + 1 + 1, 1, none⟩ = some (.string ⟨#[]⟩) := (TK2.out).nows.1.2.1
        have n2 : (w1.alloc (.cells #[.int .i64 4, .string (mkS T2), .string (mkS A2), .bool E2] 57 (0, 0))).cell? ⟨w.heap.size + 1 + 1 + 1, 2, none⟩ = some (.string ⟨#[]⟩) := (TK2.out).nows.1.2.2.1
        have n3 : (w1.alloc (.cells #[.int .i64 4, .string (mkS T2), .string (mkS A2), .bool E2] 57 (0, 0))).cell? ⟨w.heap.size + 1 + 1 + 1, 3, none⟩ = some ((.slice pa pn pc)) := (TK2.out).nows.1.2.2.2
        have mm0 : (w1.alloc (.cells #[.int .i64 4, .string (mkS T2), .string (mkS A2), .bool E2] 57 (0, 0))).cell? ⟨w1.heap.size, 0, none⟩ = some (.int .i64 4) := TK2.out.cells.2.1.1
        have mm1 : (w1.alloc (.cells #[.int .i64 4, .string (mkS T2), .string (mkS A2), .bool E2] 57 (0, 0))).cell? ⟨w1.heap.size, 1, none⟩ = some (.string (mkS T2)) := TK2.out.cells.2.1.2.1
        have mm2 : (w1.alloc (.cells #[.int .i64 4, .string (mkS T2), .string (mkS A2), .bool E2] 57 (0, 0))).cell? ⟨w1.heap.size, 2, none⟩ = some (.string (mkS A2)) := TK2.out.cells.2.1.2.2.1
        have mm3 : (w1.alloc (.cells #[.int .i64 4, .string (mkS T2), .string (mkS A2), .bool E2] 57 (0, 0))).cell? ⟨w1.heap.size, 3, none⟩ = some (.bool E2) := TK2.out.cells.2.1.2.2.2
        have OWQ := Lib.hid (ownM TK2.out.q hpn)
        have HPL2 : Hid ((P ++ [(mkS A2, (⟨#[]⟩ : ByteArray))]).length = pn + 1) := by show _ = _; rw [List.length_append, hpn]; rfl
        go_wp2_with (at_builtin; (refine wpList_pushPair (.tmp 163) (.tmp 167) w.heap.size (mkS A2, ⟨#[]⟩) _ pn P OWQ.out hws (by omega) rfl (by rfl) (by rfl) (w1.heap.size + 1) (by simp) (by rfl) ?_; intro v5 w5 o5 g5; have TK5 : Hid (TkG w _ _ L cr ⟨3, T, A, EE⟩ #[.int .i64 2, .string ⟨#[]⟩, .string ⟨#[]⟩, (.slice pa pn pc)] v5 (P ++ [(mkS A2, (⟨#[]⟩ : ByteArray))]) w1.heap.size ⟨4, T2, A2, E2⟩ w5) := TK2.out.pair (P' := P ++ [(mkS A2, (⟨#[]⟩ : ByteArray))]) (by rw [HPL2.out]; exact o5) g5; obtain ⟨pa5, pc5, hv5, _⟩ := ownN_formn o5; subst hv5; clear o5 g5; have q0 : w5.cell? ⟨w.heap.size + 1, 0, none⟩ = some (.int .i64 3) := TK5.out.cells.1.1; have q1 : w5.cell? ⟨w.heap.size + 1, 1, none⟩ = some (.string (mkS T)) := TK5.out.cells.1.2.1; have q2 : w5.cell? ⟨w.heap.size + 1, 2, none⟩ = some (.string (mkS A)) := TK5.out.cells.1.2.2.1; have q3 : w5.cell? ⟨w.heap.size + 1, 3, none⟩ = some (.bool EE) := TK5.out.cells.1.2.2.2; have g0 : w5.frozen? ⟨w.heap.size + 1, 0, none⟩ = false := TK5.out.cells.2.2.1; have g1 : w5.frozen? ⟨w.heap.size + 1, 1, none⟩ = false := TK5.out.cells.2.2.2.1; have g2 : w5.frozen? ⟨w.heap.size + 1, 2, none⟩ = false := TK5.out.cells.2.2.2.2.1; have g3 : w5.frozen? ⟨w.heap.size + 1, 3, none⟩ = false := TK5.out.cells.2.2.2.2.2; have m0 : w5.cell? ⟨w1.heap.size, 0, none⟩ = some (.int .i64 4) := TK5.out.cells.2.1.1; have m1 : w5.cell? ⟨w1.heap.size, 1, none⟩ = some (.string (mkS T2)) := TK5.out.cells.2.1.2.1; have m2 : w5.cell? ⟨w1.heap.size, 2, none⟩ = some (.string (mkS A2)) := TK5.out.cells.2.1.2.2.1; have m3 : w5.cell? ⟨w1.heap.size, 3, none⟩ = some (.bool E2) := TK5.out.cells.2.1.2.2.2; have nn0 : w5.cell? ⟨w.heap.size + 1 + 1 + 1, 0, none⟩ = some (.int .i64 2) := (TK5.out).nows.1.1; have nn1 : w5.cell? ⟨w.heap.size + 1 + 1 + 1, 1, none⟩ = some (.string ⟨#[]⟩) := (TK5.out).nows.1.2.1; have nn2 : w5.cell? ⟨w.heap.size + 1 + 1 + 1, 2, none⟩ = some (.string ⟨#[]⟩) := (TK5.out).nows.1.2.2.1; have nn3 : w5.cell? ⟨w.heap.size + 1 + 1 + 1, 3, none⟩ = some (.slice pa pn pc) := (TK5.out).nows.1.2.2.2; have nf0 : w5.frozen? ⟨w.heap.size + 1 + 1 + 1, 0, none⟩ = false := (TK5.out).nows.2.1; have nf1 : w5.frozen? ⟨w.heap.size + 1 + 1 + 1, 1, none⟩ = false := (TK5.out).nows.2.2.1; have nf2 : w5.frozen? ⟨w.heap.size + 1 + 1 + 1, 2, none⟩ = false := (TK5.out).nows.2.2.2.1; have nf3 : w5.frozen? ⟨w.heap.size + 1 + 1 + 1, 3, none⟩ = false := (TK5.out).nows.2.2.2.2))
        have TK6 : Hid (TkG w _ _ L cr ⟨3, T, A, EE⟩ #[.int .i64 2, .string ⟨#[]⟩, .string ⟨#[]⟩, .slice pa5 (pn + 1) pc5] (.slice pa5 (pn + 1) pc5) (P ++ [(mkS A2, (⟨#[]⟩ : ByteArray))]) w1.heap.size ⟨4, T2, A2, E2⟩ (w5.setCell ⟨w.heap.size + 1 + 1 + 1, 3, none⟩ (.slice pa5 (pn + 1) pc5))) := TK5.out.setN3 hnN (.slice pa5 (pn + 1) pc5)
        go_roundw
        case rel => exact ⟨k + 1, ⟨co, ⟨4, T2, A2, E2⟩, cr, (cp + 1)⟩, L, (.slice pa5 (pn + 1) pc5), (P ++ [(mkS A2, (⟨#[]⟩ : ByteArray))]), by omega, by go_num, (by exact Nat.le_succ_of_le hrl), (by exact Nat.le_succ_of_le hol), (by rw [HPL2.out]; omega), HRN.out, HOK.out _ rfl, HSIG.out, (by rw [HPL2.out, ← hpn, HLEN.out]), (by intro x hx; rcases List.mem_append.1 hx with hx | hx; exact vals_more HVALS.out x hx; rw [List.mem_singleton] at hx; subst hx; exact Nat.zero_le _), HTX.out, (by rw [HNW.out]; exact (TK6.out.setS ⟨4, T2, A2, E2⟩ hnS).home)⟩
        case measure => simp [intOf]; omega
      case more =>
        as_aux_lemma =>
        rename_i h1 h2 h3 h4
        simp only [hn] at h1 h2 h3 h4 HRN HOK
        subst h4
        have HNK : Hid (nowK M = 2) := by show _ = _; unfold nowK; rw [if_pos (by omega)]
        rw [HNK.out] at TK
        have HNW : Hid (nowK 4 = 2) := by show _ = _; unfold nowK; rw [if_pos (by omega)]
        have h44 : 4 ≤ M := by have := (step_from HV.out s[k]).1; rw [hn] at this; simp only at this; omega
        obtain ⟨pm, hpm⟩ : ∃ pm, P.length = pm + 1 := ⟨P.length - 1, by have := HLEN.out; have := HP1.out (by omega) (by omega); omega⟩
        obtain ⟨pg, pc, rfl, hpB, hpl2, hpc, hpc2, hpf, hpcell⟩ := pair_at (ownM TK.out.q hpm) hpm (Nat.succ_pos pm)
        have mf0 : ((M : Int) == 0) = false := kindF (K := M) (n := 0) (by omega)
        have mf1 : ((M : Int) == 1) = false := kindF (K := M) (n := 1) (by omega)
        have mf9 : ((M : Int) == 9) = false := kindF (K := M) (n := 9) (by omega)
        have mf10 : ((M : Int) == 10) = false := kindF (K := M) (n := 10) (by omega)
        have mf14 : ((M : Int) == 14) = false := kindF (K := M) (n := 14) (by omega)
        have t9 : ¬ (11 : Int) ≤ (M : Int) := by omega
        have t8 : (M : Int) ≤ 8 := by omega
        have t2 : (2 : Int) ≤ (M : Int) := by omega
        have mf3 : ((M : Int) == 3) = false := kindF (n := 3) h3
        have TK0 : Hid (TkG w _ _ L cr ⟨M, T, A, EE⟩ #[.int .i64 2, .string ⟨#[]⟩, .string ⟨#[]⟩, (.slice (some ⟨pg, 0, none⟩) (pm + 1) pc)] (.slice (some ⟨pg, 0, none⟩) (pm + 1) pc) P (w.heap.size + 1) ⟨M, T, A, EE⟩ wr) := TK.out
        have s0 : wr.cell? ⟨w.heap.size + 1, 0, none⟩ = some (.int .i64 (M : Int)) := TK0.out.cells.1.1
        have s1 : wr.cell? ⟨w.heap.size + 1, 1, none⟩ = some (.string (mkS T)) := TK0.out.cells.1.2.1
        have s2 : wr.cell? ⟨w.heap.size + 1, 2, none⟩ = some (.string (mkS A)) := TK0.out.cells.1.2.2.1
        have s3 : wr.cell? ⟨w.heap.size + 1, 3, none⟩ = some (.bool EE) := TK0.out.cells.1.2.2.2
        clear TK hn h3 hpcell hpf
        go_wp2_with fail
        refine (CS.out _).mono ?_
        rintro e w1 ⟨rfl, b1⟩
        have TK1 := Lib.hid (TK0.out.below b1)
        have TK2 : Hid (TkG w _ _ L cr ⟨M, T, A, EE⟩ #[.int .i64 2, .string ⟨#[]⟩, .string ⟨#[]⟩, (.slice (some ⟨pg, 0, none⟩) (pm + 1) pc)] (.slice (some ⟨pg, 0, none⟩) (pm + 1) pc) P w1.heap.size ⟨4, T2, A2, E2⟩ (w1.alloc (.cells #[.int .i64 4, .string (mkS T2), .string (mkS A2), .bool E2] 57 (0, 0)))) := TK1.out.fresh ⟨4, T2, A2, E2⟩
        have hnS : w1.heap.size ≠ w.heap.size + 1 := by have := bld_ltS TK1.out.s; omega
        have hnN : w1.heap.size ≠ w.heap.size + 1 + 1 + 1 := by have := bld_ltS TK1.out.n; omega
        have hws := TK2.out.b.size
        clear s0 s1 s2 s3 b1 TK0 TK1
        have s0 : (w1.alloc (.cells #[.int .i64 4, .string (mkS T2), .string (mkS A2), .bool E2] 57 (0, 0))).cell? ⟨w.heap.size + 1, 0, none⟩ = some (.int .i64 (M : Int)) := TK2.out.cells.1.1
        have s1 : (w1.alloc (.cells #[.int .i64 4, .string (mkS T2), .string (mkS A2), .bool E2] 57 (0, 0))).cell? ⟨w.heap.size + 1, 1, none⟩ = some (.string (mkS T)) := TK2.out.cells.1.2.1
        have s2 : (w1.alloc (.cells #[.int .i64 4, .string (mkS T2), .string (mkS A2), .bool E2] 57 (0, 0))).cell? ⟨w.heap.size + 1, 2, none⟩ = some (.string (mkS A)) := TK2.out.cells.1.2.2.1
        have s3 : (w1.alloc (.cells #[.int .i64 4, .string (mkS T2), .string (mkS A2), .bool E2] 57 (0, 0))).cell? ⟨w.heap.size + 1, 3, none⟩ = some (.bool EE) := TK2.out.cells.1.2.2.2
        have f0 : (w1.alloc (.cells #[.int .i64 4, .string (mkS T2), .string (mkS A2), .bool E2] 57 (0, 0))).frozen? ⟨w.heap.size + 1, 0, none⟩ = false := TK2.out.cells.2.2.1
        have f1 : (w1.alloc (.cells #[.int .i64 4, .string (mkS T2), .string (mkS A2), .bool E2] 57 (0, 0))).frozen? ⟨w.heap.size + 1, 1, none⟩ = false := TK2.out.cells.2.2.2.1
        have f2 : (w1.alloc (.cells #[.int .i64 4, .string (mkS T2), .string (mkS A2), .bool E2] 57 (0, 0))).frozen? ⟨w.heap.size + 1, 2, none⟩ = false := TK2.out.cells.2.2.2.2.1
        have f3 : (w1.alloc (.cells #[.int .i64 4, .string (mkS T2), .string (mkS A2), .bool E2] 57 (0, 0))).frozen? ⟨w.heap.size + 1, 3, none⟩ = false := TK2.out.cells.2.2.2.2.2
        have n0 : (w1.alloc (.cells #[.int .i64 4, .string (mkS T2), .string (mkS A2), .bool E2] 57 (0, 0))).cell? ⟨w.heap.size + 1 + 1 + 1, 0, none⟩ = some (.int .i64 2) := (TK2.out).nows.1.1
        have n1 : (w1.alloc (.cells #[.int .i64 4, .string (mkS T2), .string (mkS A2), .bool E2] 57 (0, 0))).cell? ⟨w.heap.size + 1 + 1 + 1, 1, none⟩ = some (.string ⟨#[]⟩) := (TK2.out).nows.1.2.1
        have n2 : (w1.alloc (.cells #[.int .i64 4, .string (mkS T2), .string (mkS A2), .bool E2] 57 (0, 0))).cell? ⟨w.heap.size + 1 + 1 + 1, 2, none⟩ = some (.string ⟨#[]⟩) := (TK2.out).nows.1.2.2.1
        have n3 : (w1.alloc (.cells #[.int .i64 4, .string (mkS T2), .string (mkS A2), .bool E2] 57 (0, 0))).cell? ⟨w.heap.size + 1 + 1 + 1, 3, none⟩ = some ((.slice (some ⟨pg, 0, none⟩) (pm + 1) pc)) := (TK2.out).nows.1.2.2.2
        have mm0 : (w1.alloc (.cells #[.int .i64 4, .string (mkS T2), .string (mkS A2), .bool E2] 57 (0, 0))).cell? ⟨w1.heap.size, 0, none⟩ = some (.int .i64 4) := TK2.out.cells.2.1.1
        have mm1 : (w1.alloc (.cells #[.int .i64 4, .string (mkS T2), .string (mkS A2), .bool E2] 57 (0, 0))).cell? ⟨w1.heap.size, 1, none⟩ = some (.string (mkS T2)) := TK2.out.cells.2.1.2.1
        have mm2 : (w1.alloc (.cells #[.int .i64 4, .string (mkS T2), .string (mkS A2), .bool E2] 57 (0, 0))).cell? ⟨w1.heap.size, 2, none⟩ = some (.string (mkS A2)) := TK2.out.cells.2.1.2.2.1
        have mm3 : (w1.alloc (.cells #[.int .i64 4, .string (mkS T2), .string (mkS A2), .bool E2] 57 (0, 0))).cell? ⟨w1.heap.size, 3, none⟩ = some (.bool E2) := TK2.out.cells.2.1.2.2.2
        obtain ⟨pg2, pc3, hpv, _, hpl3, _, _, hpf2, hpcell2⟩ := pair_at (ownM TK2.out.q hpm) hpm (Nat.succ_pos pm)
        injection hpv with hpv _ hpv2
        injection hpv with hpv
        subst hpv2
        have pgE : pg2 = pg := by injection hpv with h; exact h.symm
        subst pgE
        obtain ⟨y0, y1⟩ := hpcell2 pm (by omega)
        have z0 := hpf2 (pm * 2)
        have z1 := hpf2 (pm * 2 + 1)
        have m0 : (0 : Int) ≤ (pm : Int) := by omega
        have m1 : (pm : Int) < ((pm + 1 : Nat) : Int) := by omega
        have m4 : (pm : Int) < (pm : Int) + 1 := by omega
        have m3 : IntKind.i64.wrap (pm : Int) = (pm : Int) := IntWalk.i64_in _ (by omega)
        clear hpcell2 hpf2
        obtain ⟨P5, hP5, hP5l, hP5v⟩ := pairC_set P pm (by omega) (mkS A2)
        have hst := (ownM TK2.out.q hpm : ((w1.alloc (.cells #[.int .i64 4, .string (mkS T2), .string (mkS A2), .bool E2] 57 (0, 0)))).ownsRow w.heap.size 60 2 (.slice (some ⟨pg2, 0, none⟩) (pm + 1) pc) (pm + 1) (pairC P)).stored (pm * 2) (.string (mkS A2))
        rw [hP5] at hst
        have HP5L := Lib.hid (hP5l.trans hpm)
        have TK5 : Hid (TkG w _ _ L cr ⟨M, T, A, EE⟩ #[.int .i64 2, .string ⟨#[]⟩, .string ⟨#[]⟩, .slice (some ⟨pg2, 0, none⟩) (pm + 1) pc] (.slice (some ⟨pg2, 0, none⟩) (pm + 1) pc) P5 w1.heap.size ⟨4, T2, A2, E2⟩ ((w1.alloc (.cells #[.int .i64 4, .string (mkS T2), .string (mkS A2), .bool E2] 57 (0, 0))).setCell ⟨pg2, pm * 2, none⟩ (.string (mkS A2)))) := TK2.out.pair (by rw [HP5L.out]; exact hst.1) hst.2
        have HP5V := Lib.hid hP5v
        clear hst hP5 hP5l hP5v
        have q0 : ((w1.alloc (.cells #[.int .i64 4, .string (mkS T2), .string (mkS A2), .bool E2] 57 (0, 0))).setCell ⟨pg2, pm * 2, none⟩ (.string (mkS A2))).cell? ⟨w.heap.size + 1, 0, none⟩ = some (.int .i64 (M : Int)) := TK5.out.cells.1.1
        have q1 : ((w1.alloc (.cells #[.int .i64 4, .string (mkS T2), .string (mkS A2), .bool E2] 57 (0, 0))).setCell ⟨pg2, pm * 2, none⟩ (.string (mkS A2))).cell? ⟨w.heap.size + 1, 1, none⟩ = some (.string (mkS T)) := TK5.out.cells.1.2.1
        have q2 : ((w1.alloc (.cells #[.int .i64 4, .string (mkS T2), .string (mkS A2), .bool E2] 57 (0, 0))).setCell ⟨pg2, pm * 2, none⟩ (.string (mkS A2))).cell? ⟨w.heap.size + 1, 2, none⟩ = some (.string (mkS A)) := TK5.out.cells.1.2.2.1
        have q3 : ((w1.alloc (.cells #[.int .i64 4, .string (mkS T2), .string (mkS A2), .bool E2] 57 (0, 0))).setCell ⟨pg2, pm * 2, none⟩ (.string (mkS A2))).cell? ⟨w.heap.size + 1, 3, none⟩ = some (.bool EE) := TK5.out.cells.1.2.2.2
        have g0 : ((w1.alloc (.cells #[.int .i64 4, .string (mkS T2), .string (mkS A2), .bool E2] 57 (0, 0))).setCell ⟨pg2, pm * 2, none⟩ (.string (mkS A2))).frozen? ⟨w.heap.size + 1, 0, none⟩ = false := TK5.out.cells.2.2.1
        have g1 : ((w1.alloc (.cells #[.int .i64 4, .string (mkS T2), .string (mkS A2), .bool E2] 57 (0, 0))).setCell ⟨pg2, pm * 2, none⟩ (.string (mkS A2))).frozen? ⟨w.heap.size + 1, 1, none⟩ = false := TK5.out.cells.2.2.2.1
        have g2 : ((w1.alloc (.cells #[.int .i64 4, .string (mkS T2), .string (mkS A2), .bool E2] 57 (0, 0))).setCell ⟨pg2, pm * 2, none⟩ (.string (mkS A2))).frozen? ⟨w.heap.size + 1, 2, none⟩ = false := TK5.out.cells.2.2.2.2.1
        have g3 : ((w1.alloc (.cells #[.int .i64 4, .string (mkS T2), .string (mkS A2), .bool E2] 57 (0, 0))).setCell ⟨pg2, pm * 2, none⟩ (.string (mkS A2))).frozen? ⟨w.heap.size + 1, 3, none⟩ = false := TK5.out.cells.2.2.2.2.2
        have m50 : ((w1.alloc (.cells #[.int .i64 4, .string (mkS T2), .string (mkS A2), .bool E2] 57 (0, 0))).setCell ⟨pg2, pm * 2, none⟩ (.string (mkS A2))).cell? ⟨w1.heap.size, 0, none⟩ = some (.int .i64 4) := TK5.out.cells.2.1.1
        have m51 : ((w1.alloc (.cells #[.int .i64 4, .string (mkS T2), .string (mkS A2), .bool E2] 57 (0, 0))).setCell ⟨pg2, pm * 2, none⟩ (.string (mkS A2))).cell? ⟨w1.heap.size, 1, none⟩ = some (.string (mkS T2)) := TK5.out.cells.2.1.2.1
        have m52 : ((w1.alloc (.cells #[.int .i64 4, .string (mkS T2), .string (mkS A2), .bool E2] 57 (0, 0))).setCell ⟨pg2, pm * 2, none⟩ (.string (mkS A2))).cell? ⟨w1.heap.size, 2, none⟩ = some (.string (mkS A2)) := TK5.out.cells.2.1.2.2.1
        have m53 : ((w1.alloc (.cells #[.int .i64 4, .string (mkS T2), .string (mkS A2), .bool E2] 57 (0, 0))).setCell ⟨pg2, pm * 2, none⟩ (.string (mkS A2))).cell? ⟨w1.heap.size, 3, none⟩ = some (.bool E2) := TK5.out.cells.2.1.2.2.2
        go_wp2
        go_roundw
        case rel => exact ⟨k + 1, ⟨co, ⟨4, T2, A2, E2⟩, cr, cp⟩, L, (.slice (some ⟨pg2, 0, none⟩) (pm + 1) pc), P5, by omega, by go_num, (by exact Nat.le_succ_of_le hrl), (by exact Nat.le_succ_of_le hol), (by rw [HP5L.out]; omega), HRN.out, HOK.out _ rfl, HSIG.out, (by rw [HP5L.out, ← hpm]; exact HLEN.out), (HP5V.out _ (vals_more HVALS.out)), HTX.out, (by rw [HNW.out]; exact (TK5.out.setS ⟨4, T2, A2, E2⟩ hnS).home)⟩
        case measure => simp [intOf]; omega
      case val =>
        as_aux_lemma =>
        rename_i h1 h2 h3
        simp only [hn] at h1 h2 h3 HRN HOK
        have HNK : Hid (nowK M = 2) := by show _ = _; unfold nowK; rw [if_pos (by omega)]
        rw [HNK.out] at TK
        have n9 : 6 ≤ N ∧ N ≤ 8 := by omega
        have h44 : 4 ≤ M := by have := (step_from HV.out s[k]).1; rw [hn] at this; simp only at this; omega
        have HNW : Hid (nowK N = 2) := by show _ = _; unfold nowK; rw [if_pos (by omega)]
        obtain ⟨pm, hpm⟩ : ∃ pm, P.length = pm + 1 := ⟨P.length - 1, by have := HLEN.out; have := HP1.out (by omega) (by omega); omega⟩
        obtain ⟨pg, pc, rfl, hpB, hpl2, hpc, hpc2, hpf, hpcell⟩ := pair_at (ownM TK.out.q hpm) hpm (Nat.succ_pos pm)
        have mf0 : ((M : Int) == 0) = false := kindF (K := M) (n := 0) (by omega)
        have mf1 : ((M : Int) == 1) = false := kindF (K := M) (n := 1) (by omega)
        have mf9 : ((M : Int) == 9) = false := kindF (K := M) (n := 9) (by omega)
        have mf10 : ((M : Int) == 10) = false := kindF (K := M) (n := 10) (by omega)
        have mf14 : ((M : Int) == 14) = false := kindF (K := M) (n := 14) (by omega)
        have t9 : ¬ (11 : Int) ≤ (M : Int) := by omega
        have t8 : (M : Int) ≤ 8 := by omega
        have t2 : (2 : Int) ≤ (M : Int) := by omega
        have nf15 : ((N : Int) == 15) = false := kindF (K := N) (n := 15) (by omega)
        have nf4 : ((N : Int) == 4) = false := kindF (K := N) (n := 4) (by omega)
        have nf0 : ((N : Int) == 0) = false := kindF (K := N) (n := 0) (by omega)
        have nf11 : ((N : Int) == 11) = false := kindF (K := N) (n := 11) (by omega)
        have hq : ((N : Int) == 8) = true ∨ (((N : Int) == 8) = false ∧ ((M : Int) == (N : Int)) = true ∧ ((N : Int) == 6) = true) ∨ (((N : Int) == 8) = false ∧ ((M : Int) == (N : Int)) = true ∧ ((N : Int) == 6) = false ∧ ((N : Int) == 7) = true) := by
          rcases h3 with e | ⟨e1, e2 | e2⟩
          · exact .inl (kindT (n := 8) e)
          · exact .inr (.inl ⟨kindF (n := 8) (by omega), by simp; omega, kindT (n := 6) e2⟩)
          · exact .inr (.inr ⟨kindF (n := 8) (by omega), by simp; omega, kindF (n := 6) (by omega), kindT (n := 7) e2⟩)
        have TK0 : Hid (TkG w _ _ L cr ⟨M, T, A, EE⟩ #[.int .i64 2, .string ⟨#[]⟩, .string ⟨#[]⟩, (.slice (some ⟨pg, 0, none⟩) (pm + 1) pc)] (.slice (some ⟨pg, 0, none⟩) (pm + 1) pc) P (w.heap.size + 1) ⟨M, T, A, EE⟩ wr) := TK.out
        have s0 : wr.cell? ⟨w.heap.size + 1, 0, none⟩ = some (.int .i64 (M : Int)) := TK0.out.cells.1.1
        have s1 : wr.cell? ⟨w.heap.size + 1, 1, none⟩ = some (.string (mkS T)) := TK0.out.cells.1.2.1
        have s2 : wr.cell? ⟨w.heap.size + 1, 2, none⟩ = some (.string (mkS A)) := TK0.out.cells.1.2.2.1
        have s3 : wr.cell? ⟨w.heap.size + 1, 3, none⟩ = some (.bool EE) := TK0.out.cells.1.2.2.2
        clear TK hn h3 hpcell hpf
        go_wp2_with fail
        refine (CS.out _).mono ?_
        rintro e w1 ⟨rfl, b1⟩
        have TK1 := Lib.hid (TK0.out.below b1)
        have TK2 : Hid (TkG w _ _ L cr ⟨M, T, A, EE⟩ #[.int .i64 2, .string ⟨#[]⟩, .string ⟨#[]⟩, (.slice (some ⟨pg, 0, none⟩) (pm + 1) pc)] (.slice (some ⟨pg, 0, none⟩) (pm + 1) pc) P w1.heap.size ⟨N, T2, A2, E2⟩ (w1.alloc (.cells #[.int .i64 (N : Int), .string (mkS T2), .string (mkS A2), .bool E2] 57 (0, 0)))) := TK1.out.fresh ⟨N, T2, A2, E2⟩
        have hnS : w1.heap.size ≠ w.heap.size + 1 := by have := bld_ltS TK1.out.s; omega
        have hnN : w1.heap.size ≠ w.heap.size + 1 + 1 + 1 := by have := bld_ltS TK1.out.n; omega
        have hws := TK2.out.b.size
        clear s0 s1 s2 s3 b1 TK0 TK1
        have s0 : (w1.alloc (.cells #[.int .i64 (N : Int), .string (mkS T2), .string (mkS A2), .bool E2] 57 (0, 0))).cell? ⟨w.heap.size + 1, 0, none⟩ = some (.int .i64 (M : Int)) := TK2.out.cells.1.1
        have s1 : (w1.alloc (.cells #[.int .i64 (N : Int), .string (mkS T2), .string (mkS A2), .bool E2] 57 (0, 0))).cell? ⟨w.heap.size + 1, 1, none⟩ = some (.string (mkS T)) := TK2.out.cells.1.2.1
        have s2 : (w1.alloc (.cells #[.int .i64 (N : Int), .string (mkS T2), .string (mkS A2), .bool E2] 57 (0, 0))).cell? ⟨w.heap.size + 1, 2, none⟩ = some (.string (mkS A)) := TK2.out.cells.1.2.2.1
        have s3 : (w1.alloc (.cells #[.int .i64 (N : Int), .string (mkS T2), .string (mkS A2), .bool E2] 57 (0, 0))).cell? ⟨w.heap.size + 1, 3, none⟩ = some (.bool EE) := TK2.out.cells.1.2.2.2
        have f0 : (w1.alloc (.cells #[.int .i64 (N : Int), .string (mkS T2), .string (mkS A2), .bool E2] 57 (0, 0))).frozen? ⟨w.heap.size + 1, 0, none⟩ = false := TK2.out.cells.2.2.1
        have f1 : (w1.alloc (.cells #[.int .i64 (N : Int), .string (mkS T2), .string (mkS A2), .bool E2] 57 (0, 0))).frozen? ⟨w.heap.size + 1, 1, none⟩ = false := TK2.out.cells.2.2.2.1
        have f2 : (w1.alloc (.cells #[.int .i64 (N : Int), .string (mkS T2), .string (mkS A2), .bool E2] 57 (0, 0))).frozen? ⟨w.heap.size + 1, 2, none⟩ = false := TK2.out.cells.2.2.2.2.1
        have f3 : (w1.alloc (.cells #[.int .i64 (N : Int), .string (mkS T2), .string (mkS A2), .bool E2] 57 (0, 0))).frozen? ⟨w.heap.size + 1, 3, none⟩ = false := TK2.out.cells.2.2.2.2.2
        have n0 : (w1.alloc (.cells #[.int .i64 (N : Int), .string (mkS T2), .string (mkS A2), .bool E2] 57 (0, 0))).cell? ⟨w.heap.size + 1 + 1 + 1, 0, none⟩ = some (.int .i64 2) := (TK2.out).nows.1.1
        have n1 : (w1.alloc (.cells #[.int .i64 (N : Int), .string (mkS T2), .string (mkS A2), .bool E2] 57 (0, 0))).cell? ⟨w.heap.size + 1 + 1 + 1, 1, none⟩ = some (.string ⟨#[]⟩) := (TK2.out).nows.1.2.1
        have n2 : (w1.alloc (.cells #[.int .i64 (N : Int), .string (mkS T2), .string (mkS A2), .bool E2] 57 (0, 0))).cell? ⟨w.heap.size + 1 + 1 + 1, 2, none⟩ = some (.string ⟨#[]⟩) := (TK2.out).nows.1.2.2.1
        have n3 : (w1.alloc (.cells #[.int .i64 (N : Int), .string (mkS T2), .string (mkS A2), .bool E2] 57 (0, 0))).cell? ⟨w.heap.size + 1 + 1 + 1, 3, none⟩ = some ((.slice (some ⟨pg, 0, none⟩) (pm + 1) pc)) := (TK2.out).nows.1.2.2.2
        have mm0 : (w1.alloc (.cells #[.int .i64 (N : Int), .string (mkS T2), .string (mkS A2), .bool E2] 57 (0, 0))).cell? ⟨w1.heap.size, 0, none⟩ = some (.int .i64 (N : Int)) := TK2.out.cells.2.1.1
        have mm1 : (w1.alloc (.cells #[.int .i64 (N : Int), .string (mkS T2), .string (mkS A2), .bool E2] 57 (0, 0))).cell? ⟨w1.heap.size, 1, none⟩ = some (.string (mkS T2)) := TK2.out.cells.2.1.2.1
        have mm2 : (w1.alloc (.cells #[.int .i64 (N : Int), .string (mkS T2), .string (mkS A2), .bool E2] 57 (0, 0))).cell? ⟨w1.heap.size, 2, none⟩ = some (.string (mkS A2)) := TK2.out.cells.2.1.2.2.1
        have mm3 : (w1.alloc (.cells #[.int .i64 (N : Int), .string (mkS T2), .string (mkS A2), .bool E2] 57 (0, 0))).cell? ⟨w1.heap.size, 3, none⟩ = some (.bool E2) := TK2.out.cells.2.1.2.2.2
        obtain ⟨pg2, pc3, hpv, _, hpl3, _, _, hpf2, hpcell2⟩ := pair_at (ownM TK2.out.q hpm) hpm (Nat.succ_pos pm)
        injection hpv with hpv _ hpv2
        injection hpv with hpv
        subst hpv2
        have pgE : pg2 = pg := by injection hpv with h; exact h.symm
        subst pgE
        obtain ⟨y0, y1⟩ := hpcell2 pm (by omega)
        have z0 := hpf2 (pm * 2)
        have z1 := hpf2 (pm * 2 + 1)
        have m0 : (0 : Int) ≤ (pm : Int) := by omega
        have m1 : (pm : Int) < ((pm + 1 : Nat) : Int) := by omega
        have m4 : (pm : Int) < (pm : Int) + 1 := by omega
        have m3 : IntKind.i64.wrap (pm : Int) = (pm : Int) := IntWalk.i64_in _ (by omega)
        clear hpcell2 hpf2
        obtain ⟨y, hy⟩ : ∃ y, P[pm].2 = y := ⟨_, rfl⟩
        have hyk : y.size ≤ k := by rw [← hy]; exact HVALS.out _ (List.getElem_mem _)
        rw [hy] at y1
        have hone := one_str (w1.alloc (.cells #[.int .i64 (N : Int), .string (mkS T2), .string (mkS A2), .bool E2] 57 (0, 0))) s[k]
        have honeD := one_strD (w1.alloc (.cells #[.int .i64 (N : Int), .string (mkS T2), .string (mkS A2), .bool E2] 57 (0, 0))) s[k]
        have hsz1 : (w1.alloc (.cells #[.int .i64 (N : Int), .string (mkS T2), .string (mkS A2), .bool E2] 57 (0, 0))).heap.size = w1.heap.size + 1 := by simp
        rw [hsz1] at hone honeD
        clear hsz1
        have hys : y.size + (mkS [s[k]]).size ≤ 9223372036854775807 := by rw [mkS_size]; simp; omega
        obtain ⟨P5, hP5, hP5l, hP5v⟩ := pairC_set2 P pm (by omega) (y ++ mkS [s[k]])
        have TKA := Lib.hid (TK2.out.below ((Below.refl _ _).alloc (Nat.le_refl _) (.cells #[.int .u8 (s[k].toNat : Int)] 5 (0, 0))))
        have hst := (ownM TKA.out.q hpm : (((w1.alloc (.cells #[.int .i64 (N : Int), .string (mkS T2), .string (mkS A2), .bool E2] 57 (0, 0))).alloc (.cells #[.int .u8 (s[k].toNat : Int)] 5 (0, 0)))).ownsRow w.heap.size 60 2 (.slice (some ⟨pg2, 0, none⟩) (pm + 1) pc) (pm + 1) (pairC P)).stored (pm * 2 + 1) (.string (y ++ mkS [s[k]]))
        rw [hP5] at hst
        have hys2 : ¬ 9223372036854775807 < y.size + (mkS [s[k]]).size := by omega
        have HBA : Hid (Below ((w1.alloc (.cells #[.int .i64 (N : Int), .string (mkS T2), .string (mkS A2), .bool E2] 57 (0, 0)))).heap.size (w1.alloc (.cells #[.int .i64 (N : Int), .string (mkS T2), .string (mkS A2), .bool E2] 57 (0, 0))) ((w1.alloc (.cells #[.int .i64 (N : Int), .string (mkS T2), .string (mkS A2), .bool E2] 57 (0, 0))).alloc (.cells #[.int .u8 (s[k].toNat : Int)] 5 (0, 0)))) := (Below.refl _ _).alloc (Nat.le_refl _) _
        have yA1 := (HBA.out.cell (p := ⟨pg2, pm * 2 + 1, none⟩) hpl3).trans y1
        have zA1 := (HBA.out.frozen (p := ⟨pg2, pm * 2 + 1, none⟩) hpl3).trans z1
        have na0 : ((w1.alloc (.cells #[.int .i64 (N : Int), .string (mkS T2), .string (mkS A2), .bool E2] 57 (0, 0))).alloc (.cells #[.int .u8 (s[k].toNat : Int)] 5 (0, 0))).cell? ⟨w.heap.size + 1 + 1 + 1, 0, none⟩ = some (.int .i64 2) := (TKA.out).nows.1.1
        have na1 : ((w1.alloc (.cells #[.int .i64 (N : Int), .string (mkS T2), .string (mkS A2), .bool E2] 57 (0, 0))).alloc (.cells #[.int .u8 (s[k].toNat : Int)] 5 (0, 0))).cell? ⟨w.heap.size + 1 + 1 + 1, 1, none⟩ = some (.string ⟨#[]⟩) := (TKA.out).nows.1.2.1
        have na2 : ((w1.alloc (.cells #[.int .i64 (N : Int), .string (mkS T2), .string (mkS A2), .bool E2] 57 (0, 0))).alloc (.cells #[.int .u8 (s[k].toNat : Int)] 5 (0, 0))).cell? ⟨w.heap.size + 1 + 1 + 1, 2, none⟩ = some (.string ⟨#[]⟩) := (TKA.out).nows.1.2.2.1
        have na3 : ((w1.alloc (.cells #[.int .i64 (N : Int), .string (mkS T2), .string (mkS A2), .bool E2] 57 (0, 0))).alloc (.cells #[.int .u8 (s[k].toNat : Int)] 5 (0, 0))).cell? ⟨w.heap.size + 1 + 1 + 1, 3, none⟩ = some ((.slice (some ⟨pg2, 0, none⟩) (pm + 1) pc)) := (TKA.out).nows.1.2.2.2
        have hbN : w.heap.size + 1 + 1 + 1 < (w1.alloc (.cells #[.int .i64 (N : Int), .string (mkS T2), .string (mkS A2), .bool E2] 57 (0, 0))).heap.size := bld_ltS TK2.out.n
        have HP5L := Lib.hid (hP5l.trans hpm)
        have TK5 : Hid (TkG w _ _ L cr ⟨M, T, A, EE⟩ #[.int .i64 2, .string ⟨#[]⟩, .string ⟨#[]⟩, .slice (some ⟨pg2, 0, none⟩) (pm + 1) pc] (.slice (some ⟨pg2, 0, none⟩) (pm + 1) pc) P5 w1.heap.size ⟨N, T2, A2, E2⟩ (((w1.alloc (.cells #[.int .i64 (N : Int), .string (mkS T2), .string (mkS A2), .bool E2] 57 (0, 0))).alloc (.cells #[.int .u8 (s[k].toNat : Int)] 5 (0, 0))).setCell ⟨pg2, pm * 2 + 1, none⟩ (.string (y ++ mkS [s[k]])))) := TKA.out.pair (by rw [HP5L.out]; exact hst.1) hst.2
        have TK6 := Lib.hid (TK5.out.below (Below.refl _ _).drew)
        have HP5V := Lib.hid (hP5v (k + 1) (vals_more HVALS.out) (by rw [app_one]; omega))
        clear hst hP5 hP5l hP5v TKA hy
        have q0 : (((w1.alloc (.cells #[.int .i64 (N : Int), .string (mkS T2), .string (mkS A2), .bool E2] 57 (0, 0))).alloc (.cells #[.int .u8 (s[k].toNat : Int)] 5 (0, 0))).setCell ⟨pg2, pm * 2 + 1, none⟩ (.string (y ++ mkS [s[k]]))).cell? ⟨w.heap.size + 1, 0, none⟩ = some (.int .i64 (M : Int)) := TK5.out.cells.1.1
        have q1 : (((w1.alloc (.cells #[.int .i64 (N : Int), .string (mkS T2), .string (mkS A2), .bool E2] 57 (0, 0))).alloc (.cells #[.int .u8 (s[k].toNat : Int)] 5 (0, 0))).setCell ⟨pg2, pm * 2 + 1, none⟩ (.string (y ++ mkS [s[k]]))).cell? ⟨w.heap.size + 1, 1, none⟩ = some (.string (mkS T)) := TK5.out.cells.1.2.1
        have q2 : (((w1.alloc (.cells #[.int .i64 (N : Int), .string (mkS T2), .string (mkS A2), .bool E2] 57 (0, 0))).alloc (.cells #[.int .u8 (s[k].toNat : Int)] 5 (0, 0))).setCell ⟨pg2, pm * 2 + 1, none⟩ (.string (y ++ mkS [s[k]]))).cell? ⟨w.heap.size + 1, 2, none⟩ = some (.string (mkS A)) := TK5.out.cells.1.2.2.1
        have q3 : (((w1.alloc (.cells #[.int .i64 (N : Int), .string (mkS T2), .string (mkS A2), .bool E2] 57 (0, 0))).alloc (.cells #[.int .u8 (s[k].toNat : Int)] 5 (0, 0))).setCell ⟨pg2, pm * 2 + 1, none⟩ (.string (y ++ mkS [s[k]]))).cell? ⟨w.heap.size + 1, 3, none⟩ = some (.bool EE) := TK5.out.cells.1.2.2.2
        have g0 : (((w1.alloc (.cells #[.int .i64 (N : Int), .string (mkS T2), .string (mkS A2), .bool E2] 57 (0, 0))).alloc (.cells #[.int .u8 (s[k].toNat : Int)] 5 (0, 0))).setCell ⟨pg2, pm * 2 + 1, none⟩ (.string (y ++ mkS [s[k]]))).frozen? ⟨w.heap.size + 1, 0, none⟩ = false := TK5.out.cells.2.2.1
        have g1 : (((w1.alloc (.cells #[.int .i64 (N : Int), .string (mkS T2), .string (mkS A2), .bool E2] 57 (0, 0))).alloc (.cells #[.int .u8 (s[k].toNat : Int)] 5 (0, 0))).setCell ⟨pg2, pm * 2 + 1, none⟩ (.string (y ++ mkS [s[k]]))).frozen? ⟨w.heap.size + 1, 1, none⟩ = false := TK5.out.cells.2.2.2.1
        have g2 : (((w1.alloc (.cells #[.int .i64 (N : Int), .string (mkS T2), .string (mkS A2), .bool E2] 57 (0, 0))).alloc (.cells #[.int .u8 (s[k].toNat : Int)] 5 (0, 0))).setCell ⟨pg2, pm * 2 + 1, none⟩ (.string (y ++ mkS [s[k]]))).frozen? ⟨w.heap.size + 1, 2, none⟩ = false := TK5.out.cells.2.2.2.2.1
        have g3 : (((w1.alloc (.cells #[.int .i64 (N : Int), .string (mkS T2), .string (mkS A2), .bool E2] 57 (0, 0))).alloc (.cells #[.int .u8 (s[k].toNat : Int)] 5 (0, 0))).setCell ⟨pg2, pm * 2 + 1, none⟩ (.string (y ++ mkS [s[k]]))).frozen? ⟨w.heap.size + 1, 3, none⟩ = false := TK5.out.cells.2.2.2.2.2
        have m50 : (((w1.alloc (.cells #[.int .i64 (N : Int), .string (mkS T2), .string (mkS A2), .bool E2] 57 (0, 0))).alloc (.cells #[.int .u8 (s[k].toNat : Int)] 5 (0, 0))).setCell ⟨pg2, pm * 2 + 1, none⟩ (.string (y ++ mkS [s[k]]))).cell? ⟨w1.heap.size, 0, none⟩ = some (.int .i64 (N : Int)) := TK5.out.cells.2.1.1
        have m51 : (((w1.alloc (.cells #[.int .i64 (N : Int), .string (mkS T2), .string (mkS A2), .bool E2] 57 (0, 0))).alloc (.cells #[.int .u8 (s[k].toNat : Int)] 5 (0, 0))).setCell ⟨pg2, pm * 2 + 1, none⟩ (.string (y ++ mkS [s[k]]))).cell? ⟨w1.heap.size, 1, none⟩ = some (.string (mkS T2)) := TK5.out.cells.2.1.2.1
        have m52 : (((w1.alloc (.cells #[.int .i64 (N : Int), .string (mkS T2), .string (mkS A2), .bool E2] 57 (0, 0))).alloc (.cells #[.int .u8 (s[k].toNat : Int)] 5 (0, 0))).setCell ⟨pg2, pm * 2 + 1, none⟩ (.string (y ++ mkS [s[k]]))).cell? ⟨w1.heap.size, 2, none⟩ = some (.string (mkS A2)) := TK5.out.cells.2.1.2.2.1
        have m53 : (((w1.alloc (.cells #[.int .i64 (N : Int), .string (mkS T2), .string (mkS A2), .bool E2] 57 (0, 0))).alloc (.cells #[.int .u8 (s[k].toNat : Int)] 5 (0, 0))).setCell ⟨pg2, pm * 2 + 1, none⟩ (.string (y ++ mkS [s[k]]))).cell? ⟨w1.heap.size, 3, none⟩ = some (.bool E2) := TK5.out.cells.2.1.2.2.2
        rcases hq with c1 | ⟨c1, c2, c3⟩ | ⟨c1, c2, c3, c4⟩
        · go_wp2
          go_region
          go_wp2
          go_roundw
          case rel => exact ⟨k + 1, ⟨co, ⟨N, T2, A2, E2⟩, cr, cp⟩, L, (.slice (some ⟨pg2, 0, none⟩) (pm + 1) pc), P5, by omega, by go_num, (by exact Nat.le_succ_of_le hrl), (by exact Nat.le_succ_of_le hol), (by rw [HP5L.out]; omega), HRN.out, HOK.out _ rfl, HSIG.out, (by rw [HP5L.out, ← hpm]; exact HLEN.out), HP5V.out, HTX.out, (by rw [HNW.out]; first | exact (TK5.out.setS ⟨N, T2, A2, E2⟩ hnS).home | exact ((TK5.out.setS ⟨N, T2, A2, E2⟩ hnS).home).below (Below.refl _ _).drew)⟩
          case measure => simp [intOf]; omega
        · go_wp2
          go_region
          go_wp2
          go_roundw
          case rel => exact ⟨k + 1, ⟨co, ⟨N, T2, A2, E2⟩, cr, cp⟩, L, (.slice (some ⟨pg2, 0, none⟩) (pm + 1) pc), P5, by omega, by go_num, (by exact Nat.le_succ_of_le hrl), (by exact Nat.le_succ_of_le hol), (by rw [HP5L.out]; omega), HRN.out, HOK.out _ rfl, HSIG.out, (by rw [HP5L.out, ← hpm]; exact HLEN.out), HP5V.out, HTX.out, (by rw [HNW.out]; first | exact (TK5.out.setS ⟨N, T2, A2, E2⟩ hnS).home | exact ((TK5.out.setS ⟨N, T2, A2, E2⟩ hnS).home).below (Below.refl _ _).drew)⟩
          case measure => simp [intOf]; omega
        · go_wp2
          go_region
          go_wp2
          go_roundw
          case rel => exact ⟨k + 1, ⟨co, ⟨N, T2, A2, E2⟩, cr, cp⟩, L, (.slice (some ⟨pg2, 0, none⟩) (pm + 1) pc), P5, by omega, by go_num, (by exact Nat.le_succ_of_le hrl), (by exact Nat.le_succ_of_le hol), (by rw [HP5L.out]; omega), HRN.out, HOK.out _ rfl, HSIG.out, (by rw [HP5L.out, ← hpm]; exact HLEN.out), HP5V.out, HTX.out, (by rw [HNW.out]; first | exact (TK5.out.setS ⟨N, T2, A2, E2⟩ hnS).home | exact ((TK5.out.setS ⟨N, T2, A2, E2⟩ hnS).home).below (Below.refl _ _).drew)⟩
          case measure => simp [intOf]; omega
      case close =>
        rename_i h1 h2 h3 h4
        simp only [hn] at h1 h2 h3 HRN HOK
        skip
        have HNK : Hid (nowK M = 2) := by show _ = _; unfold nowK; rw [if_pos (by omega)]
        rw [HNK.out] at TK
        have HNW : Hid (nowK N = 0) := by show _ = _; unfold nowK; rw [if_neg (by omega)]
        obtain ⟨pn, hpn⟩ : ∃ pn, P.length = pn := ⟨_, rfl⟩
        obtain ⟨pa, pc, rfl, _, hpc, hpc2, _⟩ := ownN_formn (ownM TK.out.q hpn)
        have mf0 : ((M : Int) == 0) = false := kindF (K := M) (n := 0) (by omega)
        have mf1 : ((M : Int) == 1) = false := kindF (K := M) (n := 1) (by omega)
        have mf9 : ((M : Int) == 9) = false := kindF (K := M) (n := 9) (by omega)
        have mf10 : ((M : Int) == 10) = false := kindF (K := M) (n := 10) (by omega)
        have mf14 : ((M : Int) == 14) = false := kindF (K := M) (n := 14) (by omega)
        have t9 : ¬ (11 : Int) ≤ (M : Int) := by omega
        have t8 : (M : Int) ≤ 8 := by omega
        have t2 : (2 : Int) ≤ (M : Int) := by omega
        have nf15 : ((N : Int) == 15) = false := kindF (K := N) (n := 15) (by omega)
        have nf4 : ((N : Int) == 4) = false := kindF (K := N) (n := 4) (by omega)
        have nf8 : ((N : Int) == 8) = false := kindF (K := N) (n := 8) (by omega)
        have hmn : ((M : Int) == (N : Int)) = false := by simp; omega
        have hq : ((N : Int) == 0) = true ∨ (((N : Int) == 0) = false ∧ ((N : Int) == 11) = true) := by
          rcases h3 with e | e
          · exact .inl (kindT (n := 0) e)
          · exact .inr ⟨kindF (n := 0) (by omega), kindT (n := 11) e⟩
        have hp60 : ¬ (60 : Int) < (pn : Int) := by have := HLEN.out; simp only at h4; omega
        have TK0 : Hid (TkG w _ _ L cr ⟨M, T, A, EE⟩ #[.int .i64 2, .string ⟨#[]⟩, .string ⟨#[]⟩, (.slice pa pn pc)] (.slice pa pn pc) P (w.heap.size + 1) ⟨M, T, A, EE⟩ wr) := TK.out
        have s0 : wr.cell? ⟨w.heap.size + 1, 0, none⟩ = some (.int .i64 (M : Int)) := TK0.out.cells.1.1
        have s1 : wr.cell? ⟨w.heap.size + 1, 1, none⟩ = some (.string (mkS T)) := TK0.out.cells.1.2.1
        have s2 : wr.cell? ⟨w.heap.size + 1, 2, none⟩ = some (.string (mkS A)) := TK0.out.cells.1.2.2.1
        have s3 : wr.cell? ⟨w.heap.size + 1, 3, none⟩ = some (.bool EE) := TK0.out.cells.1.2.2.2
        clear TK hn h3 h4
        go_wp2_with fail
        refine (CS.out _).mono ?_
        rintro e w1 ⟨rfl, b1⟩
        have TK1 := Lib.hid (TK0.out.below b1)
        have TK2 : Hid (TkG w _ _ L cr ⟨M, T, A, EE⟩ #[.int .i64 2, .string ⟨#[]⟩, .string ⟨#[]⟩, (.slice pa pn pc)] (.slice pa pn pc) P w1.heap.size ⟨N, T2, A2, E2⟩ (w1.alloc (.cells #[.int .i64 (N : Int), .string (mkS T2), .string (mkS A2), .bool E2] 57 (0, 0)))) := TK1.out.fresh ⟨N, T2, A2, E2⟩
        have hnS : w1.heap.size ≠ w.heap.size + 1 := by have := bld_ltS TK1.out.s; omega
        have hnN : w1.heap.size ≠ w.heap.size + 1 + 1 + 1 := by have := bld_ltS TK1.out.n; omega
        have hws := TK2.out.b.size
        clear s0 s1 s2 s3 b1 TK0 TK1
        have s0 : (w1.alloc (.cells #[.int .i64 (N : Int), .string (mkS T2), .string (mkS A2), .bool E2] 57 (0, 0))).cell? ⟨w.heap.size + 1, 0, none⟩ = some (.int .i64 (M : Int)) := TK2.out.cells.1.1
        have s1 : (w1.alloc (.cells #[.int .i64 (N : Int), .string (mkS T2), .string (mkS A2), .bool E2] 57 (0, 0))).cell? ⟨w.heap.size + 1, 1, none⟩ = some (.string (mkS T)) := TK2.out.cells.1.2.1
        have s2 : (w1.alloc (.cells #[.int .i64 (N : Int), .string (mkS T2), .string (mkS A2), .bool E2] 57 (0, 0))).cell? ⟨w.heap.size + 1, 2, none⟩ = some (.string (mkS A)) := TK2.out.cells.1.2.2.1
        have s3 : (w1.alloc (.cells #[.int .i64 (N : Int), .string (mkS T2), .string (mkS A2), .bool E2] 57 (0, 0))).cell? ⟨w.heap.size + 1, 3, none⟩ = some (.bool EE) := TK2.out.cells.1.2.2.2
        have f0 : (w1.alloc (.cells #[.int .i64 (N : Int), .string (mkS T2), .string (mkS A2), .bool E2] 57 (0, 0))).frozen? ⟨w.heap.size + 1, 0, none⟩ = false := TK2.out.cells.2.2.1
        have f1 : (w1.alloc (.cells #[.int .i64 (N : Int), .string (mkS T2), .string (mkS A2), .bool E2] 57 (0, 0))).frozen? ⟨w.heap.size + 1, 1, none⟩ = false := TK2.out.cells.2.2.2.1
        have f2 : (w1.alloc (.cells #[.int .i64 (N : Int), .string (mkS T2), .string (mkS A2), .bool E2] 57 (0, 0))).frozen? ⟨w.heap.size + 1, 2, none⟩ = false := TK2.out.cells.2.2.2.2.1
        have f3 : (w1.alloc (.cells #[.int .i64 (N : Int), .string (mkS T2), .string (mkS A2), .bool E2] 57 (0, 0))).frozen? ⟨w.heap.size + 1, 3, none⟩ = false := TK2.out.cells.2.2.2.2.2
        have n0 : (w1.alloc (.cells #[.int .i64 (N : Int), .string (mkS T2), .string (mkS A2), .bool E2] 57 (0, 0))).cell? ⟨w.heap.size + 1 + 1 + 1, 0, none⟩ = some (.int .i64 2) := (TK2.out).nows.1.1
        have n1 : (w1.alloc (.cells #[.int .i64 (N : Int), .string (mkS T2), .string (mkS A2), .bool E2] 57 (0, 0))).cell? ⟨w.heap.size + 1 + 1 + 1, 1, none⟩ = some (.string ⟨#[]⟩) := (TK2.out).nows.1.2.1
        have n2 : (w1.alloc (.cells #[.int .i64 (N : Int), .string (mkS T2), .string (mkS A2), .bool E2] 57 (0, 0))).cell? ⟨w.heap.size + 1 + 1 + 1, 2, none⟩ = some (.string ⟨#[]⟩) := (TK2.out).nows.1.2.2.1
        have n3 : (w1.alloc (.cells #[.int .i64 (N : Int), .string (mkS T2), .string (mkS A2), .bool E2] 57 (0, 0))).cell? ⟨w.heap.size + 1 + 1 + 1, 3, none⟩ = some ((.slice pa pn pc)) := (TK2.out).nows.1.2.2.2
        have nf0 : (w1.alloc (.cells #[.int .i64 (N : Int), .string (mkS T2), .string (mkS A2), .bool E2] 57 (0, 0))).frozen? ⟨w.heap.size + 1 + 1 + 1, 0, none⟩ = false := (TK2.out).nows.2.1
        have nf1 : (w1.alloc (.cells #[.int .i64 (N : Int), .string (mkS T2), .string (mkS A2), .bool E2] 57 (0, 0))).frozen? ⟨w.heap.size + 1 + 1 + 1, 1, none⟩ = false := (TK2.out).nows.2.2.1
        have nf2 : (w1.alloc (.cells #[.int .i64 (N : Int), .string (mkS T2), .string (mkS A2), .bool E2] 57 (0, 0))).frozen? ⟨w.heap.size + 1 + 1 + 1, 2, none⟩ = false := (TK2.out).nows.2.2.2.1
        have nf3 : (w1.alloc (.cells #[.int .i64 (N : Int), .string (mkS T2), .string (mkS A2), .bool E2] 57 (0, 0))).frozen? ⟨w.heap.size + 1 + 1 + 1, 3, none⟩ = false := (TK2.out).nows.2.2.2.2
        have TK3 : Hid (TkG w _ _ L cr ⟨M, T, A, EE⟩ #[.int .i64 2, .string (mkS T), .string ⟨#[]⟩, .slice pa pn pc] (.slice pa pn pc) P w1.heap.size ⟨N, T2, A2, E2⟩ ((w1.alloc (.cells #[.int .i64 (N : Int), .string (mkS T2), .string (mkS A2), .bool E2] 57 (0, 0))).setCell ⟨w.heap.size + 1 + 1 + 1, 1, none⟩ (.string (mkS T)))) := TK2.out.setN1 hnN (.string (mkS T))
        have HPN := Lib.hid hpn
        have hv0 := Lib.hid HVALS.out
        rcases hq with c1 | ⟨c1, c2⟩
        · go_wp2
          clear n0 n1 n2 n3 nf0 nf1 nf2 nf3 s0 s1 s2 s3 f0 f1 f2 f3 hws TK2
          go_loopw [229] (fun t wi => ∃ (j : Nat) (PP : List (ByteArray × ByteArray)), j ≤ pn ∧ t = .int .i64 (j : Int) ∧ Hid (PP.length = pn) ∧ Hid (∀ x ∈ PP, x.2.size ≤ k) ∧ Hid (TkG w _ _ L cr ⟨M, T, A, EE⟩ #[.int .i64 2, .string (mkS T), .string ⟨#[]⟩, .slice pa pn pc] (.slice pa pn pc) PP w1.heap.size ⟨N, T2, A2, E2⟩ wi)) (fun t _ => pn - (intOf t).toNat)
          case atStart => exact ⟨0, P, Nat.zero_le _, rfl, HPN.out, hv0.out, TK3.out⟩
          case round =>
            clear TK3
            obtain ⟨j, PP, hjn, rfl, HPP, HPV, TKI⟩ := hrel
            by_cases hj : j < pn
            · have hjP : j < PP.length := by rw [HPP.out]; exact hj
              obtain ⟨pg, pc2, hpv, hpB, hpl2, _, _, hpf, hpcell⟩ := pair_at (ownM TKI.out.q HPP.out) HPP.out (by omega)
              injection hpv with hpa _ hpc2
              subst hpa; subst hpc2
              obtain ⟨_, y1⟩ := hpcell j hjP
              have z1 := hpf (j * 2 + 1)
              have hys : PP[j].2.size ≤ k := HPV.out _ (List.getElem_mem hjP)
              generalize PP[j].2 = y at *
              have CU := Lib.hid (fun W => impl_UnescapeText y W (by omega))
              have hul : (mkS (unescR (bl y))).size ≤ k := by rw [mkS_size]; have := unescR_len (bl y); rw [bl_len] at this; omega
              have HUL := Lib.hid hul
              generalize mkS (unescR (bl y)) = U at *
              have n3 := TKI.out.nows.1.2.2.2
              have hne : pg ≠ w.heap.size + 1 + 1 + 1 := fun e => own_ne (v := .slice (some ⟨pg, 0, none⟩) pn pc) TKI.out.q TKI.out.n (by decide) (by rw [e]; rfl)
              have hne2 : w.heap.size + 1 + 1 + 1 ≠ pg := fun e => hne e.symm
              have hbN := bld_ltS TKI.out.n
              have m0 : (0 : Int) ≤ (j : Int) := by omega
              have m1 : (j : Int) < (pn : Int) := by omega
              clear hpcell hpf hul
              go_wp2
              go_region_with ((go_at_call 42; refine (CU.out _).mono ?_; rintro e w4 ⟨rfl, b4⟩; obtain ⟨hcc, hff⟩ := bcell b4; have za := (hcc _ 3 hbN).trans n3; have zb := (hcc _ (j * 2 + 1) hpl2).trans y1; have zf := (hff _ (j * 2 + 1) hpl2).trans z1; clear hcc hff))
              all_goals (
                have TK4 := Lib.hid (TKI.out.below ((Below.refl _ _).drew.trans (b4.mono (Nat.le_refl _))))
                obtain ⟨P5, hP5, hP5l, hP5v⟩ := pairC_set2 PP j hjP U
                have hst := (ownM TK4.out.q HPP.out : w4.ownsRow w.heap.size 60 2 (.slice (some ⟨pg, 0, none⟩) pn pc) pn (pairC PP)).stored (j * 2 + 1) (.string U)
                rw [hP5] at hst
                have HP5L := Lib.hid (hP5l.trans HPP.out)
                have TK5 := Lib.hid (TK4.out.pair (P' := P5) (pv' := .slice (some ⟨pg, 0, none⟩) pn pc) (by rw [HP5L.out]; exact hst.1) hst.2)
                have HP5V := Lib.hid (hP5v k HPV.out HUL.out)
                clear hst hP5 hP5l hP5v TK4
                go_wp2
                go_roundw
                case rel => exact ⟨j + 1, P5, by omega, by go_num, HP5L.out, HP5V.out, TK5.out⟩
                case measure => simp [intOf]; omega)
            · have e : pn = j := by omega
              subst e
              have hwi := TKI.out.b.size
              have n0 : wr.cell? ⟨w.heap.size + 1 + 1 + 1, 0, none⟩ = some (.int .i64 2) := (TKI.out).nows.1.1
              have n1 : wr.cell? ⟨w.heap.size + 1 + 1 + 1, 1, none⟩ = some (.string (mkS T)) := (TKI.out).nows.1.2.1
              have n2 : wr.cell? ⟨w.heap.size + 1 + 1 + 1, 2, none⟩ = some (.string ⟨#[]⟩) := (TKI.out).nows.1.2.2.1
              have n3 : wr.cell? ⟨w.heap.size + 1 + 1 + 1, 3, none⟩ = some (.slice pa pn pc) := (TKI.out).nows.1.2.2.2
              have nf0 : wr.frozen? ⟨w.heap.size + 1 + 1 + 1, 0, none⟩ = false := (TKI.out).nows.2.1
              have nf1 : wr.frozen? ⟨w.heap.size + 1 + 1 + 1, 1, none⟩ = false := (TKI.out).nows.2.2.1
              have nf2 : wr.frozen? ⟨w.heap.size + 1 + 1 + 1, 2, none⟩ = false := (TKI.out).nows.2.2.2.1
              have nf3 : wr.frozen? ⟨w.heap.size + 1 + 1 + 1, 3, none⟩ = false := (TKI.out).nows.2.2.2.2
              have s0 : wr.cell? ⟨w.heap.size + 1, 0, none⟩ = some (.int .i64 (M : Int)) := TKI.out.cells.1.1
              have s1 : wr.cell? ⟨w.heap.size + 1, 1, none⟩ = some (.string (mkS T)) := TKI.out.cells.1.2.1
              have s2 : wr.cell? ⟨w.heap.size + 1, 2, none⟩ = some (.string (mkS A)) := TKI.out.cells.1.2.2.1
              have s3 : wr.cell? ⟨w.heap.size + 1, 3, none⟩ = some (.bool EE) := TKI.out.cells.1.2.2.2
              have f0 : wr.frozen? ⟨w.heap.size + 1, 0, none⟩ = false := TKI.out.cells.2.2.1
              have f1 : wr.frozen? ⟨w.heap.size + 1, 1, none⟩ = false := TKI.out.cells.2.2.2.1
              have f2 : wr.frozen? ⟨w.heap.size + 1, 2, none⟩ = false := TKI.out.cells.2.2.2.2.1
              have f3 : wr.frozen? ⟨w.heap.size + 1, 3, none⟩ = false := TKI.out.cells.2.2.2.2.2
              have mm0 : wr.cell? ⟨w1.heap.size, 0, none⟩ = some (.int .i64 (N : Int)) := TKI.out.cells.2.1.1
              have mm1 : wr.cell? ⟨w1.heap.size, 1, none⟩ = some (.string (mkS T2)) := TKI.out.cells.2.1.2.1
              have mm2 : wr.cell? ⟨w1.heap.size, 2, none⟩ = some (.string (mkS A2)) := TKI.out.cells.2.1.2.2.1
              have mm3 : wr.cell? ⟨w1.heap.size, 3, none⟩ = some (.bool E2) := TKI.out.cells.2.1.2.2.2
              go_wp2_with (at_builtin; refine wpList_pushTokP (.tmp 249) (.tmp 251) w.heap.size (⟨2, mkS T, ⟨#[]⟩, pa, pn, pc⟩ : TokP) _ L.length L TKI.out.o hwi (by omega) rfl (by rfl) (by rfl) (wr.heap.size) (by simp) (by rfl) ?_; intro v5 w5 o5 g5 a5; have TK5 : Hid (TkG w v5 _ (L ++ [(⟨2, mkS T, ⟨#[]⟩, pa, pn, pc⟩ : TokP)]) cr ⟨M, T, A, EE⟩ #[.int .i64 2, .string (mkS T), .string ⟨#[]⟩, .slice pa pn pc] (.slice pa pn pc) PP w1.heap.size ⟨N, T2, A2, E2⟩ w5) := TKI.out.tok o5 g5 a5; clear o5 g5 a5; have q0 : w5.cell? ⟨w.heap.size + 1, 0, none⟩ = some (.int .i64 (M : Int)) := TK5.out.cells.1.1; have q1 : w5.cell? ⟨w.heap.size + 1, 1, none⟩ = some (.string (mkS T)) := TK5.out.cells.1.2.1; have q2 : w5.cell? ⟨w.heap.size + 1, 2, none⟩ = some (.string (mkS A)) := TK5.out.cells.1.2.2.1; have q3 : w5.cell? ⟨w.heap.size + 1, 3, none⟩ = some (.bool EE) := TK5.out.cells.1.2.2.2; have g0 : w5.frozen? ⟨w.heap.size + 1, 0, none⟩ = false := TK5.out.cells.2.2.1; have g1 : w5.frozen? ⟨w.heap.size + 1, 1, none⟩ = false := TK5.out.cells.2.2.2.1; have g2 : w5.frozen? ⟨w.heap.size + 1, 2, none⟩ = false := TK5.out.cells.2.2.2.2.1; have g3 : w5.frozen? ⟨w.heap.size + 1, 3, none⟩ = false := TK5.out.cells.2.2.2.2.2; have m0 : w5.cell? ⟨w1.heap.size, 0, none⟩ = some (.int .i64 (N : Int)) := TK5.out.cells.2.1.1; have m1 : w5.cell? ⟨w1.heap.size, 1, none⟩ = some (.string (mkS T2)) := TK5.out.cells.2.1.2.1; have m2 : w5.cell? ⟨w1.heap.size, 2, none⟩ = some (.string (mkS A2)) := TK5.out.cells.2.1.2.2.1; have m3 : w5.cell? ⟨w1.heap.size, 3, none⟩ = some (.bool E2) := TK5.out.cells.2.1.2.2.2; have nn0 : w5.cell? ⟨w.heap.size + 1 + 1 + 1, 0, none⟩ = some (.int .i64 2) := (TK5.out).nows.1.1; have nn1 : w5.cell? ⟨w.heap.size + 1 + 1 + 1, 1, none⟩ = some (.string (mkS T)) := (TK5.out).nows.1.2.1; have nn2 : w5.cell? ⟨w.heap.size + 1 + 1 + 1, 2, none⟩ = some (.string ⟨#[]⟩) := (TK5.out).nows.1.2.2.1; have nn3 : w5.cell? ⟨w.heap.size + 1 + 1 + 1, 3, none⟩ = some (.slice pa pn pc) := (TK5.out).nows.1.2.2.2; have ng0 : w5.frozen? ⟨w.heap.size + 1 + 1 + 1, 0, none⟩ = false := (TK5.out).nows.2.1; have ng1 : w5.frozen? ⟨w.heap.size + 1 + 1 + 1, 1, none⟩ = false := (TK5.out).nows.2.2.1; have ng2 : w5.frozen? ⟨w.heap.size + 1 + 1 + 1, 2, none⟩ = false := (TK5.out).nows.2.2.2.1; have ng3 : w5.frozen? ⟨w.heap.size + 1 + 1 + 1, 3, none⟩ = false := (TK5.out).nows.2.2.2.2)
              have TK6 : Hid (TkG w _ _ (L ++ [(⟨2, mkS T, ⟨#[]⟩, pa, pn, pc⟩ : TokP)]) cr ⟨M, T, A, EE⟩ #[.int .i64 0, .string ⟨#[]⟩, .string ⟨#[]⟩, .slice none 0 0] (.slice none 0 0) [] w1.heap.size ⟨N, T2, A2, E2⟩ ((((w5.setCell ⟨w.heap.size + 1 + 1 + 1, 0, none⟩ (.int .i64 0)).setCell ⟨w.heap.size + 1 + 1 + 1, 1, none⟩ (.string ⟨#[]⟩)).setCell ⟨w.heap.size + 1 + 1 + 1, 2, none⟩ (.string ⟨#[]⟩)).setCell ⟨w.heap.size + 1 + 1 + 1, 3, none⟩ (.slice none 0 0))) := (TK5.out.setN4 hnN (.int .i64 0) (.string ⟨#[]⟩) (.string ⟨#[]⟩) (.slice none 0 0)).dropP
              go_roundw
              case rel => exact ⟨k + 1, ⟨co ++ [(tx 2 T [], cp)], ⟨N, T2, A2, E2⟩, cr, 0⟩, L ++ [(⟨2, mkS T, ⟨#[]⟩, pa, pn, pc⟩ : TokP)], .slice none 0 0, [], by omega, by go_num, (by exact Nat.le_succ_of_le hrl), (by simp; omega), (Nat.zero_le _), HRN.out, HOK.out _ rfl, sig_snoc HSIG.out (by have e := HPN.out.symm.trans HLEN.out; show (_, pn) = _; rw [e]; rfl), rfl, (by intro x hx; cases hx), text_snoc HTX.out (Nat.zero_le _), (by rw [HNW.out]; exact (TK6.out.setS ⟨N, T2, A2, E2⟩ hnS).home)⟩
              case measure => simp [intOf]; omega
        · go_wp2
          clear n0 n1 n2 n3 nf0 nf1 nf2 nf3 s0 s1 s2 s3 f0 f1 f2 f3 hws TK2
          go_loopw [229] (fun t wi => ∃ (j : Nat) (PP : List (ByteArray × ByteArray)), j ≤ pn ∧ t = .int .i64 (j : Int) ∧ Hid (PP.length = pn) ∧ Hid (∀ x ∈ PP, x.2.size ≤ k) ∧ Hid (TkG w _ _ L cr ⟨M, T, A, EE⟩ #[.int .i64 2, .string (mkS T), .string ⟨#[]⟩, .slice pa pn pc] (.slice pa pn pc) PP w1.heap.size ⟨N, T2, A2, E2⟩ wi)) (fun t _ => pn - (intOf t).toNat)
          case atStart => exact ⟨0, P, Nat.zero_le _, rfl, HPN.out, hv0.out, TK3.out⟩
          case round =>
            clear TK3
            obtain ⟨j, PP, hjn, rfl, HPP, HPV, TKI⟩ := hrel
            by_cases hj : j < pn
            · have hjP : j < PP.length := by rw [HPP.out]; exact hj
              obtain ⟨pg, pc2, hpv, hpB, hpl2, _, _, hpf, hpcell⟩ := pair_at (ownM TKI.out.q HPP.out) HPP.out (by omega)
              injection hpv with hpa _ hpc2
              subst hpa; subst hpc2
              obtain ⟨_, y1⟩ := hpcell j hjP
              have z1 := hpf (j * 2 + 1)
              have hys : PP[j].2.size ≤ k := HPV.out _ (List.getElem_mem hjP)
              generalize PP[j].2 = y at *
              have CU := Lib.hid (fun W => impl_UnescapeText y W (by omega))
              have hul : (mkS (unescR (bl y))).size ≤ k := by rw [mkS_size]; have := unescR_len (bl y); rw [bl_len] at this; omega
              have HUL := Lib.hid hul
              generalize mkS (unescR (bl y)) = U at *
              have n3 := TKI.out.nows.1.2.2.2
              have hne : pg ≠ w.heap.size + 1 + 1 + 1 := fun e => own_ne (v := .slice (some ⟨pg, 0, none⟩) pn pc) TKI.out.q TKI.out.n (by decide) (by rw [e]; rfl)
              have hne2 : w.heap.size + 1 + 1 + 1 ≠ pg := fun e => hne e.symm
              have hbN := bld_ltS TKI.out.n
              have m0 : (0 : Int) ≤ (j : Int) := by omega
              have m1 : (j : Int) < (pn : Int) := by omega
              clear hpcell hpf hul
              go_wp2
              go_region_with ((go_at_call 42; refine (CU.out _).mono ?_; rintro e w4 ⟨rfl, b4⟩; obtain ⟨hcc, hff⟩ := bcell b4; have za := (hcc _ 3 hbN).trans n3; have zb := (hcc _ (j * 2 + 1) hpl2).trans y1; have zf := (hff _ (j * 2 + 1) hpl2).trans z1; clear hcc hff))
              all_goals (
                have TK4 := Lib.hid (TKI.out.below ((Below.refl _ _).drew.trans (b4.mono (Nat.le_refl _))))
                obtain ⟨P5, hP5, hP5l, hP5v⟩ := pairC_set2 PP j hjP U
                have hst := (ownM TK4.out.q HPP.out : w4.ownsRow w.heap.size 60 2 (.slice (some ⟨pg, 0, none⟩) pn pc) pn (pairC PP)).stored (j * 2 + 1) (.string U)
                rw [hP5] at hst
                have HP5L := Lib.hid (hP5l.trans HPP.out)
                have TK5 := Lib.hid (TK4.out.pair (P' := P5) (pv' := .slice (some ⟨pg, 0, none⟩) pn pc) (by rw [HP5L.out]; exact hst.1) hst.2)
                have HP5V := Lib.hid (hP5v k HPV.out HUL.out)
                clear hst hP5 hP5l hP5v TK4
                go_wp2
                go_roundw
                case rel => exact ⟨j + 1, P5, by omega, by go_num, HP5L.out, HP5V.out, TK5.out⟩
                case measure => simp [intOf]; omega)
            · have e : pn = j := by omega
              subst e
              have hwi := TKI.out.b.size
              have n0 : wr.cell? ⟨w.heap.size + 1 + 1 + 1, 0, none⟩ = some (.int .i64 2) := (TKI.out).nows.1.1
              have n1 : wr.cell? ⟨w.heap.size + 1 + 1 + 1, 1, none⟩ = some (.string (mkS T)) := (TKI.out).nows.1.2.1
              have n2 : wr.cell? ⟨w.heap.size + 1 + 1 + 1, 2, none⟩ = some (.string ⟨#[]⟩) := (TKI.out).nows.1.2.2.1
              have n3 : wr.cell? ⟨w.heap.size + 1 + 1 + 1, 3, none⟩ = some (.slice pa pn pc) := (TKI.out).nows.1.2.2.2
              have nf0 : wr.frozen? ⟨w.heap.size + 1 + 1 + 1, 0, none⟩ = false := (TKI.out).nows.2.1
              have nf1 : wr.frozen? ⟨w.heap.size + 1 + 1 + 1, 1, none⟩ = false := (TKI.out).nows.2.2.1
              have nf2 : wr.frozen? ⟨w.heap.size + 1 + 1 + 1, 2, none⟩ = false := (TKI.out).nows.2.2.2.1
              have nf3 : wr.frozen? ⟨w.heap.size + 1 + 1 + 1, 3, none⟩ = false := (TKI.out).nows.2.2.2.2
              have s0 : wr.cell? ⟨w.heap.size + 1, 0, none⟩ = some (.int .i64 (M : Int)) := TKI.out.cells.1.1
              have s1 : wr.cell? ⟨w.heap.size + 1, 1, none⟩ = some (.string (mkS T)) := TKI.out.cells.1.2.1
              have s2 : wr.cell? ⟨w.heap.size + 1, 2, none⟩ = some (.string (mkS A)) := TKI.out.cells.1.2.2.1
              have s3 : wr.cell? ⟨w.heap.size + 1, 3, none⟩ = some (.bool EE) := TKI.out.cells.1.2.2.2
              have f0 : wr.frozen? ⟨w.heap.size + 1, 0, none⟩ = false := TKI.out.cells.2.2.1
              have f1 : wr.frozen? ⟨w.heap.size + 1, 1, none⟩ = false := TKI.out.cells.2.2.2.1
              have f2 : wr.frozen? ⟨w.heap.size + 1, 2, none⟩ = false := TKI.out.cells.2.2.2.2.1
              have f3 : wr.frozen? ⟨w.heap.size + 1, 3, none⟩ = false := TKI.out.cells.2.2.2.2.2
              have mm0 : wr.cell? ⟨w1.heap.size, 0, none⟩ = some (.int .i64 (N : Int)) := TKI.out.cells.2.1.1
              have mm1 : wr.cell? ⟨w1.heap.size, 1, none⟩ = some (.string (mkS T2)) := TKI.out.cells.2.1.2.1
              have mm2 : wr.cell? ⟨w1.heap.size, 2, none⟩ = some (.string (mkS A2)) := TKI.out.cells.2.1.2.2.1
              have mm3 : wr.cell? ⟨w1.heap.size, 3, none⟩ = some (.bool E2) := TKI.out.cells.2.1.2.2.2
              go_wp2_with (at_builtin; refine wpList_pushTokP (.tmp 249) (.tmp 251) w.heap.size (⟨2, mkS T, ⟨#[]⟩, pa, pn, pc⟩ : TokP) _ L.length L TKI.out.o hwi (by omega) rfl (by rfl) (by rfl) (wr.heap.size) (by simp) (by rfl) ?_; intro v5 w5 o5 g5 a5; have TK5 : Hid (TkG w v5 _ (L ++ [(⟨2, mkS T, ⟨#[]⟩, pa, pn, pc⟩ : TokP)]) cr ⟨M, T, A, EE⟩ #[.int .i64 2, .string (mkS T), .string ⟨#[]⟩, .slice pa pn pc] (.slice pa pn pc) PP w1.heap.size ⟨N, T2, A2, E2⟩ w5) := TKI.out.tok o5 g5 a5; clear o5 g5 a5; have q0 : w5.cell? ⟨w.heap.size + 1, 0, none⟩ = some (.int .i64 (M : Int)) := TK5.out.cells.1.1; have q1 : w5.cell? ⟨w.heap.size + 1, 1, none⟩ = some (.string (mkS T)) := TK5.out.cells.1.2.1; have q2 : w5.cell? ⟨w.heap.size + 1, 2, none⟩ = some (.string (mkS A)) := TK5.out.cells.1.2.2.1; have q3 : w5.cell? ⟨w.heap.size + 1, 3, none⟩ = some (.bool EE) := TK5.out.cells.1.2.2.2; have g0 : w5.frozen? ⟨w.heap.size + 1, 0, none⟩ = false := TK5.out.cells.2.2.1; have g1 : w5.frozen? ⟨w.heap.size + 1, 1, none⟩ = false := TK5.out.cells.2.2.2.1; have g2 : w5.frozen? ⟨w.heap.size + 1, 2, none⟩ = false := TK5.out.cells.2.2.2.2.1; have g3 : w5.frozen? ⟨w.heap.size + 1, 3, none⟩ = false := TK5.out.cells.2.2.2.2.2; have m0 : w5.cell? ⟨w1.heap.size, 0, none⟩ = some (.int .i64 (N : Int)) := TK5.out.cells.2.1.1; have m1 : w5.cell? ⟨w1.heap.size, 1, none⟩ = some (.string (mkS T2)) := TK5.out.cells.2.1.2.1; have m2 : w5.cell? ⟨w1.heap.size, 2, none⟩ = some (.string (mkS A2)) := TK5.out.cells.2.1.2.2.1; have m3 : w5.cell? ⟨w1.heap.size, 3, none⟩ = some (.bool E2) := TK5.out.cells.2.1.2.2.2; have nn0 : w5.cell? ⟨w.heap.size + 1 + 1 + 1, 0, none⟩ = some (.int .i64 2) := (TK5.out).nows.1.1; have nn1 : w5.cell? ⟨w.heap.size + 1 + 1 + 1, 1, none⟩ = some (.string (mkS T)) := (TK5.out).nows.1.2.1; have nn2 : w5.cell? ⟨w.heap.size + 1 + 1 + 1, 2, none⟩ = some (.string ⟨#[]⟩) := (TK5.out).nows.1.2.2.1; have nn3 : w5.cell? ⟨w.heap.size + 1 + 1 + 1, 3, none⟩ = some (.slice pa pn pc) := (TK5.out).nows.1.2.2.2; have ng0 : w5.frozen? ⟨w.heap.size + 1 + 1 + 1, 0, none⟩ = false := (TK5.out).nows.2.1; have ng1 : w5.frozen? ⟨w.heap.size + 1 + 1 + 1, 1, none⟩ = false := (TK5.out).nows.2.2.1; have ng2 : w5.frozen? ⟨w.heap.size + 1 + 1 + 1, 2, none⟩ = false := (TK5.out).nows.2.2.2.1; have ng3 : w5.frozen? ⟨w.heap.size + 1 + 1 + 1, 3, none⟩ = false := (TK5.out).nows.2.2.2.2)
              have TK6 : Hid (TkG w _ _ (L ++ [(⟨2, mkS T, ⟨#[]⟩, pa, pn, pc⟩ : TokP)]) cr ⟨M, T, A, EE⟩ #[.int .i64 0, .string ⟨#[]⟩, .string ⟨#[]⟩, .slice none 0 0] (.slice none 0 0) [] w1.heap.size ⟨N, T2, A2, E2⟩ ((((w5.setCell ⟨w.heap.size + 1 + 1 + 1, 0, none⟩ (.int .i64 0)).setCell ⟨w.heap.size + 1 + 1 + 1, 1, none⟩ (.string ⟨#[]⟩)).setCell ⟨w.heap.size + 1 + 1 + 1, 2, none⟩ (.string ⟨#[]⟩)).setCell ⟨w.heap.size + 1 + 1 + 1, 3, none⟩ (.slice none 0 0))) := (TK5.out.setN4 hnN (.int .i64 0) (.string ⟨#[]⟩) (.string ⟨#[]⟩) (.slice none 0 0)).dropP
              go_roundw
              case rel => exact ⟨k + 1, ⟨co ++ [(tx 2 T [], cp)], ⟨N, T2, A2, E2⟩, cr, 0⟩, L ++ [(⟨2, mkS T, ⟨#[]⟩, pa, pn, pc⟩ : TokP)], .slice none 0 0, [], by omega, by go_num, (by exact Nat.le_succ_of_le hrl), (by simp; omega), (Nat.zero_le _), HRN.out, HOK.out _ rfl, sig_snoc HSIG.out (by have e := HPN.out.symm.trans HLEN.out; show (_, pn) = _; rw [e]; rfl), rfl, (by intro x hx; cases hx), text_snoc HTX.out (Nat.zero_le _), (by rw [HNW.out]; exact (TK6.out.setS ⟨N, T2, A2, E2⟩ hnS).home)⟩
              case measure => simp [intOf]; omega
      case many =>
        as_aux_lemma =>
        rename_i h1 h2 h3 h4
        simp only [hn] at h1 h2 h3 HRN HOK
        skip
        have HNK : Hid (nowK M = 2) := by show _ = _; unfold nowK; rw [if_pos (by omega)]
        rw [HNK.out] at TK
        have HNW : Hid (nowK N = 0) := by show _ = _; unfold nowK; rw [if_neg (by omega)]
        obtain ⟨pn, hpn⟩ : ∃ pn, P.length = pn := ⟨_, rfl⟩
        obtain ⟨pa, pc, rfl, _, hpc, hpc2, _⟩ := ownN_formn (ownM TK.out.q hpn)
        have mf0 : ((M : Int) == 0) = false := kindF (K := M) (n := 0) (by omega)
        have mf1 : ((M : Int) == 1) = false := kindF (K := M) (n := 1) (by omega)
        have mf9 : ((M : Int) == 9) = false := kindF (K := M) (n := 9) (by omega)
        have mf10 : ((M : Int) == 10) = false := kindF (K := M) (n := 10) (by omega)
        have mf14 : ((M : Int) == 14) = false := kindF (K := M) (n := 14) (by omega)
        have t9 : ¬ (11 : Int) ≤ (M : Int) := by omega
        have t8 : (M : Int) ≤ 8 := by omega
        have t2 : (2 : Int) ≤ (M : Int) := by omega
        have nf15 : ((N : Int) == 15) = false := kindF (K := N) (n := 15) (by omega)
        have nf4 : ((N : Int) == 4) = false := kindF (K := N) (n := 4) (by omega)
        have nf8 : ((N : Int) == 8) = false := kindF (K := N) (n := 8) (by omega)
        have hmn : ((M : Int) == (N : Int)) = false := by simp; omega
        have hq : ((N : Int) == 0) = true ∨ (((N : Int) == 0) = false ∧ ((N : Int) == 11) = true) := by
          rcases h3 with e | e
          · exact .inl (kindT (n := 0) e)
          · exact .inr ⟨kindF (n := 0) (by omega), kindT (n := 11) e⟩
        have hp60 : (60 : Int) < (pn : Int) := by have := HLEN.out; simp only at h4; omega
        have TK0 : Hid (TkG w _ _ L cr ⟨M, T, A, EE⟩ #[.int .i64 2, .string ⟨#[]⟩, .string ⟨#[]⟩, (.slice pa pn pc)] (.slice pa pn pc) P (w.heap.size + 1) ⟨M, T, A, EE⟩ wr) := TK.out
        have s0 : wr.cell? ⟨w.heap.size + 1, 0, none⟩ = some (.int .i64 (M : Int)) := TK0.out.cells.1.1
        have s1 : wr.cell? ⟨w.heap.size + 1, 1, none⟩ = some (.string (mkS T)) := TK0.out.cells.1.2.1
        have s2 : wr.cell? ⟨w.heap.size + 1, 2, none⟩ = some (.string (mkS A)) := TK0.out.cells.1.2.2.1
        have s3 : wr.cell? ⟨w.heap.size + 1, 3, none⟩ = some (.bool EE) := TK0.out.cells.1.2.2.2
        clear TK hn h3 h4
        go_wp2_with fail
        refine (CS.out _).mono ?_
        rintro e w1 ⟨rfl, b1⟩
        have TK1 := Lib.hid (TK0.out.below b1)
        have TK2 : Hid (TkG w _ _ L cr ⟨M, T, A, EE⟩ #[.int .i64 2, .string ⟨#[]⟩, .string ⟨#[]⟩, (.slice pa pn pc)] (.slice pa pn pc) P w1.heap.size ⟨N, T2, A2, E2⟩ (w1.alloc (.cells #[.int .i64 (N : Int), .string (mkS T2), .string (mkS A2), .bool E2] 57 (0, 0)))) := TK1.out.fresh ⟨N, T2, A2, E2⟩
        have hnS : w1.heap.size ≠ w.heap.size + 1 := by have := bld_ltS TK1.out.s; omega
        have hnN : w1.heap.size ≠ w.heap.size + 1 + 1 + 1 := by have := bld_ltS TK1.out.n; omega
        have hws := TK2.out.b.size
        clear s0 s1 s2 s3 b1 TK0 TK1
        have s0 : (w1.alloc (.cells #[.int .i64 (N : Int), .string (mkS T2), .string (mkS A2), .bool E2] 57 (0, 0))).cell? ⟨w.heap.size + 1, 0, none⟩ = some (.int .i64 (M : Int)) := TK2.out.cells.1.1
        have s1 : (w1.alloc (.cells #[.int .i64 (N : Int), .string (mkS T2), .string (mkS A2), .bool E2] 57 (0, 0))).cell? ⟨w.heap.size + 1, 1, none⟩ = some (.string (mkS T)) := TK2.out.cells.1.2.1
        have s2 : (w1.alloc (.cells #[.int .i64 (N : Int), .string (mkS T2), .string (mkS A2), .bool E2] 57 (0, 0))).cell? ⟨w.heap.size + 1, 2, none⟩ = some (.string (mkS A)) := TK2.out.cells.1.2.2.1
        have s3 : (w1.alloc (.cells #[.int .i64 (N : Int), .string (mkS T2), .string (mkS A2), .bool E2] 57 (0, 0))).cell? ⟨w.heap.size + 1, 3, none⟩ = some (.bool EE) := TK2.out.cells.1.2.2.2
        have f0 : (w1.alloc (.cells #[.int .i64 (N : Int), .string (mkS T2), .string (mkS A2), .bool E2] 57 (0, 0))).frozen? ⟨w.heap.size + 1, 0, none⟩ = false := TK2.out.cells.2.2.1
        have f1 : (w1.alloc (.cells #[.int .i64 (N : Int), .string (mkS T2), .string (mkS A2), .bool E2] 57 (0, 0))).frozen? ⟨w.heap.size + 1, 1, none⟩ = false := TK2.out.cells.2.2.2.1
        have f2 : (w1.alloc (.cells #[.int .i64 (N : Int), .string (mkS T2), .string (mkS A2), .bool E2] 57 (0, 0))).frozen? ⟨w.heap.size + 1, 2, none⟩ = false := TK2.out.cells.2.2.2.2.1
        have f3 : (w1.alloc (.cells #[.int .i64 (N : Int), .string (mkS T2), .string (mkS A2), .bool E2] 57 (0, 0))).frozen? ⟨w.heap.size + 1, 3, none⟩ = false := TK2.out.cells.2.2.2.2.2
        have n0 : (w1.alloc (.cells #[.int .i64 (N : Int), .string (mkS T2), .string (mkS A2), .bool E2] 57 (0, 0))).cell? ⟨w.heap.size + 1 + 1 + 1, 0, none⟩ = some (.int .i64 2) := (TK2.out).nows.1.1
        have n1 : (w1.alloc (.cells #[.int .i64 (N : Int), .string (mkS T2), .string (mkS A2), .bool E2] 57 (0, 0))).cell? ⟨w.heap.size + 1 + 1 + 1, 1, none⟩ = some (.string ⟨#[]⟩) := (TK2.out).nows.1.2.1
        have n2 : (w1.alloc (.cells #[.int .i64 (N : Int), .string (mkS T2), .string (mkS A2), .bool E2] 57 (0, 0))).cell? ⟨w.heap.size + 1 + 1 + 1, 2, none⟩ = some (.string ⟨#[]⟩) := (TK2.out).nows.1.2.2.1
        have n3 : (w1.alloc (.cells #[.int .i64 (N : Int), .string (mkS T2), .string (mkS A2), .bool E2] 57 (0, 0))).cell? ⟨w.heap.size + 1 + 1 + 1, 3, none⟩ = some ((.slice pa pn pc)) := (TK2.out).nows.1.2.2.2
        have nf0 : (w1.alloc (.cells #[.int .i64 (N : Int), .string (mkS T2), .string (mkS A2), .bool E2] 57 (0, 0))).frozen? ⟨w.heap.size + 1 + 1 + 1, 0, none⟩ = false := (TK2.out).nows.2.1
        have nf1 : (w1.alloc (.cells #[.int .i64 (N : Int), .string (mkS T2), .string (mkS A2), .bool E2] 57 (0, 0))).frozen? ⟨w.heap.size + 1 + 1 + 1, 1, none⟩ = false := (TK2.out).nows.2.2.1
        have nf2 : (w1.alloc (.cells #[.int .i64 (N : Int), .string (mkS T2), .string (mkS A2), .bool E2] 57 (0, 0))).frozen? ⟨w.heap.size + 1 + 1 + 1, 2, none⟩ = false := (TK2.out).nows.2.2.2.1
        have nf3 : (w1.alloc (.cells #[.int .i64 (N : Int), .string (mkS T2), .string (mkS A2), .bool E2] 57 (0, 0))).frozen? ⟨w.heap.size + 1 + 1 + 1, 3, none⟩ = false := (TK2.out).nows.2.2.2.2
        have TK3 : Hid (TkG w _ _ L cr ⟨M, T, A, EE⟩ #[.int .i64 2, .string (mkS T), .string ⟨#[]⟩, .slice pa pn pc] (.slice pa pn pc) P w1.heap.size ⟨N, T2, A2, E2⟩ ((w1.alloc (.cells #[.int .i64 (N : Int), .string (mkS T2), .string (mkS A2), .bool E2] 57 (0, 0))).setCell ⟨w.heap.size + 1 + 1 + 1, 1, none⟩ (.string (mkS T)))) := TK2.out.setN1 hnN (.string (mkS T))
        have HPN := Lib.hid hpn
        have hv0 := Lib.hid HVALS.out
        rcases hq with c1 | ⟨c1, c2⟩
        · go_wp2
          clear n0 n1 n2 n3 nf0 nf1 nf2 nf3 s0 s1 s2 s3 f0 f1 f2 f3 hws TK2
          go_loopw [229] (fun t wi => ∃ (j : Nat) (PP : List (ByteArray × ByteArray)), j ≤ pn ∧ t = .int .i64 (j : Int) ∧ Hid (PP.length = pn) ∧ Hid (∀ x ∈ PP, x.2.size ≤ k) ∧ Hid (TkG w _ _ L cr ⟨M, T, A, EE⟩ #[.int .i64 2, .string (mkS T), .string ⟨#[]⟩, .slice pa pn pc] (.slice pa pn pc) PP w1.heap.size ⟨N, T2, A2, E2⟩ wi)) (fun t _ => pn - (intOf t).toNat)
          case atStart => exact ⟨0, P, Nat.zero_le _, rfl, HPN.out, hv0.out, TK3.out⟩
          case round =>
            clear TK3
            obtain ⟨j, PP, hjn, rfl, HPP, HPV, TKI⟩ := hrel
            by_cases hj : j < pn
            · have hjP : j < PP.length := by rw [HPP.out]; exact hj
              obtain ⟨pg, pc2, hpv, hpB, hpl2, _, _, hpf, hpcell⟩ := pair_at (ownM TKI.out.q HPP.out) HPP.out (by omega)
              injection hpv with hpa _ hpc2
              subst hpa; subst hpc2
              obtain ⟨_, y1⟩ := hpcell j hjP
              have z1 := hpf (j * 2 + 1)
              have hys : PP[j].2.size ≤ k := HPV.out _ (List.getElem_mem hjP)
              generalize PP[j].2 = y at *
              have CU := Lib.hid (fun W => impl_UnescapeText y W (by omega))
              have hul : (mkS (unescR (bl y))).size ≤ k := by rw [mkS_size]; have := unescR_len (bl y); rw [bl_len] at this; omega
              have HUL := Lib.hid hul
              generalize mkS (unescR (bl y)) = U at *
              have n3 := TKI.out.nows.1.2.2.2
              have hne : pg ≠ w.heap.size + 1 + 1 + 1 := fun e => own_ne (v := .slice (some ⟨pg, 0, none⟩) pn pc) TKI.out.q TKI.out.n (by decide) (by rw [e]; rfl)
              have hne2 : w.heap.size + 1 + 1 + 1 ≠ pg := fun e => hne e.symm
              have hbN := bld_ltS TKI.out.n
              have m0 : (0 : Int) ≤ (j : Int) := by omega
              have m1 : (j : Int) < (pn : Int) := by omega
              clear hpcell hpf hul
              go_wp2
              go_region_with ((go_at_call 42; refine (CU.out _).mono ?_; rintro e w4 ⟨rfl, b4⟩; obtain ⟨hcc, hff⟩ := bcell b4; have za := (hcc _ 3 hbN).trans n3; have zb := (hcc _ (j * 2 + 1) hpl2).trans y1; have zf := (hff _ (j * 2 + 1) hpl2).trans z1; clear hcc hff))
              all_goals (
                have TK4 := Lib.hid (TKI.out.below ((Below.refl _ _).drew.trans (b4.mono (Nat.le_refl _))))
                obtain ⟨P5, hP5, hP5l, hP5v⟩ := pairC_set2 PP j hjP U
                have hst := (ownM TK4.out.q HPP.out : w4.ownsRow w.heap.size 60 2 (.slice (some ⟨pg, 0, none⟩) pn pc) pn (pairC PP)).stored (j * 2 + 1) (.string U)
                rw [hP5] at hst
                have HP5L := Lib.hid (hP5l.trans HPP.out)
                have TK5 := Lib.hid (TK4.out.pair (P' := P5) (pv' := .slice (some ⟨pg, 0, none⟩) pn pc) (by rw [HP5L.out]; exact hst.1) hst.2)
                have HP5V := Lib.hid (hP5v k HPV.out HUL.out)
                clear hst hP5 hP5l hP5v TK4
                go_wp2
                go_roundw
                case rel => exact ⟨j + 1, P5, by omega, by go_num, HP5L.out, HP5V.out, TK5.out⟩
                case measure => simp [intOf]; omega)
            · have e : pn = j := by omega
              subst e
              have hwi := TKI.out.b.size
              have n0 : wr.cell? ⟨w.heap.size + 1 + 1 + 1, 0, none⟩ = some (.int .i64 2) := (TKI.out).nows.1.1
              have n1 : wr.cell? ⟨w.heap.size + 1 + 1 + 1, 1, none⟩ = some (.string (mkS T)) := (TKI.out).nows.1.2.1
              have n2 : wr.cell? ⟨w.heap.size + 1 + 1 + 1, 2, none⟩ = some (.string ⟨#[]⟩) := (TKI.out).nows.1.2.2.1
              have n3 : wr.cell? ⟨w.heap.size + 1 + 1 + 1, 3, none⟩ = some (.slice pa pn pc) := (TKI.out).nows.1.2.2.2
              have nf0 : wr.frozen? ⟨w.heap.size + 1 + 1 + 1, 0, none⟩ = false := (TKI.out).nows.2.1
              have nf1 : wr.frozen? ⟨w.heap.size + 1 + 1 + 1, 1, none⟩ = false := (TKI.out).nows.2.2.1
              have nf2 : wr.frozen? ⟨w.heap.size + 1 + 1 + 1, 2, none⟩ = false := (TKI.out).nows.2.2.2.1
              have nf3 : wr.frozen? ⟨w.heap.size + 1 + 1 + 1, 3, none⟩ = false := (TKI.out).nows.2.2.2.2
              have s0 : wr.cell? ⟨w.heap.size + 1, 0, none⟩ = some (.int .i64 (M : Int)) := TKI.out.cells.1.1
              have s1 : wr.cell? ⟨w.heap.size + 1, 1, none⟩ = some (.string (mkS T)) := TKI.out.cells.1.2.1
              have s2 : wr.cell? ⟨w.heap.size + 1, 2, none⟩ = some (.string (mkS A)) := TKI.out.cells.1.2.2.1
              have s3 : wr.cell? ⟨w.heap.size + 1, 3, none⟩ = some (.bool EE) := TKI.out.cells.1.2.2.2
              have f0 : wr.frozen? ⟨w.heap.size + 1, 0, none⟩ = false := TKI.out.cells.2.2.1
              have f1 : wr.frozen? ⟨w.heap.size + 1, 1, none⟩ = false := TKI.out.cells.2.2.2.1
              have f2 : wr.frozen? ⟨w.heap.size + 1, 2, none⟩ = false := TKI.out.cells.2.2.2.2.1
              have f3 : wr.frozen? ⟨w.heap.size + 1, 3, none⟩ = false := TKI.out.cells.2.2.2.2.2
              have mm0 : wr.cell? ⟨w1.heap.size, 0, none⟩ = some (.int .i64 (N : Int)) := TKI.out.cells.2.1.1
              have mm1 : wr.cell? ⟨w1.heap.size, 1, none⟩ = some (.string (mkS T2)) := TKI.out.cells.2.1.2.1
              have mm2 : wr.cell? ⟨w1.heap.size, 2, none⟩ = some (.string (mkS A2)) := TKI.out.cells.2.1.2.2.1
              have mm3 : wr.cell? ⟨w1.heap.size, 3, none⟩ = some (.bool E2) := TKI.out.cells.2.1.2.2.2
              go_wp2
              exact bodyPost_ret (v := .tuple #[.slice none 0 0, .bool false]) (by simp [results, Try.results17, go_sem]) rfl (tokAns_none (HNO.out (by first | rfl | trivial)) TKI.out.b)
        · go_wp2
          clear n0 n1 n2 n3 nf0 nf1 nf2 nf3 s0 s1 s2 s3 f0 f1 f2 f3 hws TK2
          go_loopw [229] (fun t wi => ∃ (j : Nat) (PP : List (ByteArray × ByteArray)), j ≤ pn ∧ t = .int .i64 (j : Int) ∧ Hid (PP.length = pn) ∧ Hid (∀ x ∈ PP, x.2.size ≤ k) ∧ Hid (TkG w _ _ L cr ⟨M, T, A, EE⟩ #[.int .i64 2, .string (mkS T), .string ⟨#[]⟩, .slice pa pn pc] (.slice pa pn pc) PP w1.heap.size ⟨N, T2, A2, E2⟩ wi)) (fun t _ => pn - (intOf t).toNat)
          case atStart => exact ⟨0, P, Nat.zero_le _, rfl, HPN.out, hv0.out, TK3.out⟩
          case round =>
            clear TK3
            obtain ⟨j, PP, hjn, rfl, HPP, HPV, TKI⟩ := hrel
            by_cases hj : j < pn
            · have hjP : j < PP.length := by rw [HPP.out]; exact hj
              obtain ⟨pg, pc2, hpv, hpB, hpl2, _, _, hpf, hpcell⟩ := pair_at (ownM TKI.out.q HPP.out) HPP.out (by omega)
              injection hpv with hpa _ hpc2
              subst hpa; subst hpc2
              obtain ⟨_, y1⟩ := hpcell j hjP
              have z1 := hpf (j * 2 + 1)
              have hys : PP[j].2.size ≤ k := HPV.out _ (List.getElem_mem hjP)
              generalize PP[j].2 = y at *
              have CU := Lib.hid (fun W => impl_UnescapeText y W (by omega))
              have hul : (mkS (unescR (bl y))).size ≤ k := by rw [mkS_size]; have := unescR_len (bl y); rw [bl_len] at this; omega
              have HUL := Lib.hid hul
              generalize mkS (unescR (bl y)) = U at *
              have n3 := TKI.out.nows.1.2.2.2
              have hne : pg ≠ w.heap.size + 1 + 1 + 1 := fun e => own_ne (v := .slice (some ⟨pg, 0, none⟩) pn pc) TKI.out.q TKI.out.n (by decide) (by rw [e]; rfl)
              have hne2 : w.heap.size + 1 + 1 + 1 ≠ pg := fun e => hne e.symm
              have hbN := bld_ltS TKI.out.n
              have m0 : (0 : Int) ≤ (j : Int) := by omega
              have m1 : (j : Int) < (pn : Int) := by omega
              clear hpcell hpf hul
              go_wp2
              go_region_with ((go_at_call 42; refine (CU.out _).mono ?_; rintro e w4 ⟨rfl, b4⟩; obtain ⟨hcc, hff⟩ := bcell b4; have za := (hcc _ 3 hbN).trans n3; have zb := (hcc _ (j * 2 + 1) hpl2).trans y1; have zf := (hff _ (j * 2 + 1) hpl2).trans z1; clear hcc hff))
              all_goals (
                have TK4 := Lib.hid (TKI.out.below ((Below.refl _ _).drew.trans (b4.mono (Nat.le_refl _))))
                obtain ⟨P5, hP5, hP5l, hP5v⟩ := pairC_set2 PP j hjP U
                have hst := (ownM TK4.out.q HPP.out : w4.ownsRow w.heap.size 60 2 (.slice (some ⟨pg, 0, none⟩) pn pc) pn (pairC PP)).stored (j * 2 + 1) (.string U)
                rw [hP5] at hst
                have HP5L := Lib.hid (hP5l.trans HPP.out)
                have TK5 := Lib.hid (TK4.out.pair (P' := P5) (pv' := .slice (some ⟨pg, 0, none⟩) pn pc) (by rw [HP5L.out]; exact hst.1) hst.2)
                have HP5V := Lib.hid (hP5v k HPV.out HUL.out)
                clear hst hP5 hP5l hP5v TK4
                go_wp2
                go_roundw
                case rel => exact ⟨j + 1, P5, by omega, by go_num, HP5L.out, HP5V.out, TK5.out⟩
                case measure => simp [intOf]; omega)
            · have e : pn = j := by omega
              subst e
              have hwi := TKI.out.b.size
              have n0 : wr.cell? ⟨w.heap.size + 1 + 1 + 1, 0, none⟩ = some (.int .i64 2) := (TKI.out).nows.1.1
              have n1 : wr.cell? ⟨w.heap.size + 1 + 1 + 1, 1, none⟩ = some (.string (mkS T)) := (TKI.out).nows.1.2.1
              have n2 : wr.cell? ⟨w.heap.size + 1 + 1 + 1, 2, none⟩ = some (.string ⟨#[]⟩) := (TKI.out).nows.1.2.2.1
              have n3 : wr.cell? ⟨w.heap.size + 1 + 1 + 1, 3, none⟩ = some (.slice pa pn pc) := (TKI.out).nows.1.2.2.2
              have nf0 : wr.frozen? ⟨w.heap.size + 1 + 1 + 1, 0, none⟩ = false := (TKI.out).nows.2.1
              have nf1 : wr.frozen? ⟨w.heap.size + 1 + 1 + 1, 1, none⟩ = false := (TKI.out).nows.2.2.1
              have nf2 : wr.frozen? ⟨w.heap.size + 1 + 1 + 1, 2, none⟩ = false := (TKI.out).nows.2.2.2.1
              have nf3 : wr.frozen? ⟨w.heap.size + 1 + 1 + 1, 3, none⟩ = false := (TKI.out).nows.2.2.2.2
              have s0 : wr.cell? ⟨w.heap.size + 1, 0, none⟩ = some (.int .i64 (M : Int)) := TKI.out.cells.1.1
              have s1 : wr.cell? ⟨w.heap.size + 1, 1, none⟩ = some (.string (mkS T)) := TKI.out.cells.1.2.1
              have s2 : wr.cell? ⟨w.heap.size + 1, 2, none⟩ = some (.string (mkS A)) := TKI.out.cells.1.2.2.1
              have s3 : wr.cell? ⟨w.heap.size + 1, 3, none⟩ = some (.bool EE) := TKI.out.cells.1.2.2.2
              have f0 : wr.frozen? ⟨w.heap.size + 1, 0, none⟩ = false := TKI.out.cells.2.2.1
              have f1 : wr.frozen? ⟨w.heap.size + 1, 1, none⟩ = false := TKI.out.cells.2.2.2.1
              have f2 : wr.frozen? ⟨w.heap.size + 1, 2, none⟩ = false := TKI.out.cells.2.2.2.2.1
              have f3 : wr.frozen? ⟨w.heap.size + 1, 3, none⟩ = false := TKI.out.cells.2.2.2.2.2
              have mm0 : wr.cell? ⟨w1.heap.size, 0, none⟩ = some (.int .i64 (N : Int)) := TKI.out.cells.2.1.1
              have mm1 : wr.cell? ⟨w1.heap.size, 1, none⟩ = some (.string (mkS T2)) := TKI.out.cells.2.1.2.1
              have mm2 : wr.cell? ⟨w1.heap.size, 2, none⟩ = some (.string (mkS A2)) := TKI.out.cells.2.1.2.2.1
              have mm3 : wr.cell? ⟨w1.heap.size, 3, none⟩ = some (.bool E2) := TKI.out.cells.2.1.2.2.2
              go_wp2
              exact bodyPost_ret (v := .tuple #[.slice none 0 0, .bool false]) (by simp [results, Try.results17, go_sem]) rfl (tokAns_none (HNO.out (by first | rfl | trivial)) TKI.out.b)
    · as_aux_lemma =>
      have e : k = s.size := by omega
      subst e
      have HR : Hid (runI ci0 (bl s) = some c) := by have := RD.out.run; rwa [List.take_of_length_le (by rw [bl_len]; exact Nat.le_refl _)] at this
      have HA : Hid (tokI (bl s) = endI c) := by show _ = _; rw [HT.out, HR.out]; rfl
      have HSIG := Lib.hid RD.out.sig
      have HTX := Lib.hid RD.out.texts
      have TK := Lib.hid RD.out.mem
      obtain ⟨co, ⟨M, T, A, EE⟩, cr, cp⟩ := c
      simp only at hrl HSIG TK
      clear RD HT HR
      by_cases h0 : M = 0
      · subst h0
        have TK0 : Hid (TkG w _ _ L cr ⟨0, T, A, EE⟩ #[.int .i64 (nowK 0), .string ⟨#[]⟩, .string ⟨#[]⟩, pv] pv P (w.heap.size + 1) ⟨0, T, A, EE⟩ wr) := TK.out
        have hws := TK0.out.b.size
        clear TK
        have s0 : wr.cell? ⟨w.heap.size + 1, 0, none⟩ = some (.int .i64 0) := TK0.out.cells.1.1
        have s1 : wr.cell? ⟨w.heap.size + 1, 1, none⟩ = some (.string (mkS T)) := TK0.out.cells.1.2.1
        have s2 : wr.cell? ⟨w.heap.size + 1, 2, none⟩ = some (.string (mkS A)) := TK0.out.cells.1.2.2.1
        have s3 : wr.cell? ⟨w.heap.size + 1, 3, none⟩ = some (.bool EE) := TK0.out.cells.1.2.2.2
        by_cases hr0 : cr = []
        · have HFL : Hid (flushI ⟨co, ⟨0, T, A, EE⟩, cr, cp⟩ = co) := by show _ = _; unfold flushI; rw [if_pos hr0]
          subst hr0
          obtain ⟨ra, rc, rfl, _⟩ := own_formn TK0.out.r
          obtain ⟨ln, hln⟩ : ∃ ln, L.length = ln := ⟨_, rfl⟩
          obtain ⟨oa, oc, rfl, _⟩ := ownN_formn (ownM TK0.out.o hln)
          have HLN := Lib.hid hln
          by_cases h6 : 60 < ln
          · have HNo : Hid (tokI (bl s) = none) := by show _ = _; rw [HA.out]; unfold endI; rw [if_neg (fun h => by have h2 := h.2; rw [HFL.out, ← HSIG.out, List.length_map] at h2; omega)]
            have h60 : (60 : Int) < (ln : Int) := by omega
            clear hln h6 HA
            go_wp2
            exact bodyPost_ret (v := .tuple #[.slice none 0 0, .bool false]) (by simp [results, Try.results17, go_sem]) rfl (tokAns_none HNo.out TK0.out.b)
          · have HYe : Hid (tokI (bl s) = some co) := by show _ = _; rw [HA.out]; unfold endI; rw [HFL.out, if_pos ⟨rfl, by rw [← HSIG.out, List.length_map]; omega⟩]
            have h60 : ¬ (60 : Int) < (ln : Int) := by omega
            have h62 : ln ≤ 60 := by omega
            have HOO := Lib.hid (ownM TK0.out.o hln)
            clear hln h6 HA
            go_wp2
            exact bodyPost_ret (v := .tuple #[.slice oa ln oc, .bool true]) (by simp [results, Try.results17, go_sem]) rfl (by rw [HYe.out]; exact ⟨_, L, rfl, HSIG.out, by rw [HLN.out]; exact h62, HTX.out, TK0.out.o, TK0.out.b⟩)
        · have HFL : Hid (flushI ⟨co, ⟨0, T, A, EE⟩, cr, cp⟩ = co ++ [(tx 1 [] (unescR cr), 0)]) := by show _ = _; unfold flushI; rw [if_neg hr0]
          have hl0 : 0 < cr.length := List.length_pos_iff.2 hr0
          have hl1 : (0 : Int) < (cr.length : Int) := by omega
          obtain ⟨ra, rc, rfl, rrow, _⟩ := own_formn TK0.out.r
          have kd := conv_row _ ra cr.length rc cr rrow rfl
          have CU := Lib.hid (fun W => impl_UnescapeText (mkS cr) W (by rw [mkS_size]; omega))
          simp only [bl_mkS] at CU
          have HUL : Hid (((unescR cr).length : Nat) ≤ 1048576) := by have := unescR_len cr; show _ ≤ _; omega
          clear rrow hr0
          go_wp2_with fail
          refine (CU.out _).mono ?_
          rintro e w3 ⟨rfl, b3⟩
          have TK3 := Lib.hid (TK0.out.below b3)
          have hw3 := TK3.out.b.size
          clear b3 kd CU s0 s1 s2 s3
          generalize unescR cr = U at *
          have HS2 := Lib.hid (sig_snoc (t := (⟨1, ⟨#[]⟩, mkS U, none, 0, 0⟩ : TokP)) HSIG.out rfl)
          have HT2 := Lib.hid (text_snoc (t := (⟨1, ⟨#[]⟩, mkS U, none, 0, 0⟩ : TokP)) HTX.out (by show (mkS U).size ≤ _; rw [mkS_size]; exact HUL.out))
          obtain ⟨ln, hln⟩ : ∃ ln, L.length = ln := ⟨_, rfl⟩
          have HLN := Lib.hid hln
          have HOW := Lib.hid (ownM TK3.out.o hln)
          by_cases h6 : 60 < ln + 1
          · have HNo : Hid (tokI (bl s) = none) := by show _ = _; rw [HA.out]; unfold endI; rw [if_neg (fun h => by have h2 := h.2; rw [HFL.out, List.length_append, ← HSIG.out, List.length_map] at h2; simp only [List.length_cons, List.length_nil] at h2; omega)]
            have h60 : (60 : Int) < (ln : Int) + 1 := by omega
            have h61 : 60 < ln + 1 := h6
            have hlk : ln ≤ s.size := by omega
            clear hln h6 HA
            go_wp2_with (at_builtin; refine wpList_pushTokP (.tmp 261) (.tmp 266) w.heap.size (⟨1, ⟨#[]⟩, mkS U, none, 0, 0⟩ : TokP) _ ln L HOW.out hw3 (by omega) rfl (by rfl) (by rfl) w3.heap.size (by simp) (by rfl) ?_; intro v5 w5 o5 g5 a5; obtain ⟨oa, oc, hv5, _⟩ := ownN_formn o5; subst hv5; have BB := Lib.hid (TK3.out.b.grown g5 hw3 (fun q hq => (ownN_ge TK3.out.o q hq).1)); clear o5 g5 a5)
            exact bodyPost_ret (v := .tuple #[.slice none 0 0, .bool false]) (by simp [results, Try.results17, go_sem]) rfl (tokAns_none HNo.out BB.out)
          · have HYe : Hid (tokI (bl s) = some (co ++ [(tx 1 [] U, 0)])) := by show _ = _; rw [HA.out]; unfold endI; rw [HFL.out, if_pos ⟨rfl, by rw [List.length_append, ← HSIG.out, List.length_map]; simp only [List.length_cons, List.length_nil]; omega⟩]
            have h60 : ¬ (60 : Int) < (ln : Int) + 1 := by omega
            have h61 : ¬ 60 < ln + 1 := h6
            clear hln h6 HA
            go_wp2_with (at_builtin; refine wpList_pushTokP (.tmp 261) (.tmp 266) w.heap.size (⟨1, ⟨#[]⟩, mkS U, none, 0, 0⟩ : TokP) _ ln L HOW.out hw3 (by omega) rfl (by rfl) (by rfl) w3.heap.size (by simp) (by rfl) ?_; intro v5 w5 o5 g5 a5; obtain ⟨oa, oc, hv5, _⟩ := ownN_formn o5; subst hv5; have O5 := Lib.hid o5; have BB := Lib.hid (TK3.out.b.grown g5 hw3 (fun q hq => (ownN_ge TK3.out.o q hq).1)); clear o5 g5 a5)
            exact bodyPost_ret (v := .tuple #[.slice oa (ln + 1) oc, .bool true]) (by simp [results, Try.results17, go_sem]) rfl (by rw [HYe.out]; exact ⟨_, L ++ [(⟨1, ⟨#[]⟩, mkS U, none, 0, 0⟩ : TokP)], rfl, HS2.out, by rw [List.length_append, HLN.out]; simp only [List.length_cons, List.length_nil]; omega, HT2.out, by rw [List.length_append, HLN.out]; exact O5.out, BB.out⟩)
      · have HNo : Hid (tokI (bl s) = none) := by show _ = _; rw [HA.out]; unfold endI; rw [if_neg (fun h => h0 h.1)]
        have mf : ((M : Int) != 0) = true := by simp; omega
        have BB := Lib.hid TK.out.b
        have s0 : wr.cell? ⟨w.heap.size + 1, 0, none⟩ = some (.int .i64 (M : Int)) := TK.out.cells.1.1
        have s1 : wr.cell? ⟨w.heap.size + 1, 1, none⟩ = some (.string (mkS T)) := TK.out.cells.1.2.1
        have s2 : wr.cell? ⟨w.heap.size + 1, 2, none⟩ = some (.string (mkS A)) := TK.out.cells.1.2.2.1
        have s3 : wr.cell? ⟨w.heap.size + 1, 3, none⟩ = some (.bool EE) := TK.out.cells.1.2.2.2
        clear TK HA
        go_wp2
        exact bodyPost_ret (v := .tuple #[.slice none 0 0, .bool false]) (by simp [results, Try.results17, go_sem]) rfl (tokAns_none HNo.out BB.out)
end Go.Proofs.Ytdoomfckdjjlaaa
