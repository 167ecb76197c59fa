/- The drawn tables: spec.l20Table, for every state of the reader. -/
import Derived.Test.YtdoomfckdjjlaaaOwnRows
import Derived.Test.YtdoomfckdjjlaaaDrawS
import Derived.Laws.OwnMore
import Derived.Laws.MakeOwn
namespace Go.Proofs.Ytdoomfckdjjlaaa
open Go.RowKit

/-- The reader's block is none of strings. -/
theorem strs_R {w w' : World} {R k : Nat} (hr : Rdr w R k) (hg : w.grownBy w' (some R)) : ∀ B v F, w.ownsRow B 9 1 v (List.length F) (F.map strV) → w'.ownsRow B 9 1 v F.length (F.map strV) := fun B v F h => by
  obtain ⟨a, n, c, p, hR, _⟩ := hr
  refine ownN_other h hg (fun q hq e => ?_)
  injection e with e
  subst e
  rcases h.2 with ⟨hv, _⟩ | ⟨g, cap, cur, hv, _, hh, _⟩
  · rw [hv] at hq; cases hq
  · rw [hv] at hq
    injection hq with hq
    simp only at hq
    subst hq
    rw [hR] at hh
    injection hh with hh
    injection hh with _ ht
    exact absurd ht (by decide)
/-- One row more behind an owned row of slices. -/
theorem wpList_pushRow {wr : World} {ops : Array Oper} {rest : List Oper} {o : Oper} {a : Act} {Q : Exit → Act → World → Prop} (s x : Operand) (B : Nat) (ua : Option Addr) (ul uc : Nat) (v : Value) (n : Nat) (acc : List Value)
    (own : wr.ownsRow B 31 1 v n acc) (hB : B ≤ wr.heap.size) (hsz : n ≤ 1000000) (hgd : o.guard = none)
    (ho : o.op = .call { callee := .builtin .append, args := #[s, x], argTypes := #[23, 23] }) (hs : a.eval s = v) (H : Nat) (hH : wr.heap.size = H) (hx : a.eval x = .slice (some ⟨H, 0, none⟩) 1 1)
    (h : ∀ v' w', w'.ownsRow B 31 1 v' (n + 1) (acc ++ [.slice ua ul uc]) → (wr.alloc (.cells #[.slice ua ul uc] 31 (0, 0))).grownBy w' v.ownBlock → wr.grownBy w' v.ownBlock → wpList Try.prog ops Q rest (a.put o.dst v') w') :
    wpList Try.prog ops Q (o :: rest) a (wr.alloc (.cells #[.slice ua ul uc] 31 (0, 0))) := by
  subst hH
  obtain ⟨i0, hi, hz0, hz1, hz2⟩ := info_parts info_row
  have hal : Below wr.heap.size wr (wr.alloc (.cells #[.slice ua ul uc] 31 (0, 0))) := (Below.refl _ _).alloc (Nat.le_refl _) _
  refine wpList_append_row hgd s x _ ho B 31 i0 _ 24 Try.underlying23 hi hz0 hz1 hz2 rfl v n acc hs (ownN_below own hal) (some ⟨wr.heap.size, 0, none⟩) 1 1 [.slice ua ul uc] hx (by intro e; cases e)
    (own_formn_row (own_new wr #[.slice ua ul uc] 31 1 rfl (by omega))) rfl (by intro u hu; rw [List.mem_singleton] at hu; subst hu; rfl) (by omega) (by omega) (by simp; omega) ?_
  intro v' w' o' g' _
  exact h v' w' o' g' ((World.grownBy_alloc _ _ _).trans g')
/-- Small tables. -/
def TabSm (T : List (List ByteArray)) : Prop := T.length ≤ 5 ∧ ∀ r ∈ T, r.length ≤ 7 ∧ ∀ s ∈ r, s.size ≤ 12
theorem TabSm.ok {T : List (List ByteArray)} (h : TabSm T) : TabOkN 1048576 T := ⟨by have := h.1; omega, fun r hr => ⟨by have := (h.2 r hr).1; omega, fun t ht => by have := (h.2 r hr).2 t ht; omega⟩⟩
theorem rows_snoc {T : List (List ByteArray)} {r : List ByteArray} (h : ∀ r ∈ T, r.length ≤ 7 ∧ ∀ s ∈ r, s.size ≤ 12) (hr : r.length ≤ 7 ∧ ∀ s ∈ r, s.size ≤ 12) : ∀ r' ∈ T ++ [r], r'.length ≤ 7 ∧ ∀ s ∈ r', s.size ≤ 12 := by
  intro r' hr'
  rcases List.mem_append.1 hr' with h1 | h1
  · exact h r' h1
  · rw [List.mem_singleton] at h1; subst h1; exact hr
theorem strs_snoc {T : List ByteArray} {s : ByteArray} (h : ∀ s ∈ T, s.size ≤ 12) (hs : s.size ≤ 12) : ∀ x ∈ T ++ [s], x.size ≤ 12 := by
  intro x hx
  rcases List.mem_append.1 hx with h1 | h1
  · exact h x h1
  · rw [List.mem_singleton] at h1; subst h1; exact hs
def ShortStr (x : Value) : Prop := ∃ s : ByteArray, x = .string s ∧ s.size ≤ 12
theorem cell_lits : ∀ x ∈ (#[Value.string ⟨#[]⟩, .string ⟨#[97]⟩, .string ⟨#[60, 98, 62]⟩, .string ⟨#[120, 32, 38, 32, 121]⟩, .string ⟨#[115, 97, 121, 32, 34, 104, 105, 34]⟩] : Array Value).toList, ShortStr x := by
  intro x hx
  simp only [List.mem_cons, List.not_mem_nil, or_false] at hx
  rcases hx with rfl | rfl | rfl | rfl | rfl <;> exact ⟨_, rfl, by decide⟩
theorem make7 : ∃ C : Array Value, C.size = 7 ∧ C.toList = (List.replicate 7 (⟨#[]⟩ : ByteArray)).map strV ∧ ∀ W, (Instr.makeSlice 31 (.int .i64 7) (.int .i64 7)).run Try.prog W = .ok (.slice (some ⟨W.heap.size, 0, none⟩) 7 7) (W.alloc (.cells C 9)) := by
  obtain ⟨i0, hi, hz0, hz1, hz2⟩ := info_parts info_str
  refine ⟨madeCells (Value.string ⟨#[]⟩).cells 7, by kernel_rfl, by kernel_rfl, fun W => ?_⟩
  have h := run_make (P := Try.prog) W 31 9 i0 _ Try.underlying31 hi hz0 .i64 .i64 7 7 (by omega) (by omega) (by rw [hz2]; omega) (by omega)
  rw [hz1] at h
  exact h
theorem make5 : ∃ C : Array Value, C.size = 5 ∧ C.toList = List.replicate 5 (Value.slice none 0 0) ∧ ∀ W, (Instr.makeSlice 23 (.int .i64 5) (.int .i64 5)).run Try.prog W = .ok (.slice (some ⟨W.heap.size, 0, none⟩) 5 5) (W.alloc (.cells C 31)) := by
  obtain ⟨i0, hi, hz0, hz1, hz2⟩ := info_parts info_row
  refine ⟨madeCells (Value.slice none 0 0).cells 5, by kernel_rfl, by kernel_rfl, fun W => ?_⟩
  have h := run_make (P := Try.prog) W 23 31 i0 _ Try.underlying23 hi hz0 .i64 .i64 5 5 (by omega) (by omega) (by rw [hz2]; omega) (by omega)
  rw [hz1] at h
  exact h
theorem nils_own (w : World) : ∀ (n B : Nat), OwnLs w B (List.replicate n (Value.slice none 0 0)) (List.replicate n []) := by
  intro n
  induction n with
  | zero => intro B; exact True.intro
  | succ n ih => intro B; exact ⟨B, Nat.le_refl _, World.ownsRow_nil _ _ _ _, (fun q hq => by cases hq), ih B⟩
/-- What the table's draw hands on. -/
def DrawTab (w : World) (R k : Nat) (e : Ending) (w' : World) : Prop :=
  ∃ v vs T, e = .returned v ∧ TabSm T ∧ w'.ownsRow w.heap.size 31 1 v T.length vs ∧ OwnLs w' w.heap.size vs T ∧ w.grownBy w' (some R) ∧ Rdr w' R k
theorem row_new (w : World) (C : Array Value) (e : TypeId) (n : Nat) (l : List Value) (hC : C.toList = l) (hn : l.length = n) (hm : n ≤ 9223372036854775807) : (w.alloc (.cells C e (0, 0))).ownsRow w.heap.size e 1 (.slice (some ⟨w.heap.size, 0, none⟩) n n) n l := by
  have hs : C.size = n := by rw [← hn, ← hC]; simp
  have := own_new w C e n hs hm
  rw [hC] at this
  exact this
set_option maxRecDepth 100000 in
set_option maxHeartbeats 1600000 in
theorem draw_table (w : World) (R k : Nat) (m : Int) (h : Rdr w R (k + 100)) (hm : -2147483648 ≤ m) (hm' : m ≤ 2147483647) :
    Calls Try.prog 32 #[.pointer (some ⟨R, 0, none⟩), .int .i64 m] w (DrawTab w R k) := by
  have hRl := h.lt
  obtain ⟨C7, hC7, hC7l, hmk7⟩ := make7
  obtain ⟨C5, hC5, hC5l, hmk5⟩ := make5
  have HC7 := Lib.hid hC7; have HC7l := Lib.hid hC7l; have HC5 := Lib.hid hC5; have HC5l := Lib.hid hC5l; have HM7 := Lib.hid hmk7; have HM5 := Lib.hid hmk5
  clear hC7 hC7l hC5 hC5l hmk7 hmk5
  go_enter Try.func32, Try.ntmps32
  go_wp2_with fail
  refine (pick_any _ _ (k + 100) _ (h.alloc_ _) (by omega) (by omega) (by omega)).mono ?_
  rintro e w1 ⟨v, rfl, hv, hg1, hr1⟩
  have hv4 : v < 4 := by omega
  have O0 := Lib.hid (own_R (own_new w #[] 31 0 rfl (by omega)) hg1 hRl)
  have HG1 := Lib.hid ((World.grownBy_alloc w (.cells #[] 31 (0, 0)) (some R)).trans hg1)
  have HR1 := Lib.hid hr1
  clear hg1 hr1 h hv
  go_wp2
  go_loopw [5, 6] (fun o i wr => ∃ (j : Nat) (vs : List Value) (T : List (List ByteArray)), i = .int .i64 (j : Int) ∧ T.length + j ≤ 3 ∧ (∀ r ∈ T, r.length ≤ 7 ∧ ∀ s ∈ r, s.size ≤ 12) ∧ Hid (wr.ownsRow w.heap.size 31 1 o T.length vs) ∧ Hid (OwnLs wr w.heap.size vs T) ∧ Hid (w.grownBy wr (some R)) ∧ Hid (Rdr wr R (k + 10 + 10 * j))) (fun _ i _ => (intOf i).toNat)
  case atStart => exact ⟨v, [], [], rfl, (by simp; omega), (by intro r hr; cases hr), O0.out, True.intro, HG1.out, HR1.out.less (by omega)⟩
  case round =>
    clear O0 HG1 HR1
    obtain ⟨j, vs, T, rfl, hT, hTs, OW, OL, HG, HR⟩ := hrel
    rename World => wo
    have hws := HG.out.size
    have HTS := Lib.hid hTs
    clear hTs
    by_cases h0 : 0 < j
    · go_wp2_with fail
      refine (pick_any _ _ (k + 10 + 10 * j) _ (HR.out.alloc_ _) (by omega) (by omega) (by omega)).mono ?_
      rintro e w2 ⟨v2, rfl, hv2, hg2, hr2⟩
      have hv5 : v2 < 5 := by omega
      have hRo := HR.out.lt
      have O2 := Lib.hid (own_R (own_new wo #[] 9 0 rfl (by omega)) hg2 hRo)
      have HG2 := Lib.hid ((World.grownBy_alloc wo (.cells #[] 9 (0, 0)) (some R)).trans hg2)
      have HR2 := Lib.hid hr2
      clear hg2 hr2 hv2
      go_wp2
      go_loopw [7, 8] (fun ro i wr => ∃ (q : Nat) (row : List ByteArray), i = .int .i64 (q : Int) ∧ row.length + q ≤ 4 ∧ Hid (∀ s ∈ row, s.size ≤ 12) ∧ Hid (wr.ownsRow wo.heap.size 9 1 ro row.length (row.map strV)) ∧ Hid (wo.grownBy wr (some R)) ∧ Hid (Rdr wr R (k + 10 + 10 * (j - 1) + q))) (fun _ i _ => (intOf i).toNat)
      case atStart => exact ⟨v2, [], rfl, (by simp; omega), (by intro s hs; cases hs), O2.out, HG2, HR2.out.less (by omega)⟩
      case round =>
        clear O2 HG2 HR2
        obtain ⟨q, row, rfl, hq, HRS, OR, GI, RI⟩ := hrel
        have hwi := GI.out.size
        have hRi := RI.out.lt
        by_cases hq0 : 0 < q
        · go_wp2_with fail
          refine (pick_any _ _ _ _ (RI.out.alloc_ _) (by omega) (by omega) (by omega)).mono ?_
          rintro e w3 ⟨v3, rfl, hv3, hg3, hr3⟩
          have hv5 : v3 < 5 := by omega
          obtain ⟨y, hy, s, rfl, hs⟩ := lit_at hg3 (by intro e; injection e with e; omega) cell_lits v3 (by simpa using hv5)
          have O3 := Lib.hid (own_R (ownN_below OR.out ((Below.refl _ _).alloc (Nat.le_refl _) _)) hg3 hRo)
          have HG3 := Lib.hid ((GI.out.trans (World.grownBy_alloc _ _ _)).trans hg3)
          have HR3 := Lib.hid hr3
          have hw3 := HG3.out.size
          have hz0 : (0 : Int) ≤ (v3 : Int) := by omega
          have hz1 : (v3 : Int) < 5 := by omega
          clear hg3 hr3 hv3
          go_wp2_with (at_builtin; refine wpList_pushS2 (.tmp 23) (.tmp 29) wo.heap.size s _ row.length row O3.out hw3 (by omega) rfl (by rfl) (by rfl) w3.heap.size rfl (by rfl) ?_; intro v5 w5 o5 g5 b5; have O5 := Lib.hid o5; have HG5 := Lib.hid (grow_row HG3.out g5 (fun q hq => (ownN_ge O3.out q hq).1)); have HR5 := Lib.hid (HR3.out.kept g5 (fun g hg => by have := (ownN_ge O3.out g hg).1; omega)); clear o5 g5 b5)
          have HS5 := Lib.hid (strs_snoc HRS.out hs)
          go_roundw
          case rel => exact ⟨q - 1, row ++ [s], by go_num, by simp; omega, HS5.out, by rw [List.length_append]; exact O5, HG5, HR5.out.less (by omega)⟩
          case measure => simp [intOf]; omega
        · obtain rfl : q = 0 := by omega
          obtain ⟨ra, rc, rfl, _⟩ := ownN_formn OR.out
          have OW2 := Lib.hid (own_R OW.out GI.out hRl)
          have hwr : w.heap.size ≤ wr.heap.size := by omega
          have OLM := Lib.hid (strs_R HR.out GI.out)
          have HGT := Lib.hid (HG.out.trans GI.out)
          go_wp2_with (at_builtin; refine wpList_pushRow (.tmp 31) (.tmp 33) w.heap.size ra row.length rc _ T.length vs OW2.out hwr (by omega) rfl (by rfl) (by rfl) wr.heap.size rfl (by rfl) ?_; intro v6 w6 o6 ga6 g6; have O6 := Lib.hid o6; have HG6 := Lib.hid (grow_row HGT.out g6 (fun q hq => (ownN_ge OW2.out q hq).1)); have HR6 := Lib.hid (RI.out.kept g6 (fun g hg => by have := (ownN_ge OW2.out g hg).1; omega)); have OL6 := Lib.hid (OwnLs.snoc (w := wo) (fun B v F h => strs_keep OW2.out g6 B v F (OLM.out B v F h)) (Nat.le_trans hwi g6.size) (strs_keep OW2.out g6 _ _ _ OR.out) vs T w.heap.size hws OL.out); clear o6 ga6 g6)
          have HS6 := Lib.hid (rows_snoc HTS.out ⟨by omega, HRS.out⟩)
          go_roundw
          case rel => exact ⟨j - 1, _, T ++ [row], by go_num, by simp; omega, HS6.out, by rw [List.length_append]; exact O6, OL6, HG6, HR6.out.less (by omega)⟩
          case measure => simp [intOf]; omega
    · obtain rfl : j = 0 := by omega
      go_wp2_with fail
      refine (odd_any _ _ _ m HR.out (by omega) hm hm').mono ?_
      rintro e w3 ⟨b3, rfl, hg3, hr3⟩
      have OW3 := Lib.hid (own_R OW.out hg3 hRl)
      have OL3 := Lib.hid (OwnLs.map (strs_R HR.out hg3) vs T _ OL.out)
      have HG3 := Lib.hid (HG.out.trans hg3)
      have HR3 := Lib.hid hr3
      clear hg3 hr3 OW OL HG HR hws
      have hws := HG3.out.size
      cases b3
      · go_wp2
        go_ret
        exact ⟨_, vs, T, rfl, ⟨by omega, HTS.out⟩, OW3.out, OL3.out, HG3.out, HR3.out.less (by omega)⟩
      · go_wp2_with fail
        refine (pick_any _ _ _ _ HR3.out (by omega) (by omega) (by omega)).mono ?_
        rintro e w4 ⟨v4, rfl, hv4, hg4, hr4⟩
        have OW4 := Lib.hid (own_R OW3.out hg4 hRl)
        have OL4 := Lib.hid (OwnLs.map (strs_R HR3.out hg4) vs T _ OL3.out)
        have HG4 := Lib.hid (HG3.out.trans hg4)
        have HR4 := Lib.hid hr4
        have hw4 := HG4.out.size
        clear hg4 hr4 OW3 OL3 HG3 HR3
        have hv3 : v4 = 0 ∨ v4 = 1 ∨ v4 = 2 := by omega
        clear hv4
        rcases hv3 with rfl | rfl | rfl
        · have ON := Lib.hid (row_new w4 #[.string ⟨#[10]⟩] 9 1 [strV ⟨#[10]⟩] rfl rfl (by omega))
          have OW5 := Lib.hid (ownN_below OW4.out ((Below.refl _ _).alloc (Nat.le_refl _) (.cells #[.string ⟨#[10]⟩] 9 (0, 0))))
          have K5 := Lib.hid (strs_below ((Below.refl w4.heap.size w4).alloc (Nat.le_refl _) (.cells #[.string ⟨#[10]⟩] 9 (0, 0))))
          have HG5 := Lib.hid (HG4.out.trans (World.grownBy_alloc w4 (.cells #[.string ⟨#[10]⟩] 9 (0, 0)) (some R)))
          have HR5 := Lib.hid (HR4.out.alloc_ (.cells #[.string ⟨#[10]⟩] 9 (0, 0)))
          go_wp2_with (at_builtin; refine wpList_pushRow (.tmp 46) (.tmp 48) w.heap.size (some ⟨w4.heap.size, 0, none⟩) 1 1 _ T.length vs OW5.out (by simp; omega) (by omega) rfl (by rfl) (by rfl) (w4.heap.size + 1) (by simp) (by rfl) ?_; intro v6 w6 o6 ga6 g6; have O6 := Lib.hid o6; have HG6 := Lib.hid (grow_row HG5.out g6 (fun q hq => (ownN_ge OW5.out q hq).1)); have HR6 := Lib.hid (HR5.out.kept g6 (fun g hg => by have := (ownN_ge OW5.out g hg).1; omega)); have OL6 := Lib.hid (OwnLs.snoc (w := w4) (F := [⟨#[10]⟩]) (fun B v F h => strs_keep OW5.out g6 B v F (K5.out B v F h)) (Nat.le_trans (by simp) g6.size) (strs_keep OW5.out g6 _ _ [⟨#[10]⟩] ON.out) vs T w.heap.size hw4 OL4.out); clear o6 ga6 g6)
          go_ret
          exact ⟨_, _, T ++ [[⟨#[10]⟩]], rfl, ⟨by simp; omega, rows_snoc HTS.out ⟨by simp, by simp <;> decide⟩⟩, by rw [List.length_append]; exact O6.out, OL6.out, HG6.out, HR6.out.less (by omega)⟩
        · have hm5 := HM5.out w4
          go_wp2
          go_ret
          exact ⟨_, List.replicate 5 (.slice none 0 0), List.replicate 5 [], rfl, ⟨by simp, fun r hr => by rw [List.eq_of_mem_replicate hr]; simp⟩, ownN_mono (row_new w4 C5 31 5 _ HC5l.out (by simp) (by omega)) hw4, nils_own _ 5 _, HG4.out.trans (World.grownBy_alloc _ _ _), (HR4.out.alloc_ _).less (by omega)⟩
        · have hm7 := HM7.out w4
          have ON := Lib.hid (row_new w4 C7 9 7 _ HC7l.out (by simp) (by omega))
          have OW5 := Lib.hid (ownN_below OW4.out ((Below.refl _ _).alloc (Nat.le_refl _) (.cells C7 9 (0, 0))))
          have K5 := Lib.hid (strs_below ((Below.refl w4.heap.size w4).alloc (Nat.le_refl _) (.cells C7 9 (0, 0))))
          have HG5 := Lib.hid (HG4.out.trans (World.grownBy_alloc w4 (.cells C7 9 (0, 0)) (some R)))
          have HR5 := Lib.hid (HR4.out.alloc_ (.cells C7 9 (0, 0)))
          go_wp2_with (at_builtin; refine wpList_pushRow (.tmp 40) (.tmp 42) w.heap.size (some ⟨w4.heap.size, 0, none⟩) 7 7 _ T.length vs OW5.out (by simp; omega) (by omega) rfl (by rfl) (by rfl) (w4.heap.size + 1) (by simp) (by rfl) ?_; intro v6 w6 o6 ga6 g6; have O6 := Lib.hid o6; have HG6 := Lib.hid (grow_row HG5.out g6 (fun q hq => (ownN_ge OW5.out q hq).1)); have HR6 := Lib.hid (HR5.out.kept g6 (fun g hg => by have := (ownN_ge OW5.out g hg).1; omega)); have OL6 := Lib.hid (OwnLs.snoc (w := w4) (F := List.replicate 7 ⟨#[]⟩) (fun B v F h => strs_keep OW5.out g6 B v F (K5.out B v F h)) (Nat.le_trans (by simp) g6.size) (strs_keep OW5.out g6 _ _ (List.replicate 7 ⟨#[]⟩) ON.out) vs T w.heap.size hw4 OL4.out); clear o6 ga6 g6)
          go_ret
          exact ⟨_, _, T ++ [List.replicate 7 ⟨#[]⟩], rfl, ⟨by simp; omega, rows_snoc HTS.out ⟨by simp, fun s hs => by rw [List.eq_of_mem_replicate hs]; exact Nat.zero_le _⟩⟩, by rw [List.length_append]; exact O6.out, OL6.out, HG6.out, HR6.out.less (by omega)⟩
end Go.Proofs.Ytdoomfckdjjlaaa
