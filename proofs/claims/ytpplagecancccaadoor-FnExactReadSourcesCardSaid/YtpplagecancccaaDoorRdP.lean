/- Texts of sources read back, plainly: cut at spaces, cut at semicolons; a text that valid sources have is read back to them. -/
import Derived.Test.YtpplagecancccaaDoorTxt
import Derived.Test.YtpplagecancccaaDoorMax
import Derived.Lib.ReplaceLaws
namespace Go.Proofs.YtpplagecancccaaDoor
open Go.RowKit

def plainL (l : List UInt8) : Prop := ∀ c ∈ l, c ≠ 32 ∧ c ≠ 59
theorem plain_of {p : UInt8 → Bool} {l : List UInt8} (h : l.all p = true) (h32 : p 32 = false) (h59 : p 59 = false) : plainL l := fun c hc => by
  rw [List.all_eq_true] at h
  have := h c hc
  exact ⟨fun e => by (subst e; rw [h32] at this; cases this), fun e => by (subst e; rw [h59] at this; cases this)⟩
theorem name_plain {l : List UInt8} (h : nameB l = true) : plainL l := by
  unfold nameB at h
  rw [Bool.and_eq_true] at h
  exact plain_of h.2 (by decide) (by decide)
theorem host_plain {l : List UInt8} (h : hostB l = true) : plainL l ∧ l ≠ [] := by
  unfold hostB at h
  rw [Bool.and_eq_true, decide_eq_true_iff] at h
  exact ⟨plain_of h.2 (by decide) (by decide), fun e => by subst e; exact absurd h.1.1 (by simp)⟩
theorem word_plain {l : List UInt8} (h : wordB l = true ∨ l = noneL) : plainL l ∧ l ≠ [] := by
  rcases h with h | rfl
  · unfold wordB at h
    split at h
    · rename_i hc
      rw [Bool.and_eq_true, Bool.and_eq_true] at h
      have h1 := (host_plain h.1.1).1
      refine ⟨fun c hc' => ?_, fun e => by subst e; simp at hc⟩
      rw [← List.take_append_drop 2 l, List.mem_append] at hc'
      rcases hc' with hc' | hc'
      · rw [hc.2] at hc'
        have : c = 42 ∨ c = 46 := by simpa [starL] using hc'
        rcases this with rfl | rfl <;> decide
      · exact h1 c hc'
    · rw [Bool.and_eq_true] at h
      exact host_plain h.1
  · exact ⟨by unfold plainL; decide, by decide⟩
theorem src_plain {s : Src} (h : srcB s = true) : plainL (bl s.K) ∧ s.F ≠ [] ∧ ∀ t ∈ s.F, plainL (bl t) ∧ bl t ≠ [] := by
  have hl := srcB_len' h
  unfold srcB at h
  rw [Bool.and_eq_true, Bool.and_eq_true, List.all_eq_true] at h
  refine ⟨name_plain h.1.1, fun e => by rw [e] at hl; simp at hl, fun t ht => word_plain ?_⟩
  have := h.2 t ht
  rw [Bool.or_eq_true, Bool.and_eq_true, decide_eq_true_iff] at this
  exact this.imp id And.left
theorem cutAt_app {d : UInt8} {t : List UInt8} : ∀ p : List UInt8, (∀ c ∈ p, c ≠ d) → cutAt d (p ++ d :: t) = p :: cutAt d t := by
  intro p
  induction p with
  | nil => intro _; rw [List.nil_append, cutAt, if_pos rfl]
  | cons b p ih =>
    intro h
    rw [List.cons_append, cutAt, if_neg (h b (by simp)), ih (fun c hc => h c (by simp [hc]))]
    rfl
theorem cutAt_one {d : UInt8} : ∀ p : List UInt8, (∀ c ∈ p, c ≠ d) → cutAt d p = [p] := by
  intro p
  induction p with
  | nil => intro _; rfl
  | cons b p ih =>
    intro h
    rw [cutAt, if_neg (h b (by simp)), ih (fun c hc => h c (by simp [hc]))]
    rfl
theorem cutAt_join {d : UInt8} : ∀ W : List (List UInt8), W ≠ [] → (∀ p ∈ W, ∀ c ∈ p, c ≠ d) → cutAt d (Lib.join W [d]) = W := by
  intro W
  induction W with
  | nil => intro h; exact absurd rfl h
  | cons p W ih =>
    intro _ h
    rcases W with _ | ⟨q, W⟩
    · rw [Lib.join_one]; exact cutAt_one p (h p (by simp))
    · have e : Lib.join (p :: q :: W) [d] = p ++ d :: Lib.join (q :: W) [d] := by
        rw [Lib.join_cons, Lib.join_cons, Lib.joinTail, List.map_cons, List.flatten_cons, Lib.joinTail]
        simp
      rw [e, cutAt_app p (h p (by simp)), ih (by simp) (fun x hx => h x (by simp [hx]))]
def mkSrc (W : List (List UInt8)) : Src := ⟨mkS (W.headD []), W.tail.map mkS⟩
theorem partS_join {s : Src} (h : s.F ≠ []) : bl (partS s) = Lib.join ((s.K :: s.F).map bl) [32] := by
  rw [partS, bl_mkS, List.map_cons, Lib.join_cons]
  congr 1
  obtain ⟨f, r, hf⟩ : ∃ f r, s.F = f :: r := by
    cases hs : s.F with
    | nil => exact absurd hs h
    | cons f r => exact ⟨f, r, rfl⟩
  rw [hf, List.map_cons, Lib.join_cons, Lib.joinTail, Lib.joinTail, List.map_cons, List.flatten_cons]
  simp
theorem map_mkS_bl (F : List ByteArray) : (F.map bl).map mkS = F := by
  rw [List.map_map]
  conv => rhs; rw [← List.map_id F]
  exact List.map_congr_left fun t _ => mkS_bl t
theorem mkSrc_part {s : Src} (h : srcB s = true) : mkSrc (cutAt 32 (bl (partS s))) = s := by
  obtain ⟨h1, h2, h3⟩ := src_plain h
  rw [partS_join h2, cutAt_join _ (by simp) (by
    intro p hp c hc
    rw [List.map_cons, List.mem_cons] at hp
    rcases hp with rfl | hp
    · exact (h1 c hc).1
    · obtain ⟨t, ht, rfl⟩ := List.mem_map.1 hp
      exact ((h3 t ht).1 c hc).1)]
  rw [mkSrc, List.map_cons, List.headD_cons, List.tail_cons, map_mkS_bl, mkS_bl]
theorem part_no59 {s : Src} (h : srcB s = true) : ∀ c ∈ bl (partS s), c ≠ 59 := by
  obtain ⟨h1, h2, h3⟩ := src_plain h
  intro c hc
  rw [partS, bl_mkS, List.mem_append, List.mem_cons] at hc
  rcases hc with hc | rfl | hc
  · exact (h1 c hc).2
  · decide
  · have : ∀ F : List ByteArray, (∀ t ∈ F, plainL (bl t)) → ∀ c ∈ Lib.join (F.map bl) [32], c ≠ 59 := by
      intro F
      induction F with
      | nil => intro _ c hc; rw [List.map_nil, Lib.join_nil] at hc; cases hc
      | cons f F ih =>
        intro hF c hc
        rcases F with _ | ⟨g, F⟩
        · rw [List.map_cons, List.map_nil, Lib.join_one] at hc
          exact (hF f (by simp) c hc).2
        · have e : Lib.join ((f :: g :: F).map bl) [32] = bl f ++ 32 :: Lib.join ((g :: F).map bl) [32] := by
            rw [List.map_cons, List.map_cons, Lib.join_cons, Lib.join_cons, Lib.joinTail, List.map_cons, List.flatten_cons, Lib.joinTail]
            simp
          rw [e, List.mem_append, List.mem_cons] at hc
          rcases hc with hc | rfl | hc
          · exact (hF f (by simp) c hc).2
          · decide
          · exact ih (fun t ht => hF t (by simp [ht])) c hc
    exact this s.F (fun t ht => (h3 t ht).1) c hc
theorem part_ne (s : Src) : bl (partS s) ≠ [] := by
  rw [partS, bl_mkS]; simp
/-- The reference's reading, with enough turns. -/
def parseF : Nat → List UInt8 → List Src
  | 0, _ => []
  | f + 1, l => if l = [] then [] else mkSrc (cutAt 32 (l.takeWhile fun c => decide (c ≠ 59))) :: parseF f ((l.dropWhile fun c => decide (c ≠ 59)).drop 2)
theorem rest_len {l : List UInt8} (h : l ≠ []) : ((l.dropWhile fun c => decide (c ≠ 59)).drop 2).length < l.length := by
  have h1 : (l.dropWhile fun c => decide (c ≠ 59)).length ≤ l.length := by
    have := congrArg List.length (List.takeWhile_append_dropWhile (p := fun c : UInt8 => decide (c ≠ 59)) (l := l))
    rw [List.length_append] at this
    omega
  have h2 : 0 < l.length := List.length_pos_iff.2 h
  rw [List.length_drop]
  omega
theorem parseF_eq : ∀ (n f g : Nat) (l : List UInt8), l.length ≤ n → l.length ≤ f → l.length ≤ g → parseF f l = parseF g l := by
  intro n
  induction n with
  | zero =>
    intro f g l hn _ _
    have : l = [] := List.eq_nil_of_length_eq_zero (by omega)
    subst this
    cases f <;> cases g <;> simp [parseF]
  | succ n ih =>
    intro f g l hn hf hg
    by_cases hl : l = []
    · subst hl; cases f <;> cases g <;> simp [parseF]
    · have h0 := rest_len hl
      have hp : 0 < l.length := List.length_pos_iff.2 hl
      obtain ⟨f, rfl⟩ : ∃ f', f = f' + 1 := ⟨f - 1, by omega⟩
      obtain ⟨g, rfl⟩ : ∃ g', g = g' + 1 := ⟨g - 1, by omega⟩
      rw [parseF, parseF, if_neg hl, if_neg hl, ih f g _ (by omega) (by omega) (by omega)]
def parse (l : List UInt8) : List Src := parseF l.length l
theorem parse_nil : parse [] = [] := rfl
theorem parse_cons {l : List UInt8} (h : l ≠ []) : parse l = mkSrc (cutAt 32 (l.takeWhile fun c => decide (c ≠ 59))) :: parse ((l.dropWhile fun c => decide (c ≠ 59)).drop 2) := by
  have hp : 0 < l.length := List.length_pos_iff.2 h
  have h0 := rest_len h
  obtain ⟨k, hk⟩ : ∃ k, l.length = k + 1 := ⟨l.length - 1, by omega⟩
  rw [parse, hk, parseF, if_neg h, parse, parseF_eq _ k _ _ (Nat.le_refl _) (by omega) (Nat.le_refl _)]
theorem take59 {p t : List UInt8} (hp : ∀ c ∈ p, c ≠ 59) : (p ++ 59 :: t).takeWhile (fun c => decide (c ≠ 59)) = p ∧ (p ++ 59 :: t).dropWhile (fun c => decide (c ≠ 59)) = 59 :: t := by
  induction p with
  | nil => exact ⟨by simp, by simp⟩
  | cons b p ih =>
    have hb := hp b (by simp)
    obtain ⟨i1, i2⟩ := ih (fun c hc => hp c (by simp [hc]))
    constructor
    · rw [List.cons_append, List.takeWhile_cons_of_pos (by simpa using hb), i1]
    · rw [List.cons_append, List.dropWhile_cons_of_pos (by simpa using hb), i2]
theorem take59_all {p : List UInt8} (hp : ∀ c ∈ p, c ≠ 59) : p.takeWhile (fun c => decide (c ≠ 59)) = p ∧ p.dropWhile (fun c => decide (c ≠ 59)) = [] := by
  induction p with
  | nil => exact ⟨rfl, rfl⟩
  | cons b p ih =>
    have hb := hp b (by simp)
    obtain ⟨i1, i2⟩ := ih (fun c hc => hp c (by simp [hc]))
    constructor
    · rw [List.takeWhile_cons_of_pos (by simpa using hb), i1]
    · rw [List.dropWhile_cons_of_pos (by simpa using hb), i2]
theorem join2 (a b : List UInt8) (r : List (List UInt8)) : Lib.join (a :: b :: r) [59, 32] = a ++ 59 :: 32 :: Lib.join (b :: r) [59, 32] := by
  rw [Lib.join_cons, Lib.join_cons, Lib.joinTail, List.map_cons, List.flatten_cons, Lib.joinTail]
  simp
theorem parse_txt : ∀ S : List Src, (∀ s ∈ S, srcB s = true) → parse (Lib.join ((S.map partS).map bl) [59, 32]) = S := by
  intro S
  induction S with
  | nil => intro _; rfl
  | cons s S ih =>
    intro h
    have hs := h s (by simp)
    have ihS := ih (fun t ht => h t (by simp [ht]))
    rcases S with _ | ⟨t, S⟩
    · have e : Lib.join (([s].map partS).map bl) [59, 32] = bl (partS s) := by simp [Lib.join_one]
      obtain ⟨i1, i2⟩ := take59_all (part_no59 hs)
      rw [e, parse_cons (part_ne s), i1, i2, mkSrc_part hs]
      rfl
    · have e : Lib.join (((s :: t :: S).map partS).map bl) [59, 32] = bl (partS s) ++ 59 :: 32 :: Lib.join (((t :: S).map partS).map bl) [59, 32] := by
        simp only [List.map_cons]
        exact join2 _ _ _
      obtain ⟨i1, i2⟩ := take59 (t := 32 :: Lib.join (((t :: S).map partS).map bl) [59, 32]) (part_no59 hs)
      rw [e, parse_cons (by simp), i1, i2, mkSrc_part hs]
      congr 1
/-- The program's reading. -/
def split2 (l : List UInt8) : List (List UInt8) := Lib.splitK [59, 32] 0 (Lib.count l [59, 32]) l
def parseI (l : List UInt8) : List Src := if l = [] then [] else (split2 l).map fun p => mkSrc (cutAt 32 p)
theorem occ_no {p t : List UInt8} (hp : ∀ c ∈ p, c ≠ 59) (j : Nat) (hj : j < p.length) : Lib.occAt (p ++ t) [59, 32] j = false := by
  unfold Lib.occAt
  rw [List.drop_append_of_le_length (by omega), List.drop_eq_getElem_cons hj, List.cons_append]
  have := hp p[j] (List.getElem_mem _)
  simp [List.isPrefixOf, Ne.symm this]
theorem split2_one {p : List UInt8} (hp : ∀ c ∈ p, c ≠ 59) : split2 p = [p] := by
  have hi : Lib.index p [59, 32] = -1 := Lib.index_none (fun j hj => by
    rcases Nat.lt_or_ge j p.length with h | h
    · have := occ_no (t := []) hp j h
      rwa [List.append_nil] at this
    · unfold Lib.occAt
      rw [List.drop_eq_nil_of_le h]; rfl)
  rw [split2, Lib.count_miss hi, Lib.splitK]
theorem split2_app {p t : List UInt8} (hp : ∀ c ∈ p, c ≠ 59) : split2 (p ++ 59 :: 32 :: t) = p :: split2 t := by
  have hi : Lib.index (p ++ 59 :: 32 :: t) [59, 32] = (p.length : Int) := Lib.index_first (by simp) (by
    unfold Lib.occAt
    rw [List.drop_left]; simp [List.isPrefixOf]) (fun j hj => occ_no hp j hj)
  have hd : (p ++ 59 :: 32 :: t).drop (p.length + 2) = t := by
    rw [List.drop_append, List.drop_eq_nil_of_le (by omega), List.nil_append, show p.length + 2 - p.length = 2 by omega]
    rfl
  have hc := Lib.count_hit (s := p ++ 59 :: 32 :: t) (sub := [59, 32]) (by simp) hi
  have h2 : ([59, 32] : List UInt8).length = 2 := rfl
  rw [h2, hd] at hc
  rw [split2, hc, Nat.add_comm, Lib.splitK, hi]
  have h1 : (((p.length : Nat) : Int) == -1) = false := by rw [beq_eq_false_iff_ne]; omega
  rw [h1, if_neg (by simp)]
  have h3 : (((p.length : Nat) : Int).toNat + 0) = p.length := by simp
  have h4 : (((p.length : Nat) : Int).toNat + ([59, 32] : List UInt8).length) = p.length + 2 := by simp
  rw [h3, h4, hd, List.take_left]
  rfl
theorem parseI_txt (S : List Src) (h : ∀ s ∈ S, srcB s = true) : parseI (Lib.join ((S.map partS).map bl) [59, 32]) = S := by
  have key : ∀ S : List Src, S ≠ [] → (∀ s ∈ S, srcB s = true) → split2 (Lib.join ((S.map partS).map bl) [59, 32]) = (S.map partS).map bl ∧ Lib.join ((S.map partS).map bl) [59, 32] ≠ [] := by
    intro S
    induction S with
    | nil => intro h; exact absurd rfl h
    | cons s S ih =>
      intro _ h
      have hs := h s (by simp)
      rcases S with _ | ⟨t, S⟩
      · have e : Lib.join (([s].map partS).map bl) [59, 32] = bl (partS s) := by simp [Lib.join_one]
        rw [e, split2_one (part_no59 hs)]
        exact ⟨rfl, part_ne s⟩
      · have e : Lib.join (((s :: t :: S).map partS).map bl) [59, 32] = bl (partS s) ++ 59 :: 32 :: Lib.join (((t :: S).map partS).map bl) [59, 32] := by
          simp only [List.map_cons]
          exact join2 _ _ _
        rw [e, split2_app (part_no59 hs), (ih (by simp) (fun x hx => h x (by simp [hx]))).1]
        exact ⟨rfl, by simp⟩
  by_cases hS : S = []
  · subst hS; rfl
  · obtain ⟨k1, k2⟩ := key S hS h
    rw [parseI, if_neg k2, k1, List.map_map, List.map_map]
    conv => rhs; rw [← List.map_id S]
    exact List.map_congr_left fun s hs => mkSrc_part (h s hs)
/-- What ReadSources answers. -/
def readOk (P : List Src) (l : List UInt8) : Bool := validB P && decide (bl (srcTxt P) = l)
def readR (l : List UInt8) : List Src × Bool := if readOk (parse l) l = true then (parse l, true) else ([], false)
theorem valid_mem {S : List Src} (h : validB S = true) : ∀ s ∈ S, srcB s = true := fun s hs => by
  obtain ⟨i, hi, rfl⟩ := List.mem_iff_getElem.1 hs
  exact (valid_all h).2 i hi
theorem txt_bl {S : List Src} (h : validB S = true) : bl (srcTxt S) = Lib.join ((S.map partS).map bl) [59, 32] := by rw [srcTxt_yes h, joinS, bl_mkS]
theorem parse_back {S : List Src} (h : validB S = true) : parse (bl (srcTxt S)) = S := by rw [txt_bl h]; exact parse_txt S (valid_mem h)
theorem parseI_back {S : List Src} (h : validB S = true) : parseI (bl (srcTxt S)) = S := by rw [txt_bl h]; exact parseI_txt S (valid_mem h)
theorem readOk_iff {P : List Src} {l : List UInt8} : readOk P l = true ↔ validB P = true ∧ bl (srcTxt P) = l := by rw [readOk, Bool.and_eq_true, decide_eq_true_iff]
theorem readR_yes {l : List UInt8} (h : readOk (parse l) l = true) : readR l = (parse l, true) := by rw [readR, if_pos h]
theorem readR_no {l : List UInt8} (h : readOk (parse l) l = false) : readR l = ([], false) := by rw [readR, if_neg (by rw [h]; simp)]
theorem readI_yes {l : List UInt8} (h : readOk (parseI l) l = true) : readR l = (parseI l, true) := by
  rw [readOk_iff] at h
  have e : parse l = parseI l := by
    conv => lhs; rw [← h.2]
    exact parse_back h.1
  rw [readR_yes (by rw [e]; exact readOk_iff.2 h), e]
theorem readI_no {l : List UInt8} (h : readOk (parseI l) l = false) : readR l = ([], false) := by
  refine readR_no ?_
  cases hb : readOk (parse l) l with
  | false => rfl
  | true =>
    rw [readOk_iff] at hb
    have e : parseI l = parse l := by
      conv => lhs; rw [← hb.2]
      exact parseI_back hb.1
    rw [e, readOk_iff.2 hb] at h
    cases h
theorem read_back {S : List Src} (h : validB S = true) : readR (bl (srcTxt S)) = (S, true) := by
  have e := parse_back h
  have := readR_yes (l := bl (srcTxt S)) (by rw [e]; exact readOk_iff.2 ⟨h, rfl⟩)
  rwa [e] at this
theorem read_cases (l : List UInt8) : readR l = ([], false) ∨ ∃ S, readR l = (S, true) ∧ validB S = true ∧ bl (srcTxt S) = l := by
  cases hb : readOk (parse l) l with
  | false => exact .inl (readR_no hb)
  | true => exact .inr ⟨parse l, readR_yes hb, readOk_iff.1 hb⟩
end Go.Proofs.YtpplagecancccaaDoor
