/- Contracts of PutPoint, of the program and of the reference: the bytes of a point, in new memory. -/
import Derived.Test.YtgbdkajnlemblaaPtA
import Derived.Test.YtgbdkajnlemblaaBytes
namespace Go.Proofs.Ytgbdkajnlemblaa
open Go.RowKit

def u8 (x : Int) : UInt8 := UInt8.ofNat x.toNat
theorem byteV_u8 (x : Int) (h0 : 0 ≤ x) (h1 : x ≤ 255) : byteV (u8 x) = .int .u8 x := by
  unfold byteV u8
  rw [UInt8.toNat_ofNat']
  congr 1
  omega

def putP (n : Int) : List UInt8 :=
  if ptB n then
    if n < 128 then [u8 n]
    else if n < 2048 then [u8 (192 + n / 64), u8 (128 + n % 64)]
    else if n < 65536 then [u8 (224 + n / 4096), u8 (128 + n / 64 % 64), u8 (128 + n % 64)]
    else [u8 (240 + n / 262144), u8 (128 + n / 4096 % 64), u8 (128 + n / 64 % 64), u8 (128 + n % 64)]
  else []

/-- A new block is an owned row. -/
theorem own_new (w : World) (C : Array Value) (e : TypeId) (n : Nat) (hn : C.size = n) (hm : n ≤ 9223372036854775807) :
    (w.alloc (.cells C e (0, 0))).ownsRow w.heap.size e 1 (.slice (some ⟨w.heap.size, 0, none⟩) n n) n C.toList :=
  ⟨by simp [hn], .inr ⟨w.heap.size, n, C, rfl, Nat.le_refl _, heap_alloc_new w _, Nat.le_refl _, by simpa [maxLen] using hm, by omega, by rw [Nat.mul_one, ← hn, ← Array.length_toList, List.take_length]⟩⟩

def BytesPost (w : World) (l : List UInt8) (e : Ending) (w' : World) : Prop :=
  ∃ v, e = .returned v ∧ w'.ownsRow w.heap.size 5 1 v l.length (l.map byteV) ∧ Below w.heap.size w w'

theorem bytes_lit {w : World} {C : Array Value} {l : List UInt8} {n : Nat} (h : C.toList = l.map byteV) (hn : n = l.length) (hs : n ≤ 1000) :
    BytesPost w l (.returned (.slice (some ⟨w.heap.size, 0, none⟩) n n)) (w.alloc (.cells C 5 (0, 0))) := by
  subst hn
  refine ⟨_, rfl, ?_, (Below.refl _ _).alloc (Nat.le_refl _) _⟩
  have := own_new w C 5 l.length (by rw [← Array.length_toList, h, List.length_map]) (by omega)
  rwa [h] at this

theorem put_1 {n : Int} (h : ptB n = true) (h1 : n < 128) : putP n = [u8 n] := by rw [putP, if_pos h, if_pos h1]
theorem put_2 {n : Int} (h : ptB n = true) (h1 : ¬ n < 128) (h2 : n < 2048) : putP n = [u8 (192 + n / 64), u8 (128 + n % 64)] := by rw [putP, if_pos h, if_neg h1, if_pos h2]
theorem put_3 {n : Int} (h : ptB n = true) (h1 : ¬ n < 2048) (h2 : n < 65536) : putP n = [u8 (224 + n / 4096), u8 (128 + n / 64 % 64), u8 (128 + n % 64)] := by rw [putP, if_pos h, if_neg (by omega), if_neg h1, if_pos h2]
theorem put_4 {n : Int} (h : ptB n = true) (h1 : ¬ n < 65536) : putP n = [u8 (240 + n / 262144), u8 (128 + n / 4096 % 64), u8 (128 + n / 64 % 64), u8 (128 + n % 64)] := by rw [putP, if_pos h, if_neg (by omega), if_neg (by omega), if_neg h1]
theorem put_0 {n : Int} (h : ptB n = false) : putP n = [] := by rw [putP, if_neg (by rw [h]; simp)]

set_option maxHeartbeats 400000 in
theorem spec_PutPoint (n : Int) (w : World) : Calls Try.prog 14 #[.int .i64 n] w (BytesPost w (putP n)) := by
  by_cases hv : ptB n = true
  · have hb := ptB_t.1 hv
    obtain ⟨b0, b1, _⟩ := hb
    by_cases h1 : n < 128
    · have E := Lib.hid (put_1 hv h1)
      go_enter Try.func14, Try.ntmps14
      go_wp2_with (go_at_call 18; refine (spec_PointValid _ _).mono ?_; rintro e w' ⟨rfl, rfl⟩)
      go_ret
      rw [E.out]
      exact bytes_lit (by simp only [List.map_cons, List.map_nil]; rw [byteV_u8 _ (by omega) (by omega)]) rfl (by omega)
    · by_cases h2 : n < 2048
      · have E := Lib.hid (put_2 hv h1 h2)
        go_enter Try.func14, Try.ntmps14
        go_wp2_with (go_at_call 18; refine (spec_PointValid _ _).mono ?_; rintro e w' ⟨rfl, rfl⟩)
        go_ret
        rw [E.out]
        exact bytes_lit (by simp only [List.map_cons, List.map_nil]; rw [byteV_u8 _ (by omega) (by omega), byteV_u8 _ (by omega) (by omega)]) rfl (by simp)
      · by_cases h3 : n < 65536
        · have E := Lib.hid (put_3 hv h2 h3)
          go_enter Try.func14, Try.ntmps14
          go_wp2_with (go_at_call 18; refine (spec_PointValid _ _).mono ?_; rintro e w' ⟨rfl, rfl⟩)
          go_ret
          rw [E.out]
          exact bytes_lit (by simp only [List.map_cons, List.map_nil]; rw [byteV_u8 _ (by omega) (by omega), byteV_u8 _ (by omega) (by omega), byteV_u8 _ (by omega) (by omega)]) rfl (by simp)
        · have E := Lib.hid (put_4 hv h3)
          go_enter Try.func14, Try.ntmps14
          go_wp2_with (go_at_call 18; refine (spec_PointValid _ _).mono ?_; rintro e w' ⟨rfl, rfl⟩)
          go_ret
          rw [E.out]
          exact bytes_lit (by simp only [List.map_cons, List.map_nil]; rw [byteV_u8 _ (by omega) (by omega), byteV_u8 _ (by omega) (by omega), byteV_u8 _ (by omega) (by omega), byteV_u8 _ (by omega) (by omega)]) rfl (by simp)
  · have hv' : ptB n = false := by simpa using hv
    have E := Lib.hid (put_0 hv')
    go_enter Try.func14, Try.ntmps14
    go_wp2_with (go_at_call 18; refine (spec_PointValid _ _).mono ?_; rintro e w' ⟨rfl, rfl⟩)
    go_ret
    rw [E.out]
    exact bytes_lit (by rfl) rfl (by simp)

set_option maxHeartbeats 400000 in
theorem impl_PutPoint (n : Int) (w : World) : Calls Try.prog 8 #[.int .i64 n] w (BytesPost w (putP n)) := by
  by_cases hv : ptB n = true
  · have hb := ptB_t.1 hv
    obtain ⟨b0, b1, _⟩ := hb
    by_cases h1 : n < 128
    · have E := Lib.hid (put_1 hv h1)
      go_enter Try.func8, Try.ntmps8
      go_wp2_with (go_at_call 16; refine (impl_PointValid _ _).mono ?_; rintro e w' ⟨rfl, rfl⟩)
      go_ret
      rw [E.out]
      exact bytes_lit (by simp only [List.map_cons, List.map_nil]; rw [byteV_u8 _ (by omega) (by omega)]) rfl (by omega)
    · by_cases h2 : n < 2048
      · have E := Lib.hid (put_2 hv h1 h2)
        go_enter Try.func8, Try.ntmps8
        go_wp2_with (go_at_call 16; refine (impl_PointValid _ _).mono ?_; rintro e w' ⟨rfl, rfl⟩)
        go_ret
        rw [E.out]
        exact bytes_lit (by simp only [List.map_cons, List.map_nil]; rw [byteV_u8 _ (by omega) (by omega), byteV_u8 _ (by omega) (by omega)]) rfl (by simp)
      · by_cases h3 : n < 65536
        · have E := Lib.hid (put_3 hv h2 h3)
          go_enter Try.func8, Try.ntmps8
          go_wp2_with (go_at_call 16; refine (impl_PointValid _ _).mono ?_; rintro e w' ⟨rfl, rfl⟩)
          go_ret
          rw [E.out]
          exact bytes_lit (by simp only [List.map_cons, List.map_nil]; rw [byteV_u8 _ (by omega) (by omega), byteV_u8 _ (by omega) (by omega), byteV_u8 _ (by omega) (by omega)]) rfl (by simp)
        · have E := Lib.hid (put_4 hv h3)
          go_enter Try.func8, Try.ntmps8
          go_wp2_with (go_at_call 16; refine (impl_PointValid _ _).mono ?_; rintro e w' ⟨rfl, rfl⟩)
          go_ret
          rw [E.out]
          exact bytes_lit (by simp only [List.map_cons, List.map_nil]; rw [byteV_u8 _ (by omega) (by omega), byteV_u8 _ (by omega) (by omega), byteV_u8 _ (by omega) (by omega), byteV_u8 _ (by omega) (by omega)]) rfl (by simp)
  · have hv' : ptB n = false := by simpa using hv
    have E := Lib.hid (put_0 hv')
    go_enter Try.func8, Try.ntmps8
    go_wp2_with (go_at_call 16; refine (impl_PointValid _ _).mono ?_; rintro e w' ⟨rfl, rfl⟩)
    go_ret
    rw [E.out]
    exact ⟨_, rfl, World.ownsRow_nil _ _ _ _, Below.refl _ _⟩
end Go.Proofs.Ytgbdkajnlemblaa
