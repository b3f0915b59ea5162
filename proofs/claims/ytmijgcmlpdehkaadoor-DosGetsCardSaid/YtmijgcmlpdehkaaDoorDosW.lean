/- Contracts: digits, and the reference's two. -/
import Derived.Test.YtmijgcmlpdehkaaDoorShelf
import Derived.Test.YtmijgcmlpdehkaaDoorDosV
import Derived.Lib.AppendIntMem
namespace Go.Proofs.YtmijgcmlpdehkaaDoor
open Go.RowKit

/-- A list of bytes as a string. -/
def str (l : List UInt8) : ByteArray := ⟨l.toArray⟩
theorem str_app (a b : List UInt8) : str a ++ str b = str (a ++ b) := by
  apply ByteArray.ext
  simp [str, ByteArray.data_append]
theorem dec_small : ∀ i : Nat, i < 10 → [48] ++ Lib.decDigits i = d2 (i : Int) ∧ (Lib.decDigits i).length = 1 := by decide +kernel
theorem dec_big : ∀ i : Nat, i < 100 → 10 ≤ i → Lib.decDigits i = d2 (i : Int) ∧ (Lib.decDigits i).length = 2 := by decide +kernel
theorem itoa_year : ∀ k : Nat, k < 128 → Lib.itoa (1980 + (k : Int)) = d2 ((1980 + (k : Int)) / 100) ++ d2 ((1980 + (k : Int)) % 100) := by decide +kernel

set_option maxHeartbeats 1000000 in
theorem digits2_any (x : Int) (w : World) (h0 : 0 ≤ x) (h9 : x ≤ 99) :
    Calls Tryd.prog 13 #[.int .i64 x, .int .i64 2] w fun e w' => e = .returned (.string (str (d2 x))) ∧ w' = w := by
  obtain ⟨i, rfl⟩ : ∃ i : Nat, x = i := ⟨x.toNat, by omega⟩
  by_cases hi : i < 10
  · obtain ⟨h1, h2⟩ := dec_small i hi
    have hs : (ByteArray.mk (Lib.decDigits i).toArray).size = 1 := by simp [ByteArray.size, h2]
    have H1 := Lib.hid h1
    clear h1 h2
    have hit := Tryd.strconv_Itoa_small i (by omega) w
    generalize Lib.decDigits i = L at *
    go_enter Tryd.func13, Tryd.ntmps13
    go_wp2_with (first
      | (go_at_call 17; refine hit.mono ?_; rintro e w' ⟨rfl, rfl⟩)
      | (go_at_call 18; refine (Tryd.strings_Repeat_one _ _).mono ?_; rintro e w' ⟨rfl, rfl⟩))
    go_ret
    refine ⟨?_, rfl⟩
    rw [← H1.out, ← str_app]
    rfl
  · obtain ⟨h1, h2⟩ := dec_big i (by omega) (by omega)
    have hs : (ByteArray.mk (Lib.decDigits i).toArray).size = 2 := by simp [ByteArray.size, h2]
    have H1 := Lib.hid h1
    clear h1 h2
    have hit := Tryd.strconv_Itoa_small i (by omega) w
    generalize Lib.decDigits i = L at *
    go_enter Tryd.func13, Tryd.ntmps13
    go_wp2_with (first
      | (go_at_call 17; refine hit.mono ?_; rintro e w' ⟨rfl, rfl⟩)
      | (go_at_call 18; refine (Tryd.strings_Repeat_zero _ _).mono ?_; rintro e w' ⟨rfl, rfl⟩))
    go_ret
    refine ⟨?_, rfl⟩
    rw [← H1.out, show L = [] ++ L from rfl, ← str_app]
    rfl
set_option maxHeartbeats 1000000 in
theorem digits4_any (y : Int) (w : World) (h0 : 1980 ≤ y) (h9 : y ≤ 2107) (htab : Lib.TabIs Tryd.prog w "internal/strconv.uint64pow10" .u64 Lib.pow10Tab) :
    Calls Tryd.prog 13 #[.int .i64 y, .int .i64 4] w fun e w' => e = .returned (.string (str (d2 (y / 100) ++ d2 (y % 100)))) ∧ Below w.heap.size w w' := by
  have h1 := itoa_year (y - 1980).toNat (by omega)
  rw [show (1980 : Int) + ((y - 1980).toNat : Int) = y by omega] at h1
  have hs : (ByteArray.mk (Lib.itoa y).toArray).size = 4 := by simp [ByteArray.size, h1, d2]
  have H1 := Lib.hid h1
  clear h1
  have hit := Tryd.strconv_Itoa y (by omega) (by omega) w htab
  clear htab
  generalize Lib.itoa y = L at *
  go_enter Tryd.func13, Tryd.ntmps13
  go_wp2_with (first
    | (go_at_call 17; refine hit.mono ?_; rintro e w1 ⟨rfl, k, os, hw1⟩; have hb1 : Below w.heap.size w w1 := (by rw [hw1]; exact Lib.below_grow _ _ (Nat.le_refl _) _ _); clear hw1)
    | (go_at_call 18; refine (Tryd.strings_Repeat_zero _ _).mono ?_; rintro e w' ⟨rfl, rfl⟩))
  go_ret
  refine ⟨?_, hb1⟩
  rw [← H1.out, show L = [] ++ L from rfl, ← str_app]
  rfl
theorem dig_str (x : Int) (h0 : 0 ≤ x) (h9 : x ≤ 9) : (ByteArray.mk #[48, 49, 50, 51, 52, 53, 54, 55, 56, 57]).extract x.toNat (x + 1).toNat = str [dg x] := by
  obtain ⟨i, rfl⟩ : ∃ i : Nat, x = i := ⟨x.toNat, by omega⟩
  have h : ∀ i : Nat, i < 10 → (ByteArray.mk #[48, 49, 50, 51, 52, 53, 54, 55, 56, 57]).extract i (i + 1) = str [dg (i : Int)] := by decide +kernel
  exact h i (by omega)
set_option maxHeartbeats 1000000 in
theorem two_any (x : Int) (w : World) (h0 : 0 ≤ x) (h9 : x ≤ 99) :
    Calls Tryd.prog 15 #[.int .i64 x] w fun e w' => e = .returned (.string (str (d2 x))) ∧ ∃ q, w' = w.drewN q := by
  go_enter Tryd.func15, Tryd.ntmps15
  go_wp2_with fail
  have e1 : 0 ≤ x / 10 := by omega
  have e2 : x / 10 ≤ 9 := by omega
  have e3 : 0 ≤ x % 10 := by omega
  have e4 : x % 10 ≤ 9 := by omega
  go_quiet (fail)
  go_wp2
  go_ret
  refine ⟨?_, by first | exact ⟨_, rfl⟩ | exact ⟨_, World.drewN_drewN _ _ _⟩⟩
  have g1 := dig_str (x / 10) e1 e2
  have g2 := dig_str (x % 10) e3 e4
  rw [g1, g2, str_app]
  rfl
end Go.Proofs.YtmijgcmlpdehkaaDoor
