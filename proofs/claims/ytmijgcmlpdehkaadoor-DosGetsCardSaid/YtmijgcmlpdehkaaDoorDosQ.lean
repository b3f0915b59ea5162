/- Plain facts on texts of moments: digits, the form, the six numbers. No program in sight. -/
import Derived.Test.YtmijgcmlpdehkaaDoorDosP
namespace Go.Proofs.YtmijgcmlpdehkaaDoor

/-- The byte at a place, 0 behind the end. -/
def chr (t : List UInt8) (i : Nat) : Nat := (t[i]?.getD 0).toNat
theorem chr_lt (t : List UInt8) (i : Nat) : chr t i < 256 := UInt8.toNat_lt _
/-- The number of m digits from a place on. -/
def valF (t : List UInt8) (a : Nat) : Nat → Int
  | 0 => 0
  | m + 1 => 10 * valF t a m + ((chr t (a + m) : Int) - 48)
/-- Is it a digit? -/
def digB (t : List UInt8) (i : Nat) : Bool := decide (48 ≤ chr t i) && decide (chr t i ≤ 57)
/-- The form, a place each. -/
def formL : List Nat := [100, 100, 100, 100, 45, 100, 100, 45, 100, 100, 32, 100, 100, 58, 100, 100, 58, 100, 100]
def formN (i : Nat) : Nat := formL[i]?.getD 0
/-- Is the place as the form has it? -/
def okB (t : List UInt8) (i : Nat) : Bool := if formN i = 100 then digB t i else chr t i == formN i
/-- Are the first j places? -/
def okTo (t : List UInt8) : Nat → Bool
  | 0 => true
  | j + 1 => okTo t j && okB t j
/-- Which of the six numbers a place belongs to. -/
def kOf (j : Nat) : Nat := ((if 4 < j then 1 else 0) + (if 7 < j then 1 else 0)) + ((if 10 < j then 1 else 0) + (if 13 < j then 1 else 0)) + (if 16 < j then 1 else 0)
/-- The six numbers behind j places. -/
def fld (t : List UInt8) (j i : Nat) : Int :=
  match i with
  | 0 => valF t 0 (min j 4)
  | 1 => valF t 5 (min j 7 - 5)
  | 2 => valF t 8 (min j 10 - 8)
  | 3 => valF t 11 (min j 13 - 11)
  | 4 => valF t 14 (min j 16 - 14)
  | 5 => valF t 17 (min j 19 - 17)
  | _ => 0
theorem valF_bd (t : List UInt8) (a : Nat) : ∀ m : Nat, (∀ i, i < m → digB t (a + i) = true) → 0 ≤ valF t a m ∧ valF t a m < 10 ^ m
  | 0, _ => by simp [valF]
  | m + 1, h => by
    have h1 := valF_bd t a m (fun i hi => h i (by omega))
    have h2 := h m (by omega)
    simp only [digB, Bool.and_eq_true, decide_eq_true_eq] at h2
    simp only [valF, Int.pow_succ]
    omega
theorem okTo_at (t : List UInt8) : ∀ j : Nat, okTo t j = true → ∀ i, i < j → okB t i = true
  | 0, _, i, hi => by omega
  | j + 1, h, i, hi => by
    simp only [okTo, Bool.and_eq_true] at h
    by_cases e : i = j
    · subst e; exact h.2
    · exact okTo_at t j h.1 i (by omega)
theorem okTo_mk (t : List UInt8) : ∀ j : Nat, (∀ i, i < j → okB t i = true) → okTo t j = true
  | 0, _ => rfl
  | j + 1, h => by
    simp only [okTo, Bool.and_eq_true]
    exact ⟨okTo_mk t j (fun i hi => h i (by omega)), h j (by omega)⟩
theorem okTo_no (t : List UInt8) (j n : Nat) (hj : j < n) (h : okB t j = false) : okTo t n = false := by
  rw [Bool.eq_false_iff]
  intro h2
  rw [okTo_at t n h2 j hj] at h
  cases h
/-- A place that is no digit's begins the next number. -/
theorem fld_sep (t : List UInt8) (j : Nat) (hj : j < 19) (hf : formN j ≠ 100) (i : Nat) : fld t (j + 1) i = fld t j i ∧ kOf (j + 1) = kOf j + 1 := by
  have : j = 0 ∨ j = 1 ∨ j = 2 ∨ j = 3 ∨ j = 4 ∨ j = 5 ∨ j = 6 ∨ j = 7 ∨ j = 8 ∨ j = 9 ∨ j = 10 ∨ j = 11 ∨ j = 12 ∨ j = 13 ∨ j = 14 ∨ j = 15 ∨ j = 16 ∨ j = 17 ∨ j = 18 := by omega
  rcases this with rfl | rfl | rfl | rfl | rfl | rfl | rfl | rfl | rfl | rfl | rfl | rfl | rfl | rfl | rfl | rfl | rfl | rfl | rfl <;>
    first
      | (exact absurd rfl hf)
      | (refine ⟨?_, by decide⟩
         match i with
         | 0 => rfl
         | 1 => rfl
         | 2 => rfl
         | 3 => rfl
         | 4 => rfl
         | 5 => rfl
         | i + 6 => rfl)
/-- A digit's place. -/
theorem fld_dig (t : List UInt8) (j : Nat) (hj : j < 19) (hf : formN j = 100) (i : Nat) :
    fld t (j + 1) i = (if i = kOf j then 10 * fld t j i + ((chr t j : Int) - 48) else fld t j i) ∧ kOf (j + 1) = kOf j ∧ kOf j < 6 := by
  have : j = 0 ∨ j = 1 ∨ j = 2 ∨ j = 3 ∨ j = 4 ∨ j = 5 ∨ j = 6 ∨ j = 7 ∨ j = 8 ∨ j = 9 ∨ j = 10 ∨ j = 11 ∨ j = 12 ∨ j = 13 ∨ j = 14 ∨ j = 15 ∨ j = 16 ∨ j = 17 ∨ j = 18 := by omega
  rcases this with rfl | rfl | rfl | rfl | rfl | rfl | rfl | rfl | rfl | rfl | rfl | rfl | rfl | rfl | rfl | rfl | rfl | rfl | rfl <;>
    first
      | (exact absurd hf (by decide))
      | (refine ⟨?_, by decide, by decide⟩
         match i with
         | 0 => rfl
         | 1 => rfl
         | 2 => rfl
         | 3 => rfl
         | 4 => rfl
         | 5 => rfl
         | i + 6 => rfl)
theorem kOf_lt (j : Nat) (hj : j < 19) : kOf j < 6 := by
  unfold kOf
  repeat' split
  all_goals omega
theorem fld_zero (t : List UInt8) (i : Nat) : fld t 0 i = 0 := by
  match i with
  | 0 => rfl
  | 1 => rfl
  | 2 => rfl
  | 3 => rfl
  | 4 => rfl
  | 5 => rfl
  | i + 6 => rfl
theorem valF_bd4 (t : List UInt8) (a m : Nat) (hm : m ≤ 4) (h : ∀ i, i < m → digB t (a + i) = true) : 0 ≤ valF t a m ∧ valF t a m ≤ 9999 := by
  have h1 := valF_bd t a m h
  have : m = 0 ∨ m = 1 ∨ m = 2 ∨ m = 3 ∨ m = 4 := by omega
  rcases this with rfl | rfl | rfl | rfl | rfl <;> simp at h1 <;> omega
theorem okB_dig (t : List UInt8) (i : Nat) (h : okB t i = true) (hf : formN i = 100) : digB t i = true := by
  unfold okB at h; rwa [if_pos hf] at h
/-- Digits stay within bounds. -/
theorem fld_bd (t : List UInt8) (j : Nat) (hj : j ≤ 19) (h : okTo t j = true) (i : Nat) : 0 ≤ fld t j i ∧ fld t j i ≤ 9999 := by
  have ok := okTo_at t j h
  match i with
  | 0 => exact valF_bd4 t 0 _ (by omega) fun x hx => okB_dig t _ (ok _ (by omega)) (by
      have : x = 0 ∨ x = 1 ∨ x = 2 ∨ x = 3 := by omega
      rcases this with rfl | rfl | rfl | rfl <;> rfl)
  | 1 => exact valF_bd4 t 5 _ (by omega) fun x hx => okB_dig t _ (ok _ (by omega)) (by
      have : x = 0 ∨ x = 1 := by omega
      rcases this with rfl | rfl <;> rfl)
  | 2 => exact valF_bd4 t 8 _ (by omega) fun x hx => okB_dig t _ (ok _ (by omega)) (by
      have : x = 0 ∨ x = 1 := by omega
      rcases this with rfl | rfl <;> rfl)
  | 3 => exact valF_bd4 t 11 _ (by omega) fun x hx => okB_dig t _ (ok _ (by omega)) (by
      have : x = 0 ∨ x = 1 := by omega
      rcases this with rfl | rfl <;> rfl)
  | 4 => exact valF_bd4 t 14 _ (by omega) fun x hx => okB_dig t _ (ok _ (by omega)) (by
      have : x = 0 ∨ x = 1 := by omega
      rcases this with rfl | rfl <;> rfl)
  | 5 => exact valF_bd4 t 17 _ (by omega) fun x hx => okB_dig t _ (ok _ (by omega)) (by
      have : x = 0 ∨ x = 1 := by omega
      rcases this with rfl | rfl <;> rfl)
  | i + 6 => exact ⟨Int.le_refl _, show (0 : Int) ≤ 9999 by decide⟩
/-- A text is a moment's. -/
def MomT (t : List UInt8) : Prop := (t.length = 10 ∨ t.length = 19) ∧ okTo t t.length = true ∧ Right6 (fld t t.length 0) (fld t t.length 1) (fld t t.length 2) (fld t t.length 3) (fld t t.length 4) (fld t t.length 5)
def momN (t : List UInt8) : Int := dosN (fld t t.length 0) (fld t t.length 1) (fld t t.length 2) (fld t t.length 3) (fld t t.length 4) (fld t t.length 5)
/-- The reference's number of digits. -/
def numD (t : List UInt8) (a m : Nat) : Int := if (List.range m).all (fun i => digB t (a + i)) then valF t a m else -1
theorem numD_yes (t : List UInt8) (a m : Nat) (h : ∀ i, i < m → digB t (a + i) = true) : numD t a m = valF t a m := by
  unfold numD; rw [if_pos]; simpa using h
theorem numD_no (t : List UInt8) (a m i : Nat) (hi : i < m) (h : digB t (a + i) = false) : numD t a m = -1 := by
  unfold numD; rw [if_neg]; simp; exact ⟨i, hi, h⟩
end Go.Proofs.YtmijgcmlpdehkaaDoor
