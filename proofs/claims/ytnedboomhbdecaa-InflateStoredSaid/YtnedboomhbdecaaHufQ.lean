/- Plain facts on bits of numbers, the highest first. No program in sight. -/
import Derived.Test.YtnedboomhbdecaaHufP
namespace Go.Proofs.Ytnedboomhbdecaa

/-- n bits of a number, the highest first. -/
def bitsL : Nat → Int → List Int
  | 0, _ => []
  | n + 1, v => bitsL n (v / 2) ++ [v % 2]
theorem bitsL_len : ∀ (n : Nat) (v : Int), (bitsL n v).length = n
  | 0, _ => rfl
  | n + 1, v => by unfold bitsL; rw [List.length_append, bitsL_len n (v / 2)]; rfl
theorem bitsL_01 : ∀ (n : Nat) (v : Int), ∀ b ∈ bitsL n v, b = 0 ∨ b = 1
  | 0, _, b, h => by cases h
  | n + 1, v, b, h => by
    unfold bitsL at h
    rcases List.mem_append.1 h with h | h
    · exact bitsL_01 n (v / 2) b h
    · simp at h; omega
theorem bitsL_cons : ∀ (n : Nat) (v : Int), bitsL (n + 1) v = (v / 2 ^ n % 2) :: bitsL n v
  | 0, v => by simp [bitsL]
  | n + 1, v => by
    have h := bitsL_cons n (v / 2)
    show bitsL (n + 1) (v / 2) ++ [v % 2] = _
    rw [h]
    show (v / 2 / 2 ^ n % 2) :: (bitsL n (v / 2) ++ [v % 2]) = (v / 2 ^ (n + 1) % 2) :: bitsL (n + 1) v
    rw [Int.ediv_ediv_of_nonneg (by omega : (0 : Int) ≤ 2), Int.pow_succ, Int.mul_comm (2 ^ n) 2]
    rfl
/-- Bits read as a number. -/
def bitsV (l : List Int) : Int := l.foldl (fun a b => 2 * a + b) 0
theorem bitsV_snoc (l : List Int) (b : Int) : bitsV (l ++ [b]) = 2 * bitsV l + b := by unfold bitsV; rw [List.foldl_append]; rfl
theorem bitsV_bits : ∀ (n : Nat) (v : Int), bitsV (bitsL n v) = v % 2 ^ n
  | 0, v => by
    show (0 : Int) = v % 2 ^ 0
    rw [Int.pow_zero]; omega
  | n + 1, v => by
    unfold bitsL
    rw [bitsV_snoc, bitsV_bits n (v / 2), Int.pow_succ]
    have h1 : v % (2 ^ n * 2) = v - (2 ^ n * 2) * (v / (2 ^ n * 2)) := by have := Int.emod_add_mul_ediv v (2 ^ n * 2); omega
    have h2 : (v / 2) % 2 ^ n = v / 2 - 2 ^ n * (v / 2 / 2 ^ n) := by have := Int.emod_add_mul_ediv (v / 2) (2 ^ n); omega
    have h3 : v / 2 / 2 ^ n = v / (2 ^ n * 2) := by rw [Int.ediv_ediv_of_nonneg (by omega : (0 : Int) ≤ 2), Int.mul_comm]
    rw [h1, h2, h3]
    generalize v / (2 ^ n * 2) = q
    have h4 : 2 ^ n * 2 * q = 2 * (2 ^ n * q) := by rw [Int.mul_comm (2 ^ n) 2, Int.mul_assoc]
    rw [h4]
    generalize (2 : Int) ^ n * q = r
    omega
theorem bitsV_nat (n v : Nat) (h : v < 2 ^ n) : bitsV (bitsL n (v : Int)) = v := by
  rw [bitsV_bits]
  have : ((2 : Int) ^ n) = ((2 ^ n : Nat) : Int) := by simp
  rw [this]
  exact Int.emod_eq_of_lt (by omega) (by omega)
/-- The reference's row of symbol i, where lengths below n are done, and those of n below s. -/
def doneRow (l : List Int) (n s i : Nat) : List Int :=
  match l[i]? with
  | some x => if 1 ≤ x ∧ (x < (n : Int) ∨ x = (n : Int) ∧ i < s) then bitsL x.toNat ((codeS l i x.toNat : Int) % 32768) else []
  | none => []
theorem doneRow_far (l : List Int) (n s i : Nat) (h : i ≠ s ∨ l[i]? ≠ some (n : Int)) : doneRow l n (s + 1) i = doneRow l n s i := by
  unfold doneRow
  cases hx : l[i]? with
  | none => rfl
  | some x =>
    show (if 1 ≤ x ∧ (x < (n : Int) ∨ x = (n : Int) ∧ i < s + 1) then _ else _) = (if 1 ≤ x ∧ (x < (n : Int) ∨ x = (n : Int) ∧ i < s) then _ else _)
    have : (1 ≤ x ∧ (x < (n : Int) ∨ x = (n : Int) ∧ i < s + 1)) ↔ (1 ≤ x ∧ (x < (n : Int) ∨ x = (n : Int) ∧ i < s)) := by
      rcases h with h | h
      · omega
      · have hne : x ≠ (n : Int) := fun e => h (by rw [hx, e])
        omega
    by_cases hc : 1 ≤ x ∧ (x < (n : Int) ∨ x = (n : Int) ∧ i < s)
    · rw [if_pos hc, if_pos (this.2 hc)]
    · rw [if_neg hc, if_neg (fun h => hc (this.1 h))]
theorem doneRow_here (l : List Int) (n s : Nat) (hn : 1 ≤ n) (h : l[s]? = some (n : Int)) : doneRow l n (s + 1) s = bitsL n ((codeS l s n : Int) % 32768) := by
  unfold doneRow
  rw [h]
  show (if 1 ≤ (n : Int) ∧ ((n : Int) < (n : Int) ∨ (n : Int) = (n : Int) ∧ s < s + 1) then bitsL (n : Int).toNat _ else _) = _
  rw [if_pos ⟨by omega, .inr ⟨rfl, by omega⟩⟩, Int.toNat_natCast]
theorem doneRow_next (l : List Int) (n i : Nat) : doneRow l (n + 1) 0 i = doneRow l n l.length i := by
  unfold doneRow
  cases hx : l[i]? with
  | none => rfl
  | some x =>
    have hi : i < l.length := by
      rcases Nat.lt_or_ge i l.length with h1 | h1
      · exact h1
      · rw [List.getElem?_eq_none h1] at hx; cases hx
    show (if 1 ≤ x ∧ (x < ((n + 1 : Nat) : Int) ∨ x = ((n + 1 : Nat) : Int) ∧ i < 0) then _ else _) = (if 1 ≤ x ∧ (x < (n : Int) ∨ x = (n : Int) ∧ i < l.length) then _ else _)
    have : (1 ≤ x ∧ (x < ((n + 1 : Nat) : Int) ∨ x = ((n + 1 : Nat) : Int) ∧ i < 0)) ↔ (1 ≤ x ∧ (x < (n : Int) ∨ x = (n : Int) ∧ i < l.length)) := by omega
    by_cases hc : 1 ≤ x ∧ (x < (n : Int) ∨ x = (n : Int) ∧ i < l.length)
    · rw [if_pos hc, if_pos (this.2 hc)]
    · rw [if_neg hc, if_neg (fun h => hc (this.1 h))]
theorem doneRow_start (l : List Int) (i : Nat) : doneRow l 1 0 i = [] := by
  unfold doneRow
  cases hx : l[i]? with
  | none => rfl
  | some x =>
    show (if 1 ≤ x ∧ (x < ((1 : Nat) : Int) ∨ x = ((1 : Nat) : Int) ∧ i < 0) then _ else _) = _
    rw [if_neg (by omega)]
/-- The reference's row of symbol i, whole. -/
def rowC (l : List Int) (i : Nat) : List Int := doneRow l 16 0 i
theorem rowC_zero {l : List Int} {i : Nat} (h : l[i]? = some 0) : rowC l i = [] := by
  unfold rowC doneRow
  rw [h]
  show (if 1 ≤ (0 : Int) ∧ _ then _ else _) = _
  rw [if_neg (by omega)]
theorem rowC_code {l : List Int} {i n : Nat} (h : l[i]? = some (n : Int)) (hn : 1 ≤ n) (hn15 : n ≤ 15) (ho : overTo l 15 = false) : rowC l i = bitsL n (codeS l i n : Int) ∧ bitsV (rowC l i) = codeS l i n := by
  have hb := codeS_bd h hn hn15 ho
  have hp : 2 ^ n ≤ 32768 := Nat.pow_le_pow_right (show 0 < 2 by omega) hn15
  have h1 : rowC l i = bitsL n ((codeS l i n : Int) % 32768) := by
    unfold rowC doneRow
    rw [h]
    show (if 1 ≤ (n : Int) ∧ ((n : Int) < ((16 : Nat) : Int) ∨ (n : Int) = ((16 : Nat) : Int) ∧ i < 0) then bitsL (n : Int).toNat _ else _) = _
    rw [if_pos ⟨by omega, .inl (by omega)⟩, Int.toNat_natCast]
  have h2 : (codeS l i n : Int) % 32768 = codeS l i n := by
    generalize 2 ^ n = P at *
    omega
  rw [h2] at h1
  exact ⟨h1, by rw [h1, bitsV_nat _ _ hb]⟩
end Go.Proofs.Ytnedboomhbdecaa
