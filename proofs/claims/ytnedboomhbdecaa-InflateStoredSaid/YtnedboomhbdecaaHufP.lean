/- Plain facts on codes by their lengths. No program in sight. -/
import Derived.Test.YtnedboomhbdecaaWordP
namespace Go.Proofs.Ytnedboomhbdecaa

/-- How many of the first k have length n; which ones. -/
def symsTo (l : List Int) (n : Int) : Nat → List Int
  | 0 => []
  | k + 1 => symsTo l n k ++ if l[k]? = some n then [(k : Int)] else []
def cntTo (l : List Int) (n : Int) (k : Nat) : Nat := (symsTo l n k).length
def cnt (l : List Int) (n : Int) : Nat := cntTo l n l.length
def syms (l : List Int) (n : Int) : List Int := symsTo l n l.length
theorem symsTo_succ (l : List Int) (n : Int) (k : Nat) : symsTo l n (k + 1) = symsTo l n k ++ if l[k]? = some n then [(k : Int)] else [] := rfl
theorem symsTo_yes {l : List Int} {n : Int} {k : Nat} (h : l[k]? = some n) : symsTo l n (k + 1) = symsTo l n k ++ [(k : Int)] := by rw [symsTo_succ, if_pos h]
theorem symsTo_no {l : List Int} {n : Int} {k : Nat} (h : l[k]? ≠ some n) : symsTo l n (k + 1) = symsTo l n k := by rw [symsTo_succ, if_neg h, List.append_nil]
theorem cntTo_yes {l : List Int} {n : Int} {k : Nat} (h : l[k]? = some n) : cntTo l n (k + 1) = cntTo l n k + 1 := by unfold cntTo; rw [symsTo_yes h]; simp
theorem cntTo_no {l : List Int} {n : Int} {k : Nat} (h : l[k]? ≠ some n) : cntTo l n (k + 1) = cntTo l n k := by unfold cntTo; rw [symsTo_no h]
theorem cntTo_le (l : List Int) (n : Int) : ∀ k, cntTo l n k ≤ k
  | 0 => Nat.le_refl _
  | k + 1 => by
    have := cntTo_le l n k
    by_cases h : l[k]? = some n
    · rw [cntTo_yes h]; omega
    · rw [cntTo_no h]; omega
theorem cntTo_mono (l : List Int) (n : Int) (j k : Nat) (h : j ≤ k) : cntTo l n j ≤ cntTo l n k := by
  induction k with
  | zero => rw [show j = 0 by omega]; exact Nat.le_refl _
  | succ k ih =>
    by_cases hj : j = k + 1
    · rw [hj]; exact Nat.le_refl _
    · have := ih (by omega)
      by_cases h2 : l[k]? = some n
      · rw [cntTo_yes h2]; omega
      · rw [cntTo_no h2]; omega
theorem symsTo_lt (l : List Int) (n : Int) : ∀ k, ∀ s ∈ symsTo l n k, 0 ≤ s ∧ s < k
  | 0, s, h => by cases h
  | k + 1, s, h => by
    rw [symsTo_succ] at h
    rcases List.mem_append.1 h with h | h
    · have := symsTo_lt l n k s h; omega
    · split at h
      · simp at h; omega
      · cases h
theorem symsTo_sorted (l : List Int) (n : Int) : ∀ k, (symsTo l n k).Pairwise (· ≤ ·)
  | 0 => List.Pairwise.nil
  | k + 1 => by
    rw [symsTo_succ]
    refine List.pairwise_append.2 ⟨symsTo_sorted l n k, ?_, fun a ha b hb => ?_⟩
    · split <;> simp
    · have := symsTo_lt l n k a ha
      split at hb
      · simp at hb; omega
      · cases hb
/-- Of the symbols of a length so many lie ahead of one. -/
theorem syms_before (l : List Int) (n : Int) (s : Nat) : ∀ k, s ≤ k → (symsTo l n k).countP (· < (s : Int)) = cntTo l n s := by
  intro k hk
  induction k with
  | zero => rw [show s = 0 by omega]; rfl
  | succ k ih =>
    by_cases hs : s = k + 1
    · subst hs
      unfold cntTo
      rw [List.countP_eq_length]
      intro a ha
      have := symsTo_lt l n (k + 1) a ha
      simp; omega
    · have h1 := ih (by omega)
      rw [symsTo_succ, List.countP_append, h1]
      split
      · have h2 : ¬ (k : Int) < (s : Int) := by omega
        simp [h2]
      · simp
/-- The codes given, doubled for each length. -/
def endC (l : List Int) : Nat → Nat
  | 0 => 0
  | n + 1 => 2 * endC l n + cnt l ((n : Int) + 1)
def overTo (l : List Int) : Nat → Bool
  | 0 => false
  | n + 1 => overTo l n || decide (2 ^ (n + 1) < endC l (n + 1))
def firstC (l : List Int) (n : Nat) : Nat := match n with
  | 0 => 0
  | n + 1 => 2 * endC l n
def fillN (l : List Int) : Int := if endC l 15 = 32768 then 0 else 1
theorem endC_le {l : List Int} : ∀ {n : Nat}, overTo l n = false → endC l n ≤ 2 ^ n
  | 0, _ => by simp [endC]
  | n + 1, h => by
    unfold overTo at h
    simp only [Bool.or_eq_false_iff, decide_eq_false_iff_not] at h
    omega
theorem over_mono {l : List Int} : ∀ {n m : Nat}, n ≤ m → overTo l m = false → overTo l n = false
  | n, 0, h, _ => by rw [show n = 0 by omega]; rfl
  | n, m + 1, h, hm => by
    by_cases e : n = m + 1
    · rw [e]; exact hm
    · unfold overTo at hm
      simp only [Bool.or_eq_false_iff] at hm
      exact over_mono (by omega) hm.1
theorem over_up {l : List Int} {n m : Nat} (h : n ≤ m) (hn : overTo l n = true) : overTo l m = true := by
  cases hm : overTo l m with
  | true => rfl
  | false => rw [over_mono h hm] at hn; cases hn
theorem endC_first (l : List Int) (n : Nat) : endC l (n + 1) = firstC l (n + 1) + cnt l ((n : Int) + 1) := rfl
/-- May lengths be? -/
def mayB (l : List Int) : Bool := l.all (fun n => decide (0 ≤ n) && decide (n ≤ 15)) && decide (l.length ≤ 320)
/-- A symbol's code. -/
def codeS (l : List Int) (s : Nat) (n : Nat) : Nat := firstC l n + cntTo l n s
theorem codeS_lt {l : List Int} {s n : Nat} (h : l[s]? = some (n : Int)) (hn : 1 ≤ n) : codeS l s n < endC l n := by
  obtain ⟨m, rfl⟩ : ∃ m, n = m + 1 := ⟨n - 1, by omega⟩
  have hs : s < l.length := by
    rcases Nat.lt_or_ge s l.length with h1 | h1
    · exact h1
    · rw [List.getElem?_eq_none h1] at h; cases h
  rw [endC_first]
  unfold codeS cnt
  have h1 := cntTo_yes h
  have h2 := cntTo_mono l ((m + 1 : Nat) : Int) (s + 1) l.length (by omega)
  have e : ((m + 1 : Nat) : Int) = (m : Int) + 1 := by omega
  rw [e] at h1 h2 ⊢
  omega
theorem codeS_bd {l : List Int} {s n : Nat} (h : l[s]? = some (n : Int)) (hn : 1 ≤ n) (hn15 : n ≤ 15) (ho : overTo l 15 = false) : codeS l s n < 2 ^ n := by
  have h1 := codeS_lt h hn
  have h2 := endC_le (over_mono hn15 ho)
  omega
end Go.Proofs.Ytnedboomhbdecaa
