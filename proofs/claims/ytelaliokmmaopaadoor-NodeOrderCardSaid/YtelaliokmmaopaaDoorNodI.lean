/- Where keys of a leaf, and their successors, belong. No program in sight. -/
import Derived.Test.YtelaliokmmaopaaDoorNodG
namespace Go.Proofs.YtelaliokmmaopaaDoor
open Go.Lib (compareBytes)

theorem cmp_snoc : ∀ x l : List UInt8, compareBytes x (l ++ [0]) < 0 ↔ compareBytes x l ≤ 0
  | [], [] => by simp [compareBytes]
  | [], y :: l => by simp [compareBytes]
  | x :: a, [] => by
    have h0 : ¬ x < 0 := by rw [u8_lt]; exact Nat.not_lt_zero _
    rw [List.nil_append, show compareBytes (x :: a) [0] = if x < 0 then -1 else if 0 < x then 1 else compareBytes a [] from rfl, show compareBytes (x :: a) [] = 1 from rfl, if_neg h0]
    cases a <;> (split <;> simp [compareBytes])
  | x :: a, y :: l => by
    rw [List.cons_append, compareBytes, compareBytes]
    split
    · simp
    · split
      · simp
      · exact cmp_snoc a l
theorem find_own {cs : List CellP} {c : CellP} {j k : Nat} {is : Bool} (hs : SortP cs) (hc : cs[j]? = some c) (h : FindAt cs c.key k is) : k = j ∧ is = true := by
  have hk : k = j := by
    rcases Nat.lt_trichotomy k j with hl | hl | hl
    · have hj := (List.getElem?_eq_some_iff.1 hc).1
      have hk : cs[k]? = some cs[k] := List.getElem?_eq_getElem (by omega)
      have h1 := h.2.2.1 k _ (Nat.le_refl _) hk
      have h2 := hs.lt (j - k - 1) k _ c hk (by rw [show k + (j - k - 1) + 1 = j by omega]; exact hc)
      omega
    · exact hl
    · have h1 := h.2.1 j c hl hc
      rw [cmp_self] at h1
      omega
  subst hk
  exact ⟨rfl, h.2.2.2.2 ⟨c, hc, rfl⟩⟩
theorem find_next {cs : List CellP} {c : CellP} {j k : Nat} {is : Bool} (hs : SortP cs) (hc : cs[j]? = some c) (h : FindAt cs (c.key ++ [0]) k is) : k = j + 1 ∧ (is = true ↔ ∃ d, cs[j + 1]? = some d ∧ d.key = c.key ++ [0]) := by
  have hk : k = j + 1 := by
    rcases Nat.lt_trichotomy k (j + 1) with hl | hl | hl
    · have h1 := h.2.2.1 j c (by omega) hc
      have h2 := (cmp_snoc c.key c.key).2 (by rw [cmp_self]; exact Int.le_refl _)
      omega
    · exact hl
    · have hk := h.1
      have hd : cs[j + 1]? = some cs[j + 1] := List.getElem?_eq_getElem (by omega)
      have h1 := (cmp_snoc _ _).1 (h.2.1 (j + 1) _ hl hd)
      have h2 := hs j c _ hc hd
      rw [cmp_anti] at h1
      omega
  subst hk
  exact ⟨rfl, h.2.2.2⟩
end Go.Proofs.YtelaliokmmaopaaDoor
