/- The places behind stars, marked one after another: all that follow are marked, and nothing else matches. No program in sight. -/
import Derived.Test.YtbdehlphblbmoaaDoorGlbD
namespace Go.Proofs.YtbdehlphblbmoaaDoor

theorem openN_mono1 (ps : List PtP) (a : List Bool) (j i : Nat) (h : (openN ps a j)[i]? = some true) : (openN ps a (j + 1))[i]? = some true := by
  rw [openN]
  split
  · split
    · rw [List.getElem?_set]
      split
      · rename_i he
        rw [if_pos (by rw [he]; exact (List.getElem?_eq_some_iff.1 h).1)]
      · exact h
    · exact h
  · exact h
theorem openN_mono (ps : List PtP) (a : List Bool) (j i : Nat) : ∀ d, (openN ps a j)[i]? = some true → (openN ps a (j + d))[i]? = some true
  | 0, h => h
  | d + 1, h => openN_mono1 ps a (j + d) i (openN_mono ps a j i d h)
theorem openN_fix1 (ps : List PtP) (a : List Bool) (j i : Nat) (h : i ≤ j) : (openN ps a (j + 1))[i]? = (openN ps a j)[i]? := by
  rw [openN]
  split
  · split
    · rw [List.getElem?_set, if_neg (by omega)]
    · rfl
  · rfl
theorem openN_fix (ps : List PtP) (a : List Bool) (i : Nat) : ∀ d, (openN ps a (i + d))[i]? = (openN ps a i)[i]?
  | 0 => rfl
  | d + 1 => by rw [show i + (d + 1) = (i + d) + 1 by omega, openN_fix1 _ _ _ _ (by omega), openN_fix ps a i d]
theorem openN_closed (ps : List PtP) (a : List Bool) (hl : a.length = ps.length + 1) : closed ps (openN ps a ps.length) := by
  intro i p hp hs ha
  have hi : i < ps.length := (List.getElem?_eq_some_iff.1 hp).1
  have h1 := openN_fix ps a i (ps.length - i)
  rw [show i + (ps.length - i) = ps.length by omega] at h1
  rw [h1] at ha
  have h2 : (openN ps a (i + 1))[i + 1]? = some true := by
    rw [openN_step hp, hs, ha]
    simp only [Option.getD_some, Bool.and_self, if_true]
    rw [List.getElem?_set, if_pos rfl, if_pos (by rw [openN_len, hl]; omega)]
  have h3 := openN_mono ps a (i + 1) (i + 1) (ps.length - (i + 1)) h2
  rwa [show i + 1 + (ps.length - (i + 1)) = ps.length by omega] at h3
theorem openN_from (ps : List PtP) (a : List Bool) (i : Nat) : ∀ j, (openN ps a j)[i]? = some true → a[i]? = some true ∨ ∃ k p, i = k + 1 ∧ k < j ∧ ps[k]? = some p ∧ isStar p = true ∧ (openN ps a k)[k]? = some true
  | 0, h => .inl h
  | j + 1, h => by
    rw [openN] at h
    split at h
    · rename_i p hp
      split at h
      · rename_i hb
        rw [List.getElem?_set] at h
        split at h
        · rename_i he
          rw [Bool.and_eq_true] at hb
          refine .inr ⟨j, p, he.symm, by omega, hp, hb.1, ?_⟩
          cases hg : (openN ps a j)[j]? with
          | none => rw [hg] at hb; simp at hb
          | some b => rw [hg] at hb; simp only [Option.getD_some] at hb; rw [hb.2]
        · rcases openN_from ps a i j h with h1 | ⟨k, q, h1, h2, h3⟩
          · exact .inl h1
          · exact .inr ⟨k, q, h1, by omega, h3⟩
      · rcases openN_from ps a i j h with h1 | ⟨k, q, h1, h2, h3⟩
        · exact .inl h1
        · exact .inr ⟨k, q, h1, by omega, h3⟩
    · rcases openN_from ps a i j h with h1 | ⟨k, q, h1, h2, h3⟩
      · exact .inl h1
      · exact .inr ⟨k, q, h1, by omega, h3⟩
theorem openN_acc (ps : List PtP) (a : List Bool) (l : List Int) : acc ps (openN ps a ps.length) l ↔ acc ps a l := by
  refine acc_more (fun i h => ?_) (fun i h => ?_)
  · have := openN_mono ps a 0 i ps.length h
    rwa [Nat.zero_add] at this
  · rcases openN_from ps a i ps.length h with h1 | ⟨k, p, h1, h2, h3, h4, h5⟩
    · exact .inl h1
    · refine .inr ⟨k, p, h1, h3, h4, ?_⟩
      have := openN_fix ps a k (ps.length - k)
      rw [show k + (ps.length - k) = ps.length by omega] at this
      rw [this]; exact h5
end Go.Proofs.YtbdehlphblbmoaaDoor
