/- The program's matching tells what matches. No program in sight. -/
import Derived.Test.YtbdehlphblbmoaaDoorGlbF
namespace Go.Proofs.YtbdehlphblbmoaaDoor

/-- The places behind one rune, marked in the first rounds. -/
def nextN (ps : List PtP) (a : List Bool) (r : Int) : Nat → List Bool
  | 0 => List.replicate (ps.length + 1) false
  | j + 1 => match ps[j]? with
    | some p => if a[j]?.getD false && fitsB p r then (nextN ps a r j).set (if isStar p then j else j + 1) true else nextN ps a r j
    | none => nextN ps a r j
theorem nextN_step {ps : List PtP} {a : List Bool} {r : Int} {j : Nat} {p : PtP} (h : ps[j]? = some p) : nextN ps a r (j + 1) = if a[j]?.getD false && fitsB p r then (nextN ps a r j).set (if isStar p then j else j + 1) true else nextN ps a r j := by
  rw [nextN, h]
theorem nextN_len (ps : List PtP) (a : List Bool) (r : Int) : ∀ j, (nextN ps a r j).length = ps.length + 1
  | 0 => by rw [nextN, List.length_replicate]
  | j + 1 => by
    rw [nextN]
    split
    · split
      · rw [List.length_set, nextN_len ps a r j]
      · exact nextN_len ps a r j
    · exact nextN_len ps a r j
theorem getD_true {a : List Bool} {j : Nat} : a[j]?.getD false = true ↔ a[j]? = some true := by
  cases h : a[j]? with
  | none => simp
  | some b => cases b <;> simp
theorem nextN_iff (ps : List PtP) (a : List Bool) (r : Int) (i : Nat) : ∀ j, j ≤ ps.length → ((nextN ps a r j)[i]? = some true ↔ ∃ k p, k < j ∧ ps[k]? = some p ∧ a[k]? = some true ∧ fitsB p r = true ∧ i = if isStar p then k else k + 1)
  | 0, _ => by
    rw [nextN, List.getElem?_replicate]
    constructor
    · intro h; split at h <;> cases h
    · rintro ⟨k, _, h, _⟩; omega
  | j + 1, hj => by
    have hp : ps[j]? = some ps[j] := List.getElem?_eq_getElem (by omega)
    have ih := nextN_iff ps a r i j (by omega)
    rw [nextN_step hp]
    generalize ps[j] = p at *
    by_cases hb : (a[j]?.getD false && fitsB p r) = true
    · rw [if_pos hb, List.getElem?_set]
      rw [Bool.and_eq_true, getD_true] at hb
      by_cases he : (if isStar p = true then j else j + 1) = i
      · rw [if_pos he, if_pos (by rw [nextN_len]; split <;> omega)]
        exact ⟨fun _ => ⟨j, p, by omega, hp, hb.1, hb.2, he.symm⟩, fun _ => rfl⟩
      · rw [if_neg he, ih]
        constructor
        · rintro ⟨k, q, h1, h2⟩; exact ⟨k, q, by omega, h2⟩
        · rintro ⟨k, q, h1, h2, h3, h4, h5⟩
          refine ⟨k, q, ?_, h2, h3, h4, h5⟩
          apply Classical.byContradiction
          intro hk
          obtain rfl : k = j := by omega
          rw [hp] at h2
          injection h2 with h2
          subst h2
          exact he h5.symm
    · rw [if_neg hb, ih]
      constructor
      · rintro ⟨k, q, h1, h2⟩; exact ⟨k, q, by omega, h2⟩
      · rintro ⟨k, q, h1, h2, h3, h4, h5⟩
        refine ⟨k, q, ?_, h2, h3, h4, h5⟩
        apply Classical.byContradiction
        intro hk
        obtain rfl : k = j := by omega
        rw [hp] at h2
        injection h2 with h2
        subst h2
        exact hb (by rw [Bool.and_eq_true, getD_true]; exact ⟨h3, h4⟩)
theorem nextN_of (ps : List PtP) (a : List Bool) (r : Int) (i : Nat) : (nextN ps a r ps.length)[i]? = some true ↔ nextOf ps a r i := by
  rw [nextN_iff ps a r i ps.length (Nat.le_refl _)]
  unfold nextOf
  constructor
  · rintro ⟨k, p, _, h⟩; exact ⟨k, p, h⟩
  · rintro ⟨k, p, h⟩; exact ⟨k, p, (List.getElem?_eq_some_iff.1 h.1).1, h⟩
/-- The places behind a name's runes. -/
def runM (ps : List PtP) : List Bool → List Int → List Bool
  | a, [] => a
  | a, r :: l => runM ps (openN ps (nextN ps a r ps.length) ps.length) l
theorem runM_acc (ps : List PtP) : ∀ (l : List Int) (a : List Bool), closed ps a → ((runM ps a l)[ps.length]? = some true ↔ acc ps a l)
  | [], a, hc => by rw [runM, acc_end hc]
  | r :: l, a, hc => by
    rw [runM, runM_acc ps l _ (openN_closed ps _ (nextN_len ps a r ps.length)), openN_acc, acc_step hc (nextN_of ps a r)]
/-- Where a matching begins. -/
def start (n : Nat) : List Bool := (List.replicate (n + 1) false).set 0 true
theorem start_acc (ps : List PtP) (l : List Int) : acc ps (start ps.length) l ↔ mt ps l = true := by
  unfold start
  constructor
  · rintro ⟨i, h1, h2, h3⟩
    rw [List.getElem?_set] at h1
    split at h1
    · rename_i he
      subst he
      simpa using h3
    · rw [List.getElem?_replicate] at h1
      split at h1 <;> cases h1
  · intro h
    exact ⟨0, by rw [List.getElem?_set, if_pos rfl, if_pos (by simp)], Nat.zero_le _, by simpa using h⟩
theorem match_mt (ps : List PtP) (l : List Int) : (runM ps (openN ps (start ps.length) ps.length) l)[ps.length]?.getD false = mt ps l := by
  rw [Bool.eq_iff_iff, getD_true, runM_acc ps l _ (openN_closed ps _ (by unfold start; simp)), openN_acc, start_acc]
end Go.Proofs.YtbdehlphblbmoaaDoor
