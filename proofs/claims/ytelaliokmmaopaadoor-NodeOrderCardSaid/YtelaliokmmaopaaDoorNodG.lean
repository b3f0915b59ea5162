/- Where a key belongs, counted. No program in sight. -/
import Derived.Test.YtelaliokmmaopaaDoorNodF
namespace Go.Proofs.YtelaliokmmaopaaDoor
open Go.Lib (compareBytes)

/-- Does the document count this cell? -/
def cntC (lf : Bool) (key : List UInt8) (c : CellP) : Bool := ltL c.key key || (!lf && decide (c.key = key))
def cntB (lf : Bool) (key : List UInt8) (cs : List CellP) : Nat := (cs.filter (cntC lf key)).length
def anyK (key : List UInt8) (cs : List CellP) : Bool := cs.any (fun c => decide (c.key = key))
theorem cntB_app (lf : Bool) (key : List UInt8) (a b : List CellP) : cntB lf key (a ++ b) = cntB lf key a + cntB lf key b := by unfold cntB; simp
theorem anyK_app (key : List UInt8) (a b : List CellP) : anyK key (a ++ b) = (anyK key a || anyK key b) := by unfold anyK; simp
theorem cntB_one (lf : Bool) (key : List UInt8) (c : CellP) : cntB lf key [c] = if cntC lf key c then 1 else 0 := by unfold cntB; by_cases h : cntC lf key c <;> simp [h]
theorem anyK_one (key : List UInt8) (c : CellP) : anyK key [c] = decide (c.key = key) := by unfold anyK; simp
theorem cntB_le (lf : Bool) (key : List UInt8) (cs : List CellP) : cntB lf key cs ≤ cs.length := List.length_filter_le _ _
theorem fin_count {cs : List CellP} {key : List UInt8} {k : Nat} {is lf : Bool} (h : FindAt cs key k is) (hs : SortP cs) : ∀ j, j ≤ cs.length →
    cntB lf key (cs.take j) = (if j ≤ k then j else k + (if is && !lf then 1 else 0)) ∧ anyK key (cs.take j) = (decide (k < j) && is)
  | 0, _ => by simp [cntB, anyK]
  | j + 1, hj => by
    obtain ⟨ih1, ih2⟩ := fin_count (lf := lf) h hs j (by omega)
    have hc : cs[j]? = some cs[j] := List.getElem?_eq_getElem (by omega)
    rw [take_step hc, cntB_app, anyK_app, cntB_one, anyK_one, ih1, ih2]
    generalize cs[j] = c at *
    rcases Nat.lt_trichotomy j k with hlt | rfl | hgt
    · have hl := h.2.1 j c hlt hc
      have hne : c.key ≠ key := fun e => by rw [e, cmp_self] at hl; omega
      have h1 : cntC lf key c = true := by unfold cntC ltL; rw [decide_eq_true hl]; rfl
      rw [if_pos (show j ≤ k by omega), if_pos (show j + 1 ≤ k by omega), h1, decide_eq_false hne, decide_eq_false (show ¬ k < j by omega), decide_eq_false (show ¬ k < j + 1 by omega)]
      simp
    · have hl := h.2.2.1 j c (Nat.le_refl _) hc
      have h1 : ltL c.key key = false := by unfold ltL; rw [decide_eq_false_iff_not]; omega
      have h2 : decide (c.key = key) = is := by
        rw [Bool.eq_iff_iff, decide_eq_true_eq, h.2.2.2, hc]
        exact ⟨fun e => ⟨c, rfl, e⟩, fun ⟨d, e1, e2⟩ => by injection e1 with e1; rw [e1]; exact e2⟩
      rw [if_pos (show j ≤ j by omega), if_neg (show ¬ j + 1 ≤ j by omega), h2, decide_eq_false (Nat.lt_irrefl j), decide_eq_true (show j < j + 1 by omega)]
      unfold cntC
      rw [h1, h2]
      refine ⟨?_, by simp⟩
      cases lf <;> cases is <;> simp
    · have hl := h.2.2.1 j c (by omega) hc
      have hk : cs[k]? = some cs[k] := List.getElem?_eq_getElem (by omega)
      have hl2 := hs.lt (j - k - 1) k _ c hk (by rw [show k + (j - k - 1) + 1 = j by omega]; exact hc)
      have hne : c.key ≠ key := fun e => by
        rw [e] at hl2
        have := h.2.2.1 k _ (Nat.le_refl _) hk
        omega
      have h1 : ltL c.key key = false := by unfold ltL; rw [decide_eq_false_iff_not]; omega
      have h2 : cntC lf key c = false := by unfold cntC; rw [h1, decide_eq_false hne]; simp
      rw [h2, if_neg (show ¬ j ≤ k by omega), if_neg (show ¬ j + 1 ≤ k by omega), decide_eq_false hne, decide_eq_true (show k < j by omega), decide_eq_true (show k < j + 1 by omega)]
      simp
theorem fin_all {cs : List CellP} {key : List UInt8} {k : Nat} {is lf : Bool} (h : FindAt cs key k is) (hs : SortP cs) :
    (if is && !lf then (k : Int) + 1 else (k : Int)) = (cntB lf key cs : Int) ∧ is = anyK key cs := by
  obtain ⟨h1, h2⟩ := fin_count (lf := lf) h hs cs.length (Nat.le_refl _)
  rw [List.take_length] at h1 h2
  have hk := h.1
  by_cases hlt : k < cs.length
  · rw [if_neg (by omega)] at h1
    rw [decide_eq_true hlt, Bool.true_and] at h2
    rw [h1, h2]
    refine ⟨?_, rfl⟩
    split <;> simp
  · rw [if_pos (by omega)] at h1
    have hf : is = false := by
      cases is
      · rfl
      · obtain ⟨c, hc, _⟩ := h.2.2.2.1 rfl
        have := (List.getElem?_eq_some_iff.1 hc).1
        omega
    rw [h1, h2]
    subst hf
    simp
    omega
end Go.Proofs.YtelaliokmmaopaaDoor
