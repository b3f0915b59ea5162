/- Plain facts: the reference's way to read a moment's text. No program in sight. -/
import Derived.Test.YtmijgcmlpdehkaaDoorDosQ
namespace Go.Proofs.YtmijgcmlpdehkaaDoor

theorem numD_dig (t : List UInt8) (a m : Nat) (h : 0 ≤ numD t a m) : ∀ i, i < m → digB t (a + i) = true := by
  intro i hi
  cases hd : digB t (a + i) with
  | true => rfl
  | false => rw [numD_no t a m i hi hd] at h; omega
theorem okB_of_dig (t : List UInt8) (i : Nat) (hf : formN i = 100) (h : digB t i = true) : okB t i = true := by unfold okB; rw [if_pos hf]; exact h
theorem okB_of_sep (t : List UInt8) (i c : Nat) (hf : formN i = c) (hc : c ≠ 100) (h : chr t i = c) : okB t i = true := by
  unfold okB; rw [if_neg (by rw [hf]; exact hc), hf]; simp [h]
theorem sep_of_okB (t : List UInt8) (i c : Nat) (hf : formN i = c) (hc : c ≠ 100) (h : okB t i = true) : chr t i = c := by
  unfold okB at h; rw [if_neg (by rw [hf]; exact hc), hf] at h; simpa using h
theorem numD_fld (t : List UInt8) (n a m : Nat) (h : okTo t n = true) (hn : a + m ≤ n) (hf : ∀ i, i < m → formN (a + i) = 100) : numD t a m = valF t a m :=
  numD_yes t a m fun i hi => okB_dig t _ (okTo_at t n h _ (by omega)) (hf i hi)
theorem form4 : ∀ i, i < 4 → formN (0 + i) = 100 := by decide
theorem form5 : ∀ i, i < 2 → formN (5 + i) = 100 := by decide
theorem form8 : ∀ i, i < 2 → formN (8 + i) = 100 := by decide
theorem form11 : ∀ i, i < 2 → formN (11 + i) = 100 := by decide
theorem form14 : ∀ i, i < 2 → formN (14 + i) = 100 := by decide
theorem form17 : ∀ i, i < 2 → formN (17 + i) = 100 := by decide
theorem fld10 (t : List UInt8) : fld t 10 0 = valF t 0 4 ∧ fld t 10 1 = valF t 5 2 ∧ fld t 10 2 = valF t 8 2 ∧ fld t 10 3 = 0 ∧ fld t 10 4 = 0 ∧ fld t 10 5 = 0 := ⟨rfl, rfl, rfl, rfl, rfl, rfl⟩
theorem fld19 (t : List UInt8) : fld t 19 0 = valF t 0 4 ∧ fld t 19 1 = valF t 5 2 ∧ fld t 19 2 = valF t 8 2 ∧ fld t 19 3 = valF t 11 2 ∧ fld t 19 4 = valF t 14 2 ∧ fld t 19 5 = valF t 17 2 := ⟨rfl, rfl, rfl, rfl, rfl, rfl⟩
theorem mom_len (t : List UInt8) (h : ¬ (t.length = 10 ∨ t.length = 19)) : ¬ MomT t := fun ⟨h1, _⟩ => h h1
theorem mom_sep (t : List UInt8) (i c : Nat) (hi : i < t.length) (hf : formN i = c) (hc : c ≠ 100) (h : chr t i ≠ c) : ¬ MomT t := fun ⟨_, h2, _⟩ => h (sep_of_okB t i c hf hc (okTo_at t _ h2 i hi))
theorem mom10 (t : List UInt8) (hl : t.length = 10) (h4 : chr t 4 = 45) (h7 : chr t 7 = 45) :
    (MomT t ↔ Right6 (numD t 0 4) (numD t 5 2) (numD t 8 2) 0 0 0) ∧ (MomT t → momN t = dosN (numD t 0 4) (numD t 5 2) (numD t 8 2) 0 0 0) := by
  obtain ⟨f0, f1, f2, f3, f4, f5⟩ := fld10 t
  have eqs : okTo t 10 = true → numD t 0 4 = valF t 0 4 ∧ numD t 5 2 = valF t 5 2 ∧ numD t 8 2 = valF t 8 2 := fun h =>
    ⟨numD_fld t 10 0 4 h (by omega) form4, numD_fld t 10 5 2 h (by omega) form5, numD_fld t 10 8 2 h (by omega) form8⟩
  refine ⟨⟨fun ⟨_, h2, h3⟩ => ?_, fun h => ?_⟩, fun ⟨_, h2, _⟩ => ?_⟩
  · rw [hl] at h2 h3
    obtain ⟨e0, e1, e2⟩ := eqs h2
    rw [f0, f1, f2, f3, f4, f5] at h3
    rw [e0, e1, e2]; exact h3
  · have hr := h
    obtain ⟨⟨a1, _⟩, ⟨b1, _⟩, ⟨c1, _⟩, _⟩ := hr
    have d0 := numD_dig t 0 4 (by omega)
    have d1 := numD_dig t 5 2 (by omega)
    have d2 := numD_dig t 8 2 (by omega)
    have ok : okTo t 10 = true := okTo_mk t 10 fun i hi => by
      have : i = 0 ∨ i = 1 ∨ i = 2 ∨ i = 3 ∨ i = 4 ∨ i = 5 ∨ i = 6 ∨ i = 7 ∨ i = 8 ∨ i = 9 := by omega
      rcases this with rfl | rfl | rfl | rfl | rfl | rfl | rfl | rfl | rfl | rfl
      · exact okB_of_dig t 0 rfl (d0 0 (by omega))
      · exact okB_of_dig t 1 rfl (d0 1 (by omega))
      · exact okB_of_dig t 2 rfl (d0 2 (by omega))
      · exact okB_of_dig t 3 rfl (d0 3 (by omega))
      · exact okB_of_sep t 4 45 rfl (by decide) h4
      · exact okB_of_dig t 5 rfl (d1 0 (by omega))
      · exact okB_of_dig t 6 rfl (d1 1 (by omega))
      · exact okB_of_sep t 7 45 rfl (by decide) h7
      · exact okB_of_dig t 8 rfl (d2 0 (by omega))
      · exact okB_of_dig t 9 rfl (d2 1 (by omega))
    obtain ⟨e0, e1, e2⟩ := eqs ok
    refine ⟨.inl hl, by rw [hl]; exact ok, ?_⟩
    rw [hl, f0, f1, f2, f3, f4, f5, ← e0, ← e1, ← e2]
    exact h
  · rw [hl] at h2
    obtain ⟨e0, e1, e2⟩ := eqs h2
    unfold momN
    rw [hl, f0, f1, f2, f3, f4, f5, e0, e1, e2]
theorem mom19 (t : List UInt8) (hl : t.length = 19) (h4 : chr t 4 = 45) (h7 : chr t 7 = 45) (h10 : chr t 10 = 32) (h13 : chr t 13 = 58) (h16 : chr t 16 = 58) :
    (MomT t ↔ Right6 (numD t 0 4) (numD t 5 2) (numD t 8 2) (numD t 11 2) (numD t 14 2) (numD t 17 2)) ∧ (MomT t → momN t = dosN (numD t 0 4) (numD t 5 2) (numD t 8 2) (numD t 11 2) (numD t 14 2) (numD t 17 2)) := by
  obtain ⟨f0, f1, f2, f3, f4, f5⟩ := fld19 t
  have eqs : okTo t 19 = true → numD t 0 4 = valF t 0 4 ∧ numD t 5 2 = valF t 5 2 ∧ numD t 8 2 = valF t 8 2 ∧ numD t 11 2 = valF t 11 2 ∧ numD t 14 2 = valF t 14 2 ∧ numD t 17 2 = valF t 17 2 := fun h =>
    ⟨numD_fld t 19 0 4 h (by omega) form4, numD_fld t 19 5 2 h (by omega) form5, numD_fld t 19 8 2 h (by omega) form8, numD_fld t 19 11 2 h (by omega) form11, numD_fld t 19 14 2 h (by omega) form14, numD_fld t 19 17 2 h (by omega) form17⟩
  refine ⟨⟨fun ⟨_, h2, h3⟩ => ?_, fun h => ?_⟩, fun ⟨_, h2, _⟩ => ?_⟩
  · rw [hl] at h2 h3
    obtain ⟨e0, e1, e2, e3, e4, e5⟩ := eqs h2
    rw [f0, f1, f2, f3, f4, f5] at h3
    rw [e0, e1, e2, e3, e4, e5]; exact h3
  · have hr := h
    obtain ⟨⟨a1, _⟩, ⟨b1, _⟩, ⟨c1, _⟩, ⟨g1, _⟩, ⟨i1, _⟩, ⟨j1, _⟩⟩ := hr
    have d0 := numD_dig t 0 4 (by omega)
    have d1 := numD_dig t 5 2 (by omega)
    have d2 := numD_dig t 8 2 (by omega)
    have d3 := numD_dig t 11 2 (by omega)
    have d4 := numD_dig t 14 2 (by omega)
    have d5 := numD_dig t 17 2 (by omega)
    have ok : okTo t 19 = true := okTo_mk t 19 fun i hi => by
      have : i = 0 ∨ i = 1 ∨ i = 2 ∨ i = 3 ∨ i = 4 ∨ i = 5 ∨ i = 6 ∨ i = 7 ∨ i = 8 ∨ i = 9 ∨ i = 10 ∨ i = 11 ∨ i = 12 ∨ i = 13 ∨ i = 14 ∨ i = 15 ∨ i = 16 ∨ i = 17 ∨ i = 18 := by omega
      rcases this with rfl | rfl | rfl | rfl | rfl | rfl | rfl | rfl | rfl | rfl | rfl | rfl | rfl | rfl | rfl | rfl | rfl | rfl | rfl
      · exact okB_of_dig t 0 rfl (d0 0 (by omega))
      · exact okB_of_dig t 1 rfl (d0 1 (by omega))
      · exact okB_of_dig t 2 rfl (d0 2 (by omega))
      · exact okB_of_dig t 3 rfl (d0 3 (by omega))
      · exact okB_of_sep t 4 45 rfl (by decide) h4
      · exact okB_of_dig t 5 rfl (d1 0 (by omega))
      · exact okB_of_dig t 6 rfl (d1 1 (by omega))
      · exact okB_of_sep t 7 45 rfl (by decide) h7
      · exact okB_of_dig t 8 rfl (d2 0 (by omega))
      · exact okB_of_dig t 9 rfl (d2 1 (by omega))
      · exact okB_of_sep t 10 32 rfl (by decide) h10
      · exact okB_of_dig t 11 rfl (d3 0 (by omega))
      · exact okB_of_dig t 12 rfl (d3 1 (by omega))
      · exact okB_of_sep t 13 58 rfl (by decide) h13
      · exact okB_of_dig t 14 rfl (d4 0 (by omega))
      · exact okB_of_dig t 15 rfl (d4 1 (by omega))
      · exact okB_of_sep t 16 58 rfl (by decide) h16
      · exact okB_of_dig t 17 rfl (d5 0 (by omega))
      · exact okB_of_dig t 18 rfl (d5 1 (by omega))
    obtain ⟨e0, e1, e2, e3, e4, e5⟩ := eqs ok
    refine ⟨.inr hl, by rw [hl]; exact ok, ?_⟩
    rw [hl, f0, f1, f2, f3, f4, f5, ← e0, ← e1, ← e2, ← e3, ← e4, ← e5]
    exact h
  · rw [hl] at h2
    obtain ⟨e0, e1, e2, e3, e4, e5⟩ := eqs h2
    unfold momN
    rw [hl, f0, f1, f2, f3, f4, f5, e0, e1, e2, e3, e4, e5]
end Go.Proofs.YtmijgcmlpdehkaaDoor
