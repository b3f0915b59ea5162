/- GlobMatches: both readings of a pattern. -/
import Derived.Test.YtbdehlphblbmoaaDoorGlbAj
namespace Go.Proofs.YtbdehlphblbmoaaDoor
open Go.RowKit
attribute [local go_sem ↓] Go.wp_at_zero Go.wp_at_succ

/-- Why a text is no pattern. -/
def badE (s : ByteArray) : Int := if 100 < s.size then 10 else if Lib.validD s.data.toList = false ∨ newR s.size [] (rnB s) = none then 4 else 0
theorem new_bad (s : ByteArray) (w : World) (hs : s.size ≤ 1000000) (hE : badE s ≠ 0) (hT : UT w) :
    Calls Tryd.prog 10 #[.string s] w fun e w' => e = .returned (.tuple #[.pointer none, .int .i64 (badE s)]) ∧ Below w.heap.size w w' := by
  refine (new_any s w hs hT).mono ?_
  rintro e w' ⟨hb, ⟨h1, h2⟩ | ⟨h1, h2, h3⟩ | ⟨h1, h2, g, ps, h3, _⟩⟩
  · refine ⟨?_, hb⟩
    rw [h2]; unfold badE; rw [if_pos h1]
  · refine ⟨?_, hb⟩
    rw [h3]; unfold badE; rw [if_neg (by omega), if_pos h2]
  · exfalso; apply hE
    unfold badE
    rw [if_neg (by omega), if_neg (by rw [h2, h3]; simp)]
theorem dnew_bad (s : ByteArray) (w : World) (hs : s.size ≤ 1000000) (hE : badE s ≠ 0) :
    Calls Tryd.prog 12 #[.string s] w fun e w' => e = .returned (.agg #[.slice none 0 0, .int .i64 (badE s)]) ∧ Below w.heap.size w w' := by
  refine (dnew_any s w hs).mono ?_
  rintro e w' ⟨hb, ⟨h1, h2⟩ | ⟨h1, h2, h3⟩ | ⟨h1, h2, A, c, ps, h3, _⟩⟩
  · refine ⟨?_, hb⟩
    rw [h2]; unfold badE; rw [if_pos h1]
  · refine ⟨?_, hb⟩
    rw [h3]; unfold badE; rw [if_neg (by omega), if_pos h2]
  · exfalso; apply hE
    unfold badE
    rw [if_neg (by omega), if_neg (by rw [h2, h3]; simp)]
theorem good_of {s : ByteArray} (hE : badE s = 0) : s.size ≤ 100 ∧ Lib.validD s.data.toList = true ∧ ∃ ps, newR s.size [] (rnB s) = some ps := by
  unfold badE at hE
  by_cases h1 : 100 < s.size
  · rw [if_pos h1] at hE; omega
  · rw [if_neg h1] at hE
    by_cases h2 : Lib.validD s.data.toList = false ∨ newR s.size [] (rnB s) = none
    · rw [if_pos h2] at hE; omega
    · refine ⟨by omega, ?_, ?_⟩
      · by_cases h : Lib.validD s.data.toList = true
        · exact h
        · exact absurd (.inl (by simpa using h)) h2
      · cases h : newR s.size [] (rnB s) with
        | none => exact absurd (.inr h) h2
        | some ps => exact ⟨ps, rfl⟩
theorem dnew_good (s : ByteArray) (ps : List PtP) (w : World) (hE : badE s = 0) (hp : newR s.size [] (rnB s) = some ps) :
    Calls Tryd.prog 12 #[.string s] w fun e w' => ∃ A c, e = .returned (.agg #[.slice A ps.length c, .int .i64 0]) ∧ RdPs w' w'.heap.size A ps ∧ ps.length ≤ 100 ∧ ps.length ≤ c ∧ Below w.heap.size w w' := by
  obtain ⟨g1, g2, _⟩ := good_of hE
  refine (dnew_any s w (by omega)).mono ?_
  rintro e w' ⟨hb, ⟨h1, h2⟩ | ⟨h1, h2, h3⟩ | ⟨h1, h2, A, c, ps', h3, h4, h5, h6, h7⟩⟩
  · omega
  · rw [g2, hp] at h2; simp at h2
  · rw [hp] at h3
    injection h3 with h3
    subst h3
    exact ⟨A, c, h4, h5, h6, h7, hb⟩
end Go.Proofs.YtbdehlphblbmoaaDoor
