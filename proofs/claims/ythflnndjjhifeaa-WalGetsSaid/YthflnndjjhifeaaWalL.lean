/- The walk of WalSizes, and of the example that all laws of layer 16 begin with. -/
import Derived.Test.YthflnndjjhifeaaWal4
namespace Go.Proofs.Ythflnndjjhifeaa
open Go.RowKit

theorem we_empty : WE (walB []) = (0, []) ∧ (walB []).length = 12 ∧ walOk [] = true := by decide +kernel
theorem we_bad : WE [105, 113, 106, 50] = (4, []) := by decide +kernel
theorem walwakes_any (w : World) : Calls Try.prog 28 #[] w fun e w' => e = .returned (.bool true) ∧ Below w.heap.size w w' := by
  obtain ⟨h1, h2, h3⟩ := we_empty
  have H1 := Lib.hid h1
  have H2 := Lib.hid h2
  have H3 := Lib.hid h3
  have H4 := Lib.hid we_bad
  have kc := fun (w : World) (C : Array Value) (n c : Nat) => Lib.run_convert_bytes_const (P := Try.prog) w 22 5 C n c Try.underlying22 Try.underlying5
  clear h1 h2 h3
  go_enter Try.func28, Try.ntmps28
  go_wp2_with fail
  refine (wput_any none 0 0 [] w ⟨rfl, fun h => by omega⟩).mono ?_
  rintro e w1 ⟨hp, hb1⟩
  have hp2 : ∃ A c, e = .returned (.tuple #[.slice A 12 c, .int .i64 0]) ∧ 12 ≤ c ∧ Rd w1 w1.heap.size 1 A 12 (bys (walB [])) := by
    rcases hp with ⟨_, v, rfl, hown⟩ | ⟨h, _⟩
    · rw [H2.out] at hown
      obtain ⟨A, c, rfl, hc, _⟩ := own_form hown
      exact ⟨A, c, rfl, hc, Rd.of_own hown⟩
    · rw [H3.out] at h; cases h
  obtain ⟨A, c, rfl, hc, hr⟩ := hp2
  clear hp
  go_wp2_with fail
  refine (wget_any A 12 c _ w1 hr hc (by omega)).mono ?_
  rintro e w2 ⟨hg, hb2⟩
  have hbe2 := hb1.trans (hb2.mono hb1.size)
  have hg2 : ∃ A' n' c', e = .returned (.tuple #[.slice A' n' c', .int .i64 0]) := by
    rcases hg with ⟨h, _⟩ | ⟨_, A', n', c', rfl, _, _⟩
    · rw [H1.out] at h; exact absurd rfl h
    · exact ⟨A', n', c', rfl⟩
  obtain ⟨A', n', c', rfl⟩ := hg2
  clear hg hb1 hb2 hr
  go_wp2_with fail
  refine (wget_any _ 4 4 [105, 113, 106, 50] _ ((Rd.lits w2 5 #[.int .u8 105, .int .u8 113, .int .u8 106, .int .u8 50] rfl (fr := (4, 5))).more (Nat.le_of_eq (asz1 _ _).symm)) (by omega) (by omega)).mono ?_
  rintro e w3 ⟨hg, hb3⟩
  have hbe3 : Below w.heap.size w w3 := (hbe2.alloc hbe2.size _).trans (hb3.mono (by have := hbe2.size; rw [asz1]; omega))
  obtain rfl : e = .returned (.tuple #[.slice none 0 0, .int .i64 4]) := by
    rcases hg with ⟨_, rfl⟩ | ⟨h, _⟩
    · rw [H4.out]; rfl
    · rw [H4.out] at h; cases h
  clear hg
  go_wp2
  go_ret
  exact ⟨rfl, hbe3⟩
theorem walSizes_walk (n : Int) (w : World) (hn : -9223372036854775808 ≤ n ∧ n ≤ 9223372036854775807) :
    Calls Try.prog 13 #[.int .i64 n] w fun e w' => e = .returned (.bool true) ∧ Below w.heap.size w w' := by
  have hk : n < 0 ∨ (0 ≤ n ∧ 4096 < n) ∨ (0 ≤ n ∧ n ≤ 4096) := by omega
  rcases hk with h | ⟨h, h2⟩ | ⟨h, h2⟩
  · have hs : wsz n = 0 := by unfold wsz; rw [if_pos (by omega)]
    have Hs := Lib.hid hs
    clear hs
    go_enter Try.func13, Try.ntmps13
    go_wp2_with fail
    refine (walwakes_any w).mono ?_
    rintro e w1 ⟨rfl, hb1⟩
    go_wp2_with fail
    refine (wsize_any n w1).mono ?_
    rintro e w2 ⟨rfl, rfl⟩
    rw [Hs.out]
    go_wp2
    go_ret
    exact ⟨rfl, hb1⟩
  · have hs : wsz n = 0 := by unfold wsz; rw [if_pos (by omega)]
    have Hs := Lib.hid hs
    clear hs
    go_enter Try.func13, Try.ntmps13
    go_wp2_with fail
    refine (walwakes_any w).mono ?_
    rintro e w1 ⟨rfl, hb1⟩
    go_wp2_with fail
    refine (wsize_any n w1).mono ?_
    rintro e w2 ⟨rfl, rfl⟩
    rw [Hs.out]
    go_wp2
    go_ret
    exact ⟨rfl, hb1⟩
  · have hs : wsz n = 12 + 516 * n := by unfold wsz; rw [if_neg (by omega)]
    have Hs := Lib.hid hs
    clear hs
    go_enter Try.func13, Try.ntmps13
    go_wp2_with fail
    refine (walwakes_any w).mono ?_
    rintro e w1 ⟨rfl, hb1⟩
    go_wp2_with fail
    refine (wsize_any n w1).mono ?_
    rintro e w2 ⟨rfl, rfl⟩
    rw [Hs.out]
    go_wp2
    go_ret
    exact ⟨ret_bool (by simp), hb1⟩
end Go.Proofs.Ythflnndjjhifeaa
