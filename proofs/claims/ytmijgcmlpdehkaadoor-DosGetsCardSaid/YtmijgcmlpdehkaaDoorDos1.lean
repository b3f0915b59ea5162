/- Contracts of package dos: days, in, Right, Put. -/
import Derived.Test.YtmijgcmlpdehkaaDoorFrame
import Derived.Test.YtmijgcmlpdehkaaDoorDosP
import Derived.Test.YtmijgcmlpdehkaaDoorRows
namespace Go.Proofs.YtmijgcmlpdehkaaDoor
open Go.RowKit

theorem in_true (n a b : Int) (w : World) (h1 : a ≤ n) (h2 : n ≤ b) : Calls Tryd.prog 19 #[.int .i64 n, .int .i64 a, .int .i64 b] w fun e w' => e = .returned (.bool true) ∧ w' = w := by
  go_enter Tryd.func19, Tryd.ntmps19
  go_wp2
  go_ret
  exact ⟨ret_bool (by simp), rfl⟩
theorem in_false (n a b : Int) (w : World) (h : n < a ∨ a ≤ n ∧ b < n) : Calls Tryd.prog 19 #[.int .i64 n, .int .i64 a, .int .i64 b] w fun e w' => e = .returned (.bool false) ∧ w' = w := by
  rcases h with h | ⟨h1, h2⟩
  · go_enter Tryd.func19, Tryd.ntmps19
    go_wp2
    go_ret
    exact ⟨ret_bool (by simp), rfl⟩
  · go_enter Tryd.func19, Tryd.ntmps19
    go_wp2
    go_ret
    exact ⟨ret_bool (by simp; omega), rfl⟩
theorem days_any (y m : Int) (w : World) (h0 : 0 ≤ y) (h1 : y ≤ 10000) (hm : 1 ≤ m ∧ m ≤ 12) : Calls Tryd.prog 20 #[.int .i64 y, .int .i64 m] w fun e w' => e = .returned (.int .i64 (mdays y m)) ∧ w' = w := by
  have hd : mdays y m = if m = 2 then (if y % 4 = 0 ∧ (y % 100 ≠ 0 ∨ y % 400 = 0) then 29 else 28) else if m = 4 ∨ m = 6 ∨ m = 9 ∨ m = 11 then 30 else 31 := rfl
  have Hd := Lib.hid hd
  clear hd
  by_cases h2 : m = 2
  · subst h2
    by_cases a4 : y % 4 = 0
    · have b4 : (y % 4 == 0) = true := by simp [a4]
      by_cases a100 : y % 100 = 0
      · have b100 : (y % 100 != 0) = false := by simp [a100]
        by_cases a400 : y % 400 = 0
        · have b400 : (y % 400 == 0) = true := by simp [a400]
          have H1 := Lib.hid a4; have H2 := Lib.hid a100; have H3 := Lib.hid a400
          clear a4 a100 a400
          go_enter Tryd.func20, Tryd.ntmps20
          go_wp2
          go_ret
          exact ⟨ret_int (by rw [Hd.out]; have := H1.out; have := H2.out; have := H3.out; simp [*]), rfl⟩
        · have b400 : (y % 400 == 0) = false := by simp [a400]
          have H1 := Lib.hid a4; have H2 := Lib.hid a100; have H3 := Lib.hid a400
          clear a4 a100 a400
          go_enter Tryd.func20, Tryd.ntmps20
          go_wp2
          go_ret
          exact ⟨ret_int (by rw [Hd.out]; have := H1.out; have := H2.out; have := H3.out; simp [*]), rfl⟩
      · have b100 : (y % 100 != 0) = true := by simp [a100]
        have H1 := Lib.hid a4; have H2 := Lib.hid a100
        clear a4 a100
        go_enter Tryd.func20, Tryd.ntmps20
        go_wp2
        go_ret
        exact ⟨ret_int (by rw [Hd.out]; have := H1.out; have := H2.out; simp [*]), rfl⟩
    · have b4 : (y % 4 == 0) = false := by simp [a4]
      have H1 := Lib.hid a4
      clear a4
      go_enter Tryd.func20, Tryd.ntmps20
      go_wp2
      go_ret
      exact ⟨ret_int (by rw [Hd.out]; have := H1.out; simp [*]), rfl⟩
  · have cases12 : m = 1 ∨ m = 3 ∨ m = 4 ∨ m = 5 ∨ m = 6 ∨ m = 7 ∨ m = 8 ∨ m = 9 ∨ m = 10 ∨ m = 11 ∨ m = 12 := by omega
    clear h2
    rcases cases12 with rfl | rfl | rfl | rfl | rfl | rfl | rfl | rfl | rfl | rfl | rfl
    all_goals
      go_enter Tryd.func20, Tryd.ntmps20
      go_wp2
      go_ret
      exact ⟨ret_int (by rw [Hd.out]; simp), rfl⟩
/-- A moment as a value. -/
def momC (y m d h i s : Int) : Array Value := #[.int .i64 y, .int .i64 m, .int .i64 d, .int .i64 h, .int .i64 i, .int .i64 s]

set_option maxHeartbeats 1000000 in
theorem right_yes (y m d h i s : Int) (w : World) (hr : Right6 y m d h i s) :
    Calls Tryd.prog 16 #[.agg #[.int .i64 y, .int .i64 m, .int .i64 d, .int .i64 h, .int .i64 i, .int .i64 s]] w fun e w' => e = .returned (.bool true) ∧ Below w.heap.size w w' := by
  obtain ⟨⟨a1, a2⟩, ⟨b1, b2⟩, ⟨c1, c2⟩, ⟨d1, d2⟩, ⟨e1, e2⟩, ⟨f1, f2⟩⟩ := hr
  go_enter Tryd.func16, Tryd.ntmps16
  go_wp2_with fail
  go_quiet ((first
    | (go_at_call 19; refine Calls.quiet_of_same (in_true _ _ _ _ ?_ ?_) <;> omega)
    | (go_at_call 19; refine Calls.quiet_of_same (in_false _ _ _ _ ?_) <;> omega)
    | (go_at_call 20; refine Calls.quiet_of_same (days_any _ _ _ ?_ ?_ ⟨?_, ?_⟩) <;> omega)))
  go_wp2
  go_ret
  exact ⟨rfl, below_drewN ((Below.refl _ _).alloc (Nat.le_refl _) _) _⟩

set_option maxHeartbeats 4000000 in
theorem right_no (y m d h i s : Int) (w : World) (hr : ¬ Right6 y m d h i s) :
    Calls Tryd.prog 16 #[.agg #[.int .i64 y, .int .i64 m, .int .i64 d, .int .i64 h, .int .i64 i, .int .i64 s]] w fun e w' => e = .returned (.bool false) ∧ Below w.heap.size w w' := by
  have hk : (y < 1980 ∨ 2107 < y) ∨ ((1980 ≤ y ∧ y ≤ 2107) ∧ (m < 1 ∨ 12 < m)) ∨ ((1980 ≤ y ∧ y ≤ 2107) ∧ (1 ≤ m ∧ m ≤ 12) ∧ (d < 1 ∨ mdays y m < d)) ∨
      ((1980 ≤ y ∧ y ≤ 2107) ∧ (1 ≤ m ∧ m ≤ 12) ∧ (1 ≤ d ∧ d ≤ mdays y m) ∧ (h < 0 ∨ 23 < h)) ∨
      ((1980 ≤ y ∧ y ≤ 2107) ∧ (1 ≤ m ∧ m ≤ 12) ∧ (1 ≤ d ∧ d ≤ mdays y m) ∧ (0 ≤ h ∧ h ≤ 23) ∧ (i < 0 ∨ 59 < i)) ∨
      ((1980 ≤ y ∧ y ≤ 2107) ∧ (1 ≤ m ∧ m ≤ 12) ∧ (1 ≤ d ∧ d ≤ mdays y m) ∧ (0 ≤ h ∧ h ≤ 23) ∧ (0 ≤ i ∧ i ≤ 59) ∧ (s < 0 ∨ 59 < s)) := by
    unfold Right6 at hr
    omega
  clear hr
  have hmd := mdays_bd y m
  rcases hk with h1 | h1 | h1 | h1 | h1 | h1
  all_goals
    go_enter Tryd.func16, Tryd.ntmps16
    go_wp2_with fail
    go_quiet ((first
      | (go_at_call 19; refine Calls.quiet_of_same (in_true _ _ _ _ ?_ ?_) <;> omega)
      | (go_at_call 19; refine Calls.quiet_of_same (in_false _ _ _ _ ?_) <;> omega)
      | (go_at_call 20; refine Calls.quiet_of_same (days_any _ _ _ ?_ ?_ ⟨?_, ?_⟩) <;> omega)))
    go_wp2
    go_ret
    exact ⟨rfl, below_drewN ((Below.refl _ _).alloc (Nat.le_refl _) _) _⟩

end Go.Proofs.YtmijgcmlpdehkaaDoor
