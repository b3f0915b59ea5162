/- Contracts of dos.Get, and of the reference's days, Number. -/
import Derived.Test.YtmijgcmlpdehkaaDoorDos3
import Derived.Deep.RegionHeld3
import Derived.Deep.DrawnRows
namespace Go.Proofs.YtmijgcmlpdehkaaDoor
open Go.RowKit
attribute [local go_sem ↓] Go.wp_at_zero Go.wp_at_succ

set_option maxHeartbeats 2000000 in
theorem refdays_any (y m : Int) (w : World) (h0 : 0 ≤ y) (h1 : y ≤ 10000) (hm : 1 ≤ m ∧ m ≤ 12) : Calls Tryd.prog 14 #[.int .i64 y, .int .i64 m] w fun e w' => e = .returned (.int .i64 (mdays y m)) ∧ Below w.heap.size w w' := by
  have hd : mdays y m = if m = 2 then (if y % 4 = 0 ∧ (y % 100 ≠ 0 ∨ y % 400 = 0) then 29 else 28) else if m = 4 ∨ m = 6 ∨ m = 9 ∨ m = 11 then 30 else 31 := rfl
  have Hd := Lib.hid hd
  clear hd
  by_cases h2 : m = 2
  · subst h2
    have hk : (y % 400 = 0) ∨ (¬ y % 400 = 0 ∧ y % 4 = 0 ∧ y % 100 ≠ 0) ∨ (¬ y % 400 = 0 ∧ y % 4 = 0 ∧ y % 100 = 0) ∨ (¬ y % 400 = 0 ∧ ¬ y % 4 = 0) := by omega
    rcases hk with a | ⟨a, b, c⟩ | ⟨a, b, c⟩ | ⟨a, b⟩
    · have a' : (y % 400 == 0) = true := by simp [a]
      have HA := Lib.hid a
      clear a
      go_enter Tryd.func14, Tryd.ntmps14
      go_wp2
      go_ret
      exact ⟨ret_int (by rw [Hd.out]; have := HA.out; rw [if_pos trivial, if_pos (by omega)]), (Below.refl _ _).alloc (Nat.le_refl _) _⟩
    · have a' : (y % 400 == 0) = false := by simp [a]
      have b' : (y % 4 == 0) = true := by simp [b]
      have c' : (y % 100 != 0) = true := by simp [c]
      have HA := Lib.hid a; have HB := Lib.hid b; have HC := Lib.hid c
      clear a b c
      go_enter Tryd.func14, Tryd.ntmps14
      go_wp2
      go_ret
      exact ⟨ret_int (by rw [Hd.out]; have := HB.out; have := HC.out; rw [if_pos trivial, if_pos (by omega)]), (Below.refl _ _).alloc (Nat.le_refl _) _⟩
    · have a' : (y % 400 == 0) = false := by simp [a]
      have b' : (y % 4 == 0) = true := by simp [b]
      have c' : (y % 100 != 0) = false := by simp [c]
      have HA := Lib.hid a; have HB := Lib.hid b; have HC := Lib.hid c
      clear a b c
      go_enter Tryd.func14, Tryd.ntmps14
      go_wp2
      go_ret
      exact ⟨ret_int (by rw [Hd.out]; have := HA.out; have := HC.out; rw [if_pos trivial, if_neg (by omega)]), (Below.refl _ _).alloc (Nat.le_refl _) _⟩
    · have a' : (y % 400 == 0) = false := by simp [a]
      have b' : (y % 4 == 0) = false := by simp [b]
      have HA := Lib.hid a; have HB := Lib.hid b
      clear a b
      go_enter Tryd.func14, Tryd.ntmps14
      go_wp2
      go_ret
      exact ⟨ret_int (by rw [Hd.out]; have := HA.out; have := HB.out; rw [if_pos trivial, if_neg (by omega)]), (Below.refl _ _).alloc (Nat.le_refl _) _⟩
  · have cases12 : m = 1 ∨ m = 3 ∨ m = 4 ∨ m = 5 ∨ m = 6 ∨ m = 7 ∨ m = 8 ∨ m = 9 ∨ m = 10 ∨ m = 11 ∨ m = 12 := by omega
    clear h2
    rcases cases12 with rfl | rfl | rfl | rfl | rfl | rfl | rfl | rfl | rfl | rfl | rfl
    all_goals
      go_enter Tryd.func14, Tryd.ntmps14
      go_wp2
      go_ret
      exact ⟨ret_int (by rw [Hd.out]; simp), (Below.refl _ _).alloc (Nat.le_refl _) _⟩

/-- The slice reads as six numbers. -/
def Six (w : World) (g : Nat) (y m d h i s : Int) : Prop := w.cell? ⟨g, 0, none⟩ = some (.int .i64 y) ∧ w.cell? ⟨g, 1, none⟩ = some (.int .i64 m) ∧ w.cell? ⟨g, 2, none⟩ = some (.int .i64 d) ∧ w.cell? ⟨g, 3, none⟩ = some (.int .i64 h) ∧ w.cell? ⟨g, 4, none⟩ = some (.int .i64 i) ∧ w.cell? ⟨g, 5, none⟩ = some (.int .i64 s)
theorem Six.below {w w' : World} {g : Nat} {y m d h i s : Int} (hs : Six w g y m d h i s) {B : Nat} (hb : Below B w w') (hg : g < B) : Six w' g y m d h i s :=
  ⟨(hb.cell hg).trans hs.1, (hb.cell hg).trans hs.2.1, (hb.cell hg).trans hs.2.2.1, (hb.cell hg).trans hs.2.2.2.1, (hb.cell hg).trans hs.2.2.2.2.1, (hb.cell hg).trans hs.2.2.2.2.2⟩
end Go.Proofs.YtmijgcmlpdehkaaDoor
