/- Contracts of package vfs: a store that is not there. -/
import Derived.Test.YtknjopefbbldfaaDoorVfsG
namespace Go.Proofs.YtknjopefbbldfaaDoor
open Go.RowKit
attribute [local go_sem ↓] Go.wp_at_zero Go.wp_at_succ

set_option maxHeartbeats 1000000 in
theorem create_nil (s : ByteArray) (w : World) : Calls Tryd.prog 10 #[.pointer none, .string s] w fun e w' => e = .returned (.int .i64 2) ∧ w' = w := by
  have HA := Lib.hid (at_nil s w)
  go_enter Tryd.func10, Tryd.ntmps10
  go_wp2_with fail
  with_reducible refine HA.out.mono ?_
  rintro e w1 ⟨rfl, hw1⟩; subst hw1
  go_wp2_with fail
  go_ret
  exact ⟨rfl, by first | rfl | trivial⟩
set_option maxHeartbeats 1000000 in
theorem write_nil (s : ByteArray) (p : Int) (A : Option Addr) (n c : Nat) (w : World) : Calls Tryd.prog 11 #[.pointer none, .string s, .int .i64 p, .slice A n c] w fun e w' => e = .returned (.int .i64 2) ∧ w' = w := by
  have HA := Lib.hid (at_nil s w)
  go_enter Tryd.func11, Tryd.ntmps11
  go_wp2_with fail
  with_reducible refine HA.out.mono ?_
  rintro e w1 ⟨rfl, hw1⟩; subst hw1
  go_wp2_with fail
  go_ret
  exact ⟨rfl, by first | rfl | trivial⟩
set_option maxHeartbeats 1000000 in
theorem cut_nil (s : ByteArray) (p : Int) (w : World) : Calls Tryd.prog 22 #[.pointer none, .string s, .int .i64 p] w fun e w' => e = .returned (.int .i64 2) ∧ w' = w := by
  have HA := Lib.hid (at_nil s w)
  go_enter Tryd.func22, Tryd.ntmps22
  go_wp2_with fail
  with_reducible refine HA.out.mono ?_
  rintro e w1 ⟨rfl, hw1⟩; subst hw1
  go_wp2_with fail
  go_ret
  exact ⟨rfl, by first | rfl | trivial⟩
set_option maxHeartbeats 1000000 in
theorem rename_nil (s t : ByteArray) (w : World) : Calls Tryd.prog 19 #[.pointer none, .string s, .string t] w fun e w' => e = .returned (.int .i64 2) ∧ w' = w := by
  have HA := Lib.hid (at_nil s w)
  go_enter Tryd.func19, Tryd.ntmps19
  go_wp2_with fail
  with_reducible refine HA.out.mono ?_
  rintro e w1 ⟨rfl, hw1⟩; subst hw1
  go_wp2_with fail
  go_ret
  exact ⟨rfl, by first | rfl | trivial⟩
set_option maxHeartbeats 1000000 in
theorem delete_nil (s : ByteArray) (w : World) : Calls Tryd.prog 23 #[.pointer none, .string s] w fun e w' => e = .returned (.int .i64 2) ∧ w' = w := by
  have HA := Lib.hid (at_nil s w)
  go_enter Tryd.func23, Tryd.ntmps23
  go_wp2_with fail
  with_reducible refine HA.out.mono ?_
  rintro e w1 ⟨rfl, hw1⟩; subst hw1
  go_wp2_with fail
  go_ret
  exact ⟨rfl, by first | rfl | trivial⟩
set_option maxHeartbeats 1000000 in
theorem sync_nil (s : ByteArray) (w : World) : Calls Tryd.prog 16 #[.pointer none, .string s] w fun e w' => e = .returned (.int .i64 2) ∧ w' = w := by
  have HA := Lib.hid (at_nil s w)
  go_enter Tryd.func16, Tryd.ntmps16
  go_wp2_with fail
  with_reducible refine HA.out.mono ?_
  rintro e w1 ⟨rfl, hw1⟩; subst hw1
  go_wp2_with fail
  go_ret
  exact ⟨rfl, by first | rfl | trivial⟩
set_option maxHeartbeats 1000000 in
theorem read_nil (s : ByteArray) (p k : Int) (w : World) : Calls Tryd.prog 12 #[.pointer none, .string s, .int .i64 p, .int .i64 k] w fun e w' => e = .returned (.tuple #[.slice none 0 0, .int .i64 2]) ∧ w' = w := by
  have HA := Lib.hid (at_nil s w)
  go_enter Tryd.func12, Tryd.ntmps12
  go_wp2_with fail
  with_reducible refine HA.out.mono ?_
  rintro e w1 ⟨rfl, hw1⟩; subst hw1
  go_wp2_with fail
  go_ret2
  exact ⟨rfl, by first | rfl | trivial⟩
set_option maxHeartbeats 1000000 in
theorem len_nil (s : ByteArray) (w : World) : Calls Tryd.prog 14 #[.pointer none, .string s] w fun e w' => e = .returned (.tuple #[.int .i64 0, .bool false]) ∧ w' = w := by
  have HA := Lib.hid (at_nil s w)
  go_enter Tryd.func14, Tryd.ntmps14
  go_wp2_with fail
  with_reducible refine HA.out.mono ?_
  rintro e w1 ⟨rfl, hw1⟩; subst hw1
  go_wp2_with fail
  go_ret2
  exact ⟨rfl, by first | rfl | trivial⟩
set_option maxHeartbeats 1000000 in
theorem stamp_nil (s : ByteArray) (w : World) : Calls Tryd.prog 24 #[.pointer none, .string s] w fun e w' => e = .returned (.int .i64 0) ∧ w' = w := by
  have HA := Lib.hid (at_nil s w)
  go_enter Tryd.func24, Tryd.ntmps24
  go_wp2_with fail
  with_reducible refine HA.out.mono ?_
  rintro e w1 ⟨rfl, hw1⟩; subst hw1
  go_wp2_with fail
  go_ret
  exact ⟨rfl, by first | rfl | trivial⟩
set_option maxHeartbeats 1000000 in
theorem names_nil (s : ByteArray) (w : World) : Calls Tryd.prog 20 #[.pointer none, .string s] w fun e w' => e = .returned (.slice none 0 0) ∧ Below w.heap.size w w' := by
  go_enter Tryd.func20, Tryd.ntmps20
  go_wp2_with fail
  go_ret
  exact ⟨rfl, (Below.refl _ _).alloc (Nat.le_refl _) _⟩
set_option maxHeartbeats 1000000 in
theorem waits_nil (w : World) : Calls Tryd.prog 18 #[.pointer none] w fun e w' => e = .returned (.int .i64 0) ∧ w' = w := by
  go_enter Tryd.func18, Tryd.ntmps18
  go_wp2_with fail
  go_ret
  exact ⟨rfl, by first | rfl | trivial⟩
set_option maxHeartbeats 1000000 in
theorem fuse_nil (n : Int) (w : World) : Calls Tryd.prog 21 #[.pointer none, .int .i64 n] w fun e w' => e = .returned (.tuple #[]) ∧ w' = w := by
  go_enter Tryd.func21, Tryd.ntmps21
  go_wp2_with fail
  go_end0
  exact ⟨rfl, by first | rfl | trivial⟩
set_option maxHeartbeats 1000000 in
theorem down_nil (w : World) : Calls Tryd.prog 25 #[.pointer none] w fun e w' => e = .returned (.bool true) ∧ w' = w := by
  go_enter Tryd.func25, Tryd.ntmps25
  go_wp2_with fail
  go_ret
  exact ⟨rfl, by first | rfl | trivial⟩
end Go.Proofs.YtknjopefbbldfaaDoor
