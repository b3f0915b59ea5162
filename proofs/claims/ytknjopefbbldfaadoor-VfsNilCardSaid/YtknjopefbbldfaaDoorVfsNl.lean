/- VfsNil: a store that is not there is down. -/
import Derived.Test.YtknjopefbbldfaaDoorVfsWk
import Derived.Test.YtknjopefbbldfaaDoorRows
import Derived.PinnedBridge
import Derived.Stop.LaidErr
namespace Go.Proofs.YtknjopefbbldfaaDoor
open Go.RowKit
attribute [local go_sem ↓] Go.wp_at_zero Go.wp_at_succ

theorem vfsNil_laid (W : World) (_ : laidMet Tryd.prog Rows.vfsNilRow.laid W) : True := trivial
set_option maxHeartbeats 4000000 in
set_option maxRecDepth 100000 in
theorem vfsNil_walk (s : ByteArray) (n : Int) (w : World) (_ : s.size ≤ maxLen) (_ : -9223372036854775808 ≤ n ∧ n ≤ 9223372036854775807) (_ : True) :
    Calls Tryd.prog 7 #[.string s, .int .i64 n] w fun e w' => e = .returned (.bool true) ∧ Below w.heap.size w w' := by
  rename_i h1 h2
  clear h1 h2
  have HW := Lib.hid (wakes_any w)
  have HC := Lib.hid (fun W => crash_nil 1 W)
  rw [show (((1 : UInt64).toNat : Nat) : Int) = (1 : Int) from rfl] at HC
  go_enter Tryd.func7, Tryd.ntmps7
  go_wp2_with fail
  with_reducible refine HW.out.mono ?_
  rintro e w1 ⟨rfl, b1⟩
  have B1 := Lib.hid b1
  clear b1
  go_wp2_with (first
    | (go_at_call 21; refine (fuse_nil _ _).mono ?_; rintro e w2 ⟨rfl, hw2⟩; subst hw2)
    | (go_at_call 17; refine (HC.out _).mono ?_; rintro e w2 ⟨rfl, hw2⟩; subst hw2)
    | (go_at_call 12; refine (read_nil _ _ _ _).mono ?_; rintro e w2 ⟨rfl, hw2⟩; subst hw2)
    | (go_at_call 14; refine (len_nil _ _).mono ?_; rintro e w2 ⟨rfl, hw2⟩; subst hw2)
    | (go_at_call 10; refine (create_nil _ _).mono ?_; rintro e w2 ⟨rfl, hw2⟩; subst hw2)
    | (go_at_call 11; refine (write_nil _ _ _ _ _ _).mono ?_; rintro e w2 ⟨rfl, hw2⟩; subst hw2)
    | (go_at_call 22; refine (cut_nil _ _ _).mono ?_; rintro e w2 ⟨rfl, hw2⟩; subst hw2)
    | (go_at_call 19; refine (rename_nil _ _ _).mono ?_; rintro e w2 ⟨rfl, hw2⟩; subst hw2)
    | (go_at_call 23; refine (delete_nil _ _).mono ?_; rintro e w2 ⟨rfl, hw2⟩; subst hw2)
    | (go_at_call 16; refine (sync_nil _ _).mono ?_; rintro e w2 ⟨rfl, hw2⟩; subst hw2)
    | (go_at_call 24; refine (stamp_nil _ _).mono ?_; rintro e w2 ⟨rfl, hw2⟩; subst hw2)
    | (go_at_call 20; refine (names_nil _ _).mono ?_; rintro e w3 ⟨rfl, b3⟩; replace b3 := Lib.hid b3)
    | (go_at_call 15; refine (room_nil _).mono ?_; rintro e w2 ⟨rfl, hw2⟩; subst hw2)
    | (go_at_call 18; refine (waits_nil _).mono ?_; rintro e w2 ⟨rfl, hw2⟩; subst hw2)
    | (go_at_call 25; refine (down_nil _).mono ?_; rintro e w2 ⟨rfl, hw2⟩; subst hw2))
  go_ret
  exact ⟨rfl, B1.out.trans (b3.out.mono B1.out.size)⟩
end Go.Proofs.YtknjopefbbldfaaDoor
