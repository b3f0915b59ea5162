/- Contracts of package inflate: New, and nil receivers. -/
import Derived.Test.YtnedboomhbdecaaInfT
import Derived.Test.YtnedboomhbdecaaBit5
import Derived.BigQuiet
namespace Go.Proofs.Ytnedboomhbdecaa
open Go.RowKit
attribute [local go_sem ↓] Go.wp_at_zero Go.wp_at_succ

theorem put_nil (A : Option Addr) (n c : Nat) (w : World) : Calls Try.prog 48 #[.pointer none, .slice A n c] w fun e w' => e = .returned (.tuple #[]) ∧ w = w' := by
  go_enter Try.func48, Try.ntmps48
  go_wp2
  refine bodyPost_ret (results_none rfl _ _ _) rfl ?_
  exact ⟨rfl, rfl⟩
theorem get_nil (x : Int) (w : World) : Calls Try.prog 49 #[.pointer none, .int .i64 x] w fun e w' => e = .returned (.tuple #[.slice none 0 0, .int .i64 2]) ∧ w = w' := by
  go_enter Try.func49, Try.ntmps49
  go_wp2
  go_ret2
  exact ⟨rfl, rfl⟩
theorem held_nil (w : World) : Calls Try.prog 52 #[.pointer none] w fun e w' => e = .returned (.int .i64 0) ∧ w = w' := by
  go_enter Try.func52, Try.ntmps52
  go_wp2
  go_ret
  exact ⟨rfl, rfl⟩
theorem done_nil (w : World) : Calls Try.prog 50 #[.pointer none] w fun e w' => e = .returned (.bool false) ∧ ∃ q, w' = w.drewN q := by
  go_enter Try.func50, Try.ntmps50
  go_wp2_with fail
  go_quiet (fail)
  go_wp2
  go_ret
  exact ⟨rfl, _, rfl⟩
theorem rest_nil (w : World) : Calls Try.prog 51 #[.pointer none] w fun e w' => e = .returned (.int .i64 0) ∧ ∃ q, w' = w.drewN q := by
  go_enter Try.func51, Try.ntmps51
  go_wp2_with fail
  refine (done_nil w).mono ?_
  rintro e w1 ⟨rfl, q, rfl⟩
  go_wp2
  go_ret
  exact ⟨rfl, _, rfl⟩
set_option maxRecDepth 100000 in
theorem newi_any (w : World) : Calls Try.prog 61 #[] w fun e w' => ∃ (g gi : Nat) (S : Nat → Prop), e = .returned (.pointer (some ⟨g, 0, none⟩)) ∧
    Bk w' g 95 #[.pointer (some ⟨gi, 0, none⟩), .slice none 0 0, .int .i64 0, .int .i64 0, .bool false, .int .i64 0, .int .i64 0, .pointer none, .pointer none] ∧ RdS w' S gi [] 0 ∧ (∀ k, S k → w.heap.size ≤ k) ∧ ¬ S g ∧ w.heap.size ≤ g ∧ Below w.heap.size w w' := by
  have hrows : RdRows w w.heap.size none 0 [] := ⟨[], Rd.nil_, rfl, by simp⟩
  have hrd := rread_any none 0 0 [] w hrows (by omega) (by simp)
  have Hrd := Lib.hid hrd
  clear hrd hrows
  go_enter Try.func61, Try.ntmps61
  go_wp2_with fail
  refine Hrd.out.mono ?_
  rintro e w1 ⟨rfl, S, hr1, hS, hb1⟩
  have Hr1 := Lib.hid hr1
  have Hb1 := Lib.hid hb1
  have HS := Lib.hid hS
  clear hr1 hb1 hS
  go_wp2
  go_ret
  have hlt := Hr1.out.lt
  exact ⟨_, _, S, rfl, Bk.new w1 _ _, Hr1.out.ch ((Ch.refl (fun _ => False) w1).alloc _) (fun _ _ h => h), HS.out, fun h => by have := hlt _ h; omega, Hb1.out.size, Hb1.out.alloc Hb1.out.size _⟩
end Go.Proofs.Ytnedboomhbdecaa
