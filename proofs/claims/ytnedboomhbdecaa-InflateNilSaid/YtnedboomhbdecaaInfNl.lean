/- InflateNil. -/
import Derived.Test.YtnedboomhbdecaaInfWl
namespace Go.Proofs.Ytnedboomhbdecaa
open Go.RowKit
attribute [local go_sem ↓] Go.wp_at_zero Go.wp_at_succ

set_option maxHeartbeats 2000000 in
set_option maxRecDepth 100000 in
theorem inflateNil_walk (A : Option Addr) (n c : Nat) (l : List UInt8) (w : World) (_hr : Rd w w.heap.size 1 A n (bys l)) (_hnc : n ≤ c) (_hcm : c ≤ maxLen) :
    Calls Try.prog 14 #[.slice A n c] w fun e w' => e = .returned (.bool true) ∧ Below w.heap.size w w' := by
  clear _hr _hnc _hcm
  go_enter Try.func14, Try.ntmps14
  go_wp2_with fail
  refine (infwakes_any w).mono ?_
  rintro e w1 ⟨rfl, hb1⟩
  go_wp2_with fail
  refine (put_nil A n c w1).mono ?_
  rintro e w2 ⟨rfl, rfl⟩
  go_wp2_with fail
  refine (get_nil 5 w1).mono ?_
  rintro e w2 ⟨rfl, rfl⟩
  go_wp2_with fail
  refine (done_nil w1).mono ?_
  rintro e w2 ⟨rfl, q, rfl⟩
  go_wp2_with fail
  refine (rest_nil (w1.drewN q)).mono ?_
  rintro e w2 ⟨rfl, q2, rfl⟩
  go_wp2_with fail
  refine (held_nil (w1.drewN (q + q2))).mono ?_
  rintro e w2 ⟨rfl, rfl⟩
  go_wp2_with fail
  go_ret
  exact ⟨rfl, below_drewN hb1 _⟩
end Go.Proofs.Ytnedboomhbdecaa
