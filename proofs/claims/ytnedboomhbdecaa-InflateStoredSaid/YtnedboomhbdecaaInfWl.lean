/- Package inflate: wakes (under way). -/
import Derived.Test.YtnedboomhbdecaaInfWk
import Derived.Test.YtnedboomhbdecaaConv
namespace Go.Proofs.Ytnedboomhbdecaa
open Go.RowKit

set_option maxRecDepth 100000 in
theorem infwakes_any (w : World) : Calls Try.prog 46 #[] w fun e w' => e = .returned (.bool true) ∧ Below w.heap.size w w' := by
  have hlit : Rd (w.alloc (.cells (bys wkL).toArray 5)) (w.heap.size + 1) 1 (some ⟨w.heap.size, 0, none⟩) 6 (bys wkL) := Rd.lits w 5 (bys wkL).toArray rfl
  have hall := all_any (some ⟨w.heap.size, 0, none⟩) 6 6 wkL 10 (w.alloc (.cells (bys wkL).toArray 5)) (hlit.more (by simp)) (by omega) (by omega)
  have Hall := Lib.hid hall
  clear hlit hall
  go_enter Try.func46, Try.ntmps46
  go_wp2_with fail
  refine Hall.out.mono ?_
  rintro e w1 ⟨hb1, ⟨A, n, c, x, k, rfl, hoc, hrd, hnc⟩ | ⟨_, hoc⟩ | ⟨_, _, _, hoc⟩⟩
  · obtain ⟨h1, _⟩ := wk_oc hoc
    injection h1 with h1
    injection h1 with h1 h2
    subst h1 h2
    have hcv := conv_bys (c := c) hrd
    have Hb1 := Lib.hid hb1
    have Hrd := Lib.hid hrd
    clear hb1 hrd hoc
    go_wp2_with fail
    go_ret
    have hsz : w.heap.size < (w.alloc (.cells (bys wkL).toArray 5)).heap.size := by simp
    exact ⟨by rfl, ((Below.refl _ w).alloc (Nat.le_refl _) _).trans ⟨Hb1.out.os, Hb1.out.tape, Hb1.out.output, Hb1.out.size, fun i hi => Hb1.out.block i (Nat.lt_trans hi hsz)⟩⟩
  · cases (wk_oc hoc).1
  · cases (wk_oc hoc).1
end Go.Proofs.Ytnedboomhbdecaa
