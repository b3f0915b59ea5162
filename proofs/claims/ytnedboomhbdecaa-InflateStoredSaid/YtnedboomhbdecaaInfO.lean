/- Contracts of package inflate: order. -/
import Derived.Test.YtnedboomhbdecaaInfD
import Derived.Deep.WholeRow
namespace Go.Proofs.Ytnedboomhbdecaa
open Go.RowKit
attribute [local go_sem ↓] Go.wp_at_zero Go.wp_at_succ
def O19 : Array Value := (its (ordN.map Int.ofNat)).toArray
def Z19 : Array Value := (its zer19).toArray
theorem i19 : (Try.prog.info? 106).map (·.size) = some O19.size := by kernel_rfl
theorem i19z : (Try.prog.info? 106).map (·.size) = some Z19.size := by kernel_rfl
theorem one19 : O19.all (·.oneCell') = true := by decide +kernel
set_option maxHeartbeats 1000000 in
set_option maxRecDepth 100000 in
theorem order_any (w : World) :
    Calls Try.prog 74 #[] w fun e w' => e = .returned (.agg O19) ∧ Below w.heap.size w w' := by
  have hz : (w.alloc (.cells Z19 106)).heap[w.heap.size]? = some (.cells Z19 106 (0, 0)) := heap_alloc_last w _
  have Hz := Lib.hid hz
  clear hz
  go_enter Try.func74, Try.ntmps74
  go_wp2_with (((with_reducible refine at_store 106 ?_); refine wpList_store_row (by rfl) _ _ _ (by rfl) w.heap.size O19 (by rfl) (by rfl) 106 Z19 Hz.out i19 (by rfl) one19 ?_))
  have hu : Try.prog.underlying 106 = some (.array 19 3) := by kernel_rfl
  have hb := Bk.new w 106 Z19
  refine bodyPost_ret (v := .agg O19) ?_ rfl ⟨rfl, by first | exact World.setRow_alloc_new w Z19 O19 106 ▸ (Below.refl _ _).alloc (Nat.le_refl _) _ | (show Below _ _ ((w.alloc (.cells Z19 106)).setRow w.heap.size O19); rw [World.setRow_alloc_new]; exact (Below.refl _ _).alloc (Nat.le_refl _) _)⟩
  exact results_cell_row Try.results74 _ _ w.heap.size 106 O19 (0, 0) _ rfl (hb.setRow _) hu rfl i19
end Go.Proofs.Ytnedboomhbdecaa
