/- Contracts of package node: Size, Put; great. -/
import Derived.Test.YtelaliokmmaopaaDoorNod5
namespace Go.Proofs.YtelaliokmmaopaaDoor
open Go.RowKit
attribute [local go_sem ↓] Go.wp_at_zero Go.wp_at_succ

theorem packN_len {N : NodP} (h : RightP N) : (packN N).length ≤ 6 + 200 * N.cells.length := packTo_len h _ (Nat.le_refl _)
set_option maxHeartbeats 1000000 in
theorem size_leaf (M : NdM) (N : NodP) (w : World) (hr : RdN w w.heap.size M N) (hl : N.leaf = true) (hnb : M.n ≤ 1000000) (hmb : M.m ≤ 1000000) (hR : RightP N) :
    Calls Tryd.prog 14 #[.agg (ndC true M)] w fun e w' => e = .returned (.int .i64 ((packN N).length : Int)) ∧ Below w.heap.size w w' := by
  have hrt := fun W (hb : Below w.heap.size w W) => right_any M N W ((hr.below hb (Nat.le_refl _)).more hb.size) hnb hmb
  have hpk := fun W (hb : Below w.heap.size w W) => pack_leaf M N W ((hr.below hb (Nat.le_refl _)).more hb.size) hR hl
  rw [hl, rightB_true hR] at hrt
  unfold ndC at hrt hpk ⊢
  obtain ⟨A, n, c, K, m, d⟩ := M
  simp only at hrt hpk ⊢
  have Hrt := Lib.hid hrt
  have Hpk := Lib.hid hpk
  clear hr hl hnb hmb hR hrt hpk
  generalize packN N = L at *
  go_enter Tryd.func14, Tryd.ntmps14
  go_wp2_with fail
  refine (Hrt.out _ ((Below.refl _ _).alloc (Nat.le_refl _) _)).mono ?_
  rintro e w1 ⟨rfl, hb1⟩
  have hg1 : Bk w1 w.heap.size 27 #[.bool true, .slice A n c, .slice K m d] := Bk.below (Bk.new w _ _) hb1 (by simp)
  have f0 : w1.cell? ⟨w.heap.size, 0, none⟩ = some (.bool true) := hg1.cell 0
  have f1 : w1.cell? ⟨w.heap.size, 1, none⟩ = some (.slice A n c) := hg1.cell 1
  have f2 : w1.cell? ⟨w.heap.size, 2, none⟩ = some (.slice K m d) := hg1.cell 2
  have B1 := Lib.hid (((Below.refl w.heap.size w).alloc (Nat.le_refl _) (.cells #[.bool true, .slice A n c, .slice K m d] 27)).trans (hb1.mono (by simp)))
  clear hg1 hb1
  go_wp2_with fail
  refine (Hpk.out _ B1.out).mono ?_
  rintro e w2 ⟨v, rfl, ho, hb2⟩
  obtain ⟨Av, cv, rfl, _, _⟩ := own_form ho
  have B2 := Lib.hid (B1.out.trans (hb2.mono B1.out.size))
  clear ho hb2
  go_wp2_with fail
  go_ret
  exact ⟨rfl, B2.out⟩
end Go.Proofs.YtelaliokmmaopaaDoor
