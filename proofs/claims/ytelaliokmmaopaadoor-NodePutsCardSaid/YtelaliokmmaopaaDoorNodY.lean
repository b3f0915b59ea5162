/- Contracts of package node: pack, Size, Put, of any node. -/
import Derived.Test.YtelaliokmmaopaaDoorNodX
import Derived.Test.YtelaliokmmaopaaDoorNod6
namespace Go.Proofs.YtelaliokmmaopaaDoor
open Go.RowKit
attribute [local go_sem ↓] Go.wp_at_zero Go.wp_at_succ

theorem pack_any (M : NdM) (N : NodP) (w : World) (hr : RdN w w.heap.size M N) (hR : RightP N) :
    Calls Tryd.prog 29 #[.agg (ndC N.leaf M)] w fun e w' => ∃ v, e = .returned v ∧ w'.ownsRow w.heap.size 5 1 v (packN N).length (bys (packN N)) ∧ Below w.heap.size w w' := by
  cases hl : N.leaf
  · exact pack_inner M N w hr hR hl
  · exact pack_leaf M N w hr hR hl
set_option maxHeartbeats 2000000 in
theorem size_any (M : NdM) (N : NodP) (w : World) (hr : RdN w w.heap.size M N) (hnb : M.n ≤ 1000000) (hmb : M.m ≤ 1000000) :
    Calls Tryd.prog 14 #[.agg (ndC N.leaf M)] w fun e w' => (RightP N ∧ e = .returned (.int .i64 ((packN N).length : Int)) ∨ ¬ RightP N ∧ e = .returned (.int .i64 0)) ∧ Below w.heap.size w w' := by
  have hrt := fun W (hb : Below w.heap.size w W) => right_any M N W ((hr.below hb (Nat.le_refl _)).more hb.size) hnb hmb
  have Hpk := Lib.hid (fun (hR : RightP N) W (hb : Below w.heap.size w W) => pack_any M N W ((hr.below hb (Nat.le_refl _)).more hb.size) hR)
  have Hrt := Lib.hid hrt
  have HRt := Lib.hid (fun h : RightP N => rightB_true h)
  have HRf := Lib.hid (fun h : ¬ RightP N => rightB_false h)
  clear hr hnb hmb hrt
  generalize rightB N = rb at *
  generalize packN N = L at *
  unfold ndC at Hrt Hpk ⊢
  obtain ⟨A, n, c, K, m, d⟩ := M
  generalize N.leaf = lf at *
  simp only at Hrt Hpk ⊢
  go_enter Tryd.func14, Tryd.ntmps14
  go_wp2_with fail
  with_reducible refine (Hrt.out _ ((Below.refl _ _).alloc (Nat.le_refl _) _)).mono ?_
  rintro e w1 ⟨rfl, hb1⟩
  have hg1 : Bk w1 w.heap.size 27 #[.bool lf, .slice A n c, .slice K m d] := Bk.below (Bk.new w _ _) hb1 (by simp)
  have f0 : w1.cell? ⟨w.heap.size, 0, none⟩ = some (.bool lf) := hg1.cell 0
  have f1 : w1.cell? ⟨w.heap.size, 1, none⟩ = some (.slice A n c) := hg1.cell 1
  have f2 : w1.cell? ⟨w.heap.size, 2, none⟩ = some (.slice K m d) := hg1.cell 2
  have B1 := Lib.hid (((Below.refl w.heap.size w).alloc (Nat.le_refl _) (.cells #[.bool lf, .slice A n c, .slice K m d] 27)).trans (hb1.mono (by simp)))
  clear hg1 hb1
  by_cases hR : RightP N
  · obtain rfl := HRt.out hR
    have HR := Lib.hid hR
    have Hp := Lib.hid (Hpk.out hR _ B1.out)
    clear hR
    go_wp2_with fail
    with_reducible refine Hp.out.mono ?_
    rintro e w2 ⟨v, rfl, ho, hb2⟩
    obtain ⟨Av, cv, rfl, _, _⟩ := own_form ho
    have B2 := Lib.hid (B1.out.trans (hb2.mono B1.out.size))
    clear ho hb2
    go_wp2_with fail
    go_ret
    exact ⟨.inl ⟨HR.out, rfl⟩, B2.out⟩
  · obtain rfl := HRf.out hR
    have HR := Lib.hid hR
    clear hR
    go_wp2_with fail
    go_ret
    exact ⟨.inr ⟨HR.out, rfl⟩, B1.out⟩
set_option maxHeartbeats 2000000 in
theorem nput_any (M : NdM) (N : NodP) (w : World) (hr : RdN w w.heap.size M N) (hnb : M.n ≤ 1000000) (hmb : M.m ≤ 1000000) :
    Calls Tryd.prog 18 #[.agg (ndC N.leaf M)] w fun e w' => (¬ RightP N ∧ e = .returned (.tuple #[.slice none 0 0, .int .i64 1]) ∨ RightP N ∧ 508 < (packN N).length ∧ e = .returned (.tuple #[.slice none 0 0, .int .i64 10]) ∨
      RightP N ∧ (packN N).length ≤ 508 ∧ ∃ v, e = .returned (.tuple #[v, .int .i64 0]) ∧ w'.ownsRow w.heap.size 5 1 v (packN N).length (bys (packN N))) ∧ Below w.heap.size w w' := by
  have hrt := fun W (hb : Below w.heap.size w W) => right_any M N W ((hr.below hb (Nat.le_refl _)).more hb.size) hnb hmb
  have Hpk := Lib.hid (fun (hR : RightP N) W (hb : Below w.heap.size w W) => pack_any M N W ((hr.below hb (Nat.le_refl _)).more hb.size) hR)
  have Hrt := Lib.hid hrt
  have HRt := Lib.hid (fun h : RightP N => rightB_true h)
  have HRf := Lib.hid (fun h : ¬ RightP N => rightB_false h)
  clear hr hnb hmb hrt
  generalize rightB N = rb at *
  generalize packN N = L at *
  unfold ndC at Hrt Hpk ⊢
  obtain ⟨A, n, c, K, m, d⟩ := M
  generalize N.leaf = lf at *
  simp only at Hrt Hpk ⊢
  go_enter Tryd.func18, Tryd.ntmps18
  go_wp2_with fail
  with_reducible refine (Hrt.out _ ((Below.refl _ _).alloc (Nat.le_refl _) _)).mono ?_
  rintro e w1 ⟨rfl, hb1⟩
  have hg1 : Bk w1 w.heap.size 27 #[.bool lf, .slice A n c, .slice K m d] := Bk.below (Bk.new w _ _) hb1 (by simp)
  have f0 : w1.cell? ⟨w.heap.size, 0, none⟩ = some (.bool lf) := hg1.cell 0
  have f1 : w1.cell? ⟨w.heap.size, 1, none⟩ = some (.slice A n c) := hg1.cell 1
  have f2 : w1.cell? ⟨w.heap.size, 2, none⟩ = some (.slice K m d) := hg1.cell 2
  have B1 := Lib.hid (((Below.refl w.heap.size w).alloc (Nat.le_refl _) (.cells #[.bool lf, .slice A n c, .slice K m d] 27)).trans (hb1.mono (by simp)))
  clear hg1 hb1
  by_cases hR : RightP N
  · obtain rfl := HRt.out hR
    have HR := Lib.hid hR
    have Hp := Lib.hid (Hpk.out hR _ B1.out)
    clear hR
    go_wp2_with fail
    with_reducible refine Hp.out.mono ?_
    rintro e w2 ⟨v, rfl, ho, hb2⟩
    have Ho := Lib.hid (own_base ho B1.out.size)
    obtain ⟨Av, cv, rfl, _, _⟩ := own_form ho
    have B2 := Lib.hid (B1.out.trans (hb2.mono B1.out.size))
    clear ho hb2
    by_cases h5 : 508 < L.length
    · have h5' : (508 : Int) < (L.length : Int) := by omega
      go_wp2_with fail
      go_ret2
      exact ⟨.inr (.inl ⟨HR.out, h5, rfl⟩), B2.out⟩
    · have h5' : ¬ (508 : Int) < (L.length : Int) := by omega
      go_wp2_with fail
      go_ret2
      exact ⟨.inr (.inr ⟨HR.out, by omega, _, rfl, Ho.out⟩), B2.out⟩
  · obtain rfl := HRf.out hR
    have HR := Lib.hid hR
    clear hR
    go_wp2_with fail
    go_ret2
    exact ⟨.inl ⟨HR.out, rfl⟩, B1.out⟩
end Go.Proofs.YtelaliokmmaopaaDoor
