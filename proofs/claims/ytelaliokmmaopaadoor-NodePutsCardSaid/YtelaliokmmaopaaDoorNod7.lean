/- The law's great. -/
import Derived.Test.YtelaliokmmaopaaDoorNod6
namespace Go.Proofs.YtelaliokmmaopaaDoor
open Go.RowKit
attribute [local go_sem ↓] Go.wp_at_zero Go.wp_at_succ

/-- What great answers. -/
def GrQ (M : NdM) (e : Ending) : Prop := e = .returned (.bool true) ∨ e = .returned (.bool false) ∧ M.n ≤ 100 ∧ M.m ≤ 100
set_option maxHeartbeats 2000000 in
set_option maxRecDepth 100000 in
theorem great_any (M : NdM) (N : NodP) (w : World) (hr : RdN w w.heap.size M N) :
    Calls Tryd.prog 12 #[.agg (ndC N.leaf M)] w fun e w' => GrQ M e ∧ Below w.heap.size w w' := by
  have Hr := Lib.hid hr
  have hnc := hr.nc
  have hcm := hr.cm
  unfold ndC
  generalize N.leaf = lf at *
  clear hr
  obtain ⟨A, n, c, K, m, d⟩ := M
  simp only at hnc hcm ⊢
  have hn9 : n ≤ 9223372036854775807 := by omega
  clear hnc hcm
  go_enter Tryd.func12, Tryd.ntmps12
  go_wp2_with fail
  go_loopw [8] (fun idx wr => ∃ j : Nat, idx = .int .i64 j ∧ j ≤ n ∧ Hid (Below w.heap.size w wr ∧ Bk wr w.heap.size 27 #[.bool lf, .slice A n c, .slice K m d])) (fun idx _ => n - (intOf idx).toNat)
  case atStart => exact ⟨0, rfl, Nat.zero_le _, Lib.hid ⟨(Below.refl _ _).alloc (Nat.le_refl _) _, Bk.new _ _ _⟩⟩
  case round =>
    obtain ⟨j, rfl, hj, HI⟩ := hrel
    obtain ⟨hbw, hbk⟩ := HI.out
    clear HI
    by_cases hlt : j < n
    · obtain ⟨b, o, cc, Ak, nk, ck, Av, nv, cv, rfl, hb, hcj, k0, hrk, hnck, k1, hrv, hncv, k2, k3⟩ := Hr.out.cs.at_ hlt
      have e0 := (hbw.cell (p := ⟨b, o + j * 4, none⟩) (by show b < _; omega)).trans k0
      have e1 := (hbw.cell (p := ⟨b, o + j * 4 + 1, none⟩) (by show b < _; omega)).trans k1
      have e2 := (hbw.cell (p := ⟨b, o + j * 4 + 2, none⟩) (by show b < _; omega)).trans k2
      have e3 := (hbw.cell (p := ⟨b, o + j * 4 + 3, none⟩) (by show b < _; omega)).trans k3
      generalize cc.over = ov at *
      generalize cc.long = lo at *
      have hal := hbw.alloc hbw.size (.cells #[.slice Ak nk ck, .slice Av nv cv, .int .i64 ov, .int .i64 lo] 42)
      have hbl := hbk.alloc (.cells #[.slice Ak nk ck, .slice Av nv cv, .int .i64 ov, .int .i64 lo] 42)
      have Hal := Lib.hid hal
      have Hbl := Lib.hid hbl
      clear k0 k1 k2 k3 hrk hrv hcj hal hbl hbw hbk
      by_cases h1 : (300 : Int) < (nk : Int)
      · go_wp2
        go_ret
        exact ⟨.inl rfl, Hal.out⟩
      · by_cases h2 : (300 : Int) < (nv : Int)
        · go_wp2
          go_ret
          exact ⟨.inl rfl, Hal.out⟩
        · go_wp2_with fail
          go_roundw
          case rel => exact ⟨j + 1, by go_num, by omega, Lib.hid ⟨Hal.out, Hbl.out⟩⟩
          case measure => simp [intOf]; omega
    · have t1 : wr.cell? ⟨w.heap.size, 1, none⟩ = some (.slice A n c) := hbk.cell 1
      have t2 : wr.cell? ⟨w.heap.size, 2, none⟩ = some (.slice K m d) := hbk.cell 2
      have Hbw := Lib.hid hbw
      clear hbw hbk
      by_cases h1 : (100 : Int) < (n : Int)
      · go_wp2
        go_ret
        exact ⟨.inl rfl, Hbw.out⟩
      · by_cases h2 : (100 : Int) < (m : Int)
        · go_wp2
          go_ret
          exact ⟨.inl rfl, Hbw.out⟩
        · go_wp2
          go_ret
          exact ⟨.inr ⟨rfl, by show n ≤ 100; omega, by show m ≤ 100; omega⟩, Hbw.out⟩
end Go.Proofs.YtelaliokmmaopaaDoor
