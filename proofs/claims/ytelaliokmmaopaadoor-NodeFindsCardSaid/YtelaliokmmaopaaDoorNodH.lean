/- The law NodeFinds: its walk. -/
import Derived.Test.YtelaliokmmaopaaDoorNodC
import Derived.Test.YtelaliokmmaopaaDoorNodG
namespace Go.Proofs.YtelaliokmmaopaaDoor
open Go.RowKit
attribute [local go_sem ↓] Go.wp_at_zero Go.wp_at_succ

/-- The law reads no table. -/
theorem nodeFinds_laid {P : Prop} (_ : World) (_ : P) : True := trivial
set_option maxRecDepth 100000 in
set_option maxHeartbeats 4000000 in
theorem nodeFinds_walk (M : NdM) (N : NodP) (Ak : Option Addr) (nk ck : Nat) (key : List UInt8) (w : World) (hr : RdN w w.heap.size M N) (hk : Rd w w.heap.size 1 Ak nk (bys key)) (_ : nk ≤ ck) (hcm : ck ≤ 9223372036854775807) (_ : True) :
    Calls Tryd.prog 5 #[.agg (ndC N.leaf M), .slice Ak nk ck] w fun e w' => e = .returned (.bool true) ∧ Below w.heap.size w w' := by
  obtain ⟨hcl, hkl⟩ := hr.len
  have Hwk := Lib.hid (fun W => nodwakes_any W)
  have Hgr := Lib.hid (fun W (hb : Below w.heap.size w W) => great_any M N W ((hr.below hb (Nat.le_refl _)).more hb.size))
  have Hrt := Lib.hid (fun W (hb : Below w.heap.size w W) (h1 : M.n ≤ 100) (h2 : M.m ≤ 100) => rright_any M N W ((hr.below hb (Nat.le_refl _)).more hb.size) h1 h2)
  have Hfi := Lib.hid (fun W (hb : Below w.heap.size w W) (hR : RightP N) (h1 : M.n ≤ 100) => find_any M N Ak nk ck key W ((hr.below hb (Nat.le_refl _)).more hb.size) ((hk.below hb (Nat.le_refl _)).more hb.size) hR.sorted (by omega))
  have Hcs := Lib.hid hr.cs
  have Hk := Lib.hid hk
  have Hcl := Lib.hid hcl
  have HRb := Lib.hid (show rightB N = true → RightP N from fun h => rightB_iff.1 h)
  have hkl9 : nk ≤ 9223372036854775807 := by omega
  clear hr hcl hkl hk
  unfold ndC at Hgr Hrt Hfi ⊢
  obtain ⟨A, n, c, K, m, d⟩ := M
  obtain ⟨lf, cs, ks⟩ := N
  simp only at Hcl Hgr Hrt Hfi Hcs ⊢
  generalize rightB ⟨lf, cs, ks⟩ = rb at *
  go_enter Tryd.func5, Tryd.ntmps5
  go_wp2_with fail
  refine (Hwk.out _).mono ?_
  rintro e w1 ⟨rfl, hb1⟩
  have hg1 : Bk w1 w.heap.size 27 #[.bool lf, .slice A n c, .slice K m d] := Bk.below (Bk.new w _ _) hb1 (by simp)
  have hB1 : Below w.heap.size w w1 := ((Below.refl w.heap.size w).alloc (Nat.le_refl _) (.cells #[.bool lf, .slice A n c, .slice K m d] 27)).trans (hb1.mono (by simp))
  have f0 : w1.cell? ⟨w.heap.size, 0, none⟩ = some (.bool lf) := hg1.cell 0
  have f1 : w1.cell? ⟨w.heap.size, 1, none⟩ = some (.slice A n c) := hg1.cell 1
  have f2 : w1.cell? ⟨w.heap.size, 2, none⟩ = some (.slice K m d) := hg1.cell 2
  have G1 := Lib.hid hg1
  have B1 := Lib.hid hB1
  clear hg1 hB1 hb1 Hwk
  go_wp2_with fail
  refine (Hgr.out _ B1.out).mono ?_
  rintro e w2 ⟨hq, hb2⟩
  have G2 := Lib.hid (Bk.below G1.out hb2 G1.out.lt)
  have B2 := Lib.hid (B1.out.trans (hb2.mono B1.out.size))
  clear hb2 Hgr G1 B1 f0 f1 f2
  have f0 : w2.cell? ⟨w.heap.size, 0, none⟩ = some (.bool lf) := G2.out.cell 0
  have f1 : w2.cell? ⟨w.heap.size, 1, none⟩ = some (.slice A n c) := G2.out.cell 1
  have f2 : w2.cell? ⟨w.heap.size, 2, none⟩ = some (.slice K m d) := G2.out.cell 2
  rcases hq with rfl | ⟨rfl, hn, hm⟩
  · go_wp2_with fail
    go_ret
    exact ⟨rfl, B2.out⟩
  simp only at hn hm
  by_cases h3 : 300 < nk
  · have h3' : (300 : Int) < (nk : Int) := by omega
    go_wp2_with fail
    go_ret
    exact ⟨rfl, B2.out⟩
  have h3' : ¬ (300 : Int) < (nk : Int) := by omega
  go_wp2_with fail
  refine (Hrt.out _ B2.out hn hm).mono ?_
  rintro e w3 ⟨rfl, hb3⟩
  have G3 := Lib.hid (Bk.below G2.out hb3 G2.out.lt)
  have B3 := Lib.hid (B2.out.trans (hb3.mono B2.out.size))
  clear hb3 Hrt G2 B2 f0 f1 f2
  have f0 : w3.cell? ⟨w.heap.size, 0, none⟩ = some (.bool lf) := G3.out.cell 0
  have f1 : w3.cell? ⟨w.heap.size, 1, none⟩ = some (.slice A n c) := G3.out.cell 1
  have f2 : w3.cell? ⟨w.heap.size, 2, none⟩ = some (.slice K m d) := G3.out.cell 2
  cases rb
  · go_wp2_with fail
    go_ret
    exact ⟨rfl, B3.out⟩
  have HR := Lib.hid (HRb.out rfl)
  go_wp2_with fail
  refine (Hfi.out _ B3.out HR.out hn).mono ?_
  rintro e w4 ⟨⟨k, is, rfl, hF⟩, hb4⟩
  obtain ⟨hf1, hf2⟩ := fin_all (lf := lf) hF HR.out.sorted
  have G4 := Lib.hid (Bk.below G3.out hb4 G3.out.lt)
  have B4 := Lib.hid (B3.out.trans (hb4.mono B3.out.size))
  try simp only at hf1 hf2
  rw [hf1]
  have Hf2 := Lib.hid hf2
  have Hok := Lib.hid (show ∀ (j : Nat) c, cs[j]? = some c → c.key.length ≤ 120 from fun j c hc => (HR.out.2.1.1 j c (List.getElem?_eq_some_iff.1 hc).1 hc).1.2)
  clear hb4 Hfi G3 B3 f0 f1 f2 hf1 hf2 hF HRb HR
  have f1 : w4.cell? ⟨w.heap.size, 1, none⟩ = some (.slice A n c) := G4.out.cell 1
  go_wp2_with fail
  go_loopw [7, 8, 34] (fun be at' idx wr => ∃ j : Nat, idx = .int .i64 j ∧ j ≤ n ∧ be = .int .i64 (cntB lf key (cs.take j)) ∧ at' = .bool (anyK key (cs.take j)) ∧ Hid (Below w.heap.size w wr ∧ Bk wr w.heap.size 27 #[.bool lf, .slice A n c, .slice K m d])) (fun _ _ idx _ => n - (intOf idx).toNat)
  case atStart => exact ⟨0, rfl, Nat.zero_le _, by simp [cntB], by simp [anyK], Lib.hid ⟨B4.out, G4.out⟩⟩
  case round =>
    obtain ⟨j, rfl, hj, rfl, rfl, HI⟩ := hrel
    obtain ⟨hbw, hbk⟩ := HI.out
    clear HI
    by_cases hlt : j < n
    · obtain ⟨b, o, cc, Ac, nc, cc', Av, nv, cv, rfl, hb, hcj, k0, hrk, hnck, k1, hrv, hncv, k2, k3⟩ := Hcs.out.at_ hlt
      have e0 := (hbw.cell (p := ⟨b, o + j * 4, none⟩) (by show b < _; omega)).trans k0
      have e1 := (hbw.cell (p := ⟨b, o + j * 4 + 1, none⟩) (by show b < _; omega)).trans k1
      have e2 := (hbw.cell (p := ⟨b, o + j * 4 + 2, none⟩) (by show b < _; omega)).trans k2
      have e3 := (hbw.cell (p := ⟨b, o + j * 4 + 3, none⟩) (by show b < _; omega)).trans k3
      have hW := hbw.alloc hbw.size (.cells #[.slice Ac nc cc', .slice Av nv cv, .int .i64 cc.over, .int .i64 cc.long] 42)
      have hG := hbk.alloc (.cells #[.slice Ac nc cc', .slice Av nv cv, .int .i64 cc.over, .int .i64 cc.long] 42)
      have hC := Bk.new wr 42 #[.slice Ac nc cc', .slice Av nv cv, .int .i64 cc.over, .int .i64 cc.long]
      have hkl := Hok.out j cc hcj
      rw [hrk.blen] at hkl
      have Hle := Lib.hid (fun q => less_any Ac Ak nc cc' nk ck cc.key key ((wr.alloc (.cells #[.slice Ac nc cc', .slice Av nv cv, .int .i64 cc.over, .int .i64 cc.long] 42)).drewN q) (((hrk.below hW (Nat.le_refl _)).more hW.size).drewN q) (((Hk.out.below hW (Nat.le_refl _)).more hW.size).drewN q) (by omega) (by omega))
      have Hsm := Lib.hid (fun q => same_any Ac Ak nc nk cc' ck cc.key key ((wr.alloc (.cells #[.slice Ac nc cc', .slice Av nv cv, .int .i64 cc.over, .int .i64 cc.long] 42)).drewN q) (((hrk.below hW (Nat.le_refl _)).more hW.size).drewN q) (((Hk.out.below hW (Nat.le_refl _)).more hW.size).drewN q) (by omega) (by omega))
      have hcn : cntB lf key (cs.take (j + 1)) = cntB lf key (cs.take j) + (if ltL cc.key key || (!lf && decide (cc.key = key)) then 1 else 0) := by rw [take_step hcj, cntB_app, cntB_one]; rfl
      have han : anyK key (cs.take (j + 1)) = (anyK key (cs.take j) || decide (cc.key = key)) := by rw [take_step hcj, anyK_app, anyK_one]
      have hcb : cntB lf key (cs.take j) ≤ j := Nat.le_trans (cntB_le _ _ _) (by rw [List.length_take]; omega)
      have HW := Lib.hid hW
      have HG := Lib.hid hG
      have HC := Lib.hid hC
      have Hcn := Lib.hid hcn
      have Han := Lib.hid han
      generalize cc.over = ov at *
      generalize cc.long = lo at *
      generalize cntB lf key (cs.take j) = cb at *
      generalize anyK key (cs.take j) = ab at *
      generalize ltL cc.key key = lb at *
      generalize decide (cc.key = key) = eb at *
      clear hW hG hC hbw hbk k0 k1 k2 k3 hrk hrv hcj hcn han f1
      go_wp2_with (fail)
      generalize (wr.alloc (.cells #[.slice Ac nc cc', .slice Av nv cv, .int .i64 ov, .int .i64 lo] 42)) = W1 at *
      generalize wr.heap.size = g at *
      have c0 : W1.cell? ⟨g, 0, none⟩ = some (.slice Ac nc cc') := HC.out.cell 0
      have c1 : W1.cell? ⟨w.heap.size, 0, none⟩ = some (.bool lf) := HG.out.cell 0
      refine (Hle.out 0).mono ?_
      rintro e w5 ⟨rfl, q, rfl⟩
      have Hfin := Lib.hid (show ∀ q, Below w.heap.size w (W1.drewN q) ∧ Bk (W1.drewN q) w.heap.size 27 #[.bool lf, .slice (some ⟨b, o, none⟩) n c, .slice K m d] from fun q => ⟨below_drewN HW.out q, HG.out.drewN q⟩)
      clear HW HG HC Hle
      cases lb <;> cases lf <;> cases eb <;> cases ab
      all_goals
        go_wp2_with (go_at_call 17; refine (Hsm.out _).mono ?_; rintro e w6 ⟨rfl, q2, rfl⟩)
        go_roundw
        case rel => exact ⟨j + 1, by go_num, by omega, by rw [Hcn.out]; first | rfl | (simp; done), by rw [Han.out]; rfl, Lib.hid (by first | exact Hfin.out _ | (simp only [World.drewN_drewN]; exact Hfin.out _))⟩
        case measure => simp [intOf]; omega
    · obtain rfl : j = n := by omega
      rw [show cs.take j = cs by rw [← Hcl.out, List.take_length], ← Hf2.out]
      generalize cntB lf key cs = cb at *
      have B5 := Lib.hid hbw
      clear hbw hbk
      go_wp2_with fail
      go_ret
      exact ⟨ret_bool (by simp), B5.out⟩
end Go.Proofs.YtelaliokmmaopaaDoor
