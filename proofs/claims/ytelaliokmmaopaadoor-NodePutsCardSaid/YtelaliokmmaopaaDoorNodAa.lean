/- node.Same, of alike nodes. -/
import Derived.Test.YtelaliokmmaopaaDoorNodE
namespace Go.Proofs.YtelaliokmmaopaaDoor
open Go.RowKit
attribute [local go_sem ↓] Go.wp_at_zero Go.wp_at_succ

theorem sequal_eq (A A2 : Option Addr) (n c c2 : Nat) (l : List Int) (w : World) (hl : Rd w w.heap.size 1 A n (its l)) (hr : Rd w w.heap.size 1 A2 n (its l)) (hn : n ≤ 1000000) :
    Calls Tryd.prog 39 #[.slice A n c, .slice A2 n c2] w fun e w' => e = .returned (.bool true) ∧ ∃ q, w' = w.drewN q := by
  go_enter Tryd.func39, Tryd.ntmps39
  go_wp2_with fail
  go_loopw [13] (fun i wr => ∃ j : Nat, i = .int .i64 j ∧ j ≤ n ∧ ∃ q, wr = w.drewN q) (fun i _ => n - (intOf i).toNat)
  case atStart => exact ⟨0, rfl, Nat.zero_le _, 0, rfl⟩
  case round =>
    obtain ⟨j, rfl, hj, q, rfl⟩ := hrel
    by_cases hlt : j < n
    · obtain ⟨b, o, u, rfl, hb, hx, hc⟩ := hl.num hlt
      obtain ⟨b2, o2, u2, rfl, hb2, hx2, hc2⟩ := hr.num hlt
      rw [hx] at hx2
      injection hx2 with hx2
      subst hx2
      have hne : (u != u) = false := by simp
      clear hx
      go_wp2_with fail
      go_quiet (fail)
      go_wp2
      go_roundw
      case rel => exact ⟨j + 1, by go_num, by omega, _, rfl⟩
      case measure => simp [intOf]; omega
    · go_wp2
      go_ret
      exact ⟨rfl, _, rfl⟩
set_option maxHeartbeats 2000000 in
theorem same1_eq (Ak Ak2 Av Av2 : Option Addr) (nk ck nk2 ck2 nv cv nv2 cv2 : Nat) (o l : Int) (key val : List UInt8) (w : World) (hk : Rd w w.heap.size 1 Ak nk (bys key)) (hk2 : Rd w w.heap.size 1 Ak2 nk2 (bys key)) (hv : Rd w w.heap.size 1 Av nv (bys val)) (hv2 : Rd w w.heap.size 1 Av2 nv2 (bys val)) :
    Calls Tryd.prog 41 #[.agg (clC Ak nk ck Av nv cv o l), .agg (clC Ak2 nk2 ck2 Av2 nv2 cv2 o l)] w fun e w' => e = .returned (.bool true) ∧ Below w.heap.size w w' := by
  unfold clC
  have hW : Below w.heap.size w ((w.alloc (.cells #[.slice Ak nk ck, .slice Av nv cv, .int .i64 o, .int .i64 l] 42)).alloc (.cells #[.slice Ak2 nk2 ck2, .slice Av2 nv2 cv2, .int .i64 o, .int .i64 l] 42)) := ((Below.refl _ _).alloc (Nat.le_refl _) _).alloc (by simp) _
  have Hk := Lib.hid (equal_any Ak Ak2 nk ck nk2 ck2 key key _ ((hk.below hW (Nat.le_refl _)).more hW.size) ((hk2.below hW (Nat.le_refl _)).more hW.size))
  have Hv := Lib.hid (equal_any Av Av2 nv cv nv2 cv2 val val _ ((hv.below hW (Nat.le_refl _)).more hW.size) ((hv2.below hW (Nat.le_refl _)).more hW.size))
  have HW := Lib.hid hW
  clear hW hk hk2 hv hv2
  go_enter Tryd.func41, Tryd.ntmps41
  go_wp2_with fail
  with_reducible refine Hk.out.mono ?_
  rintro e w1 ⟨rfl, rfl⟩
  simp only [decide_true]
  go_wp2_with fail
  with_reducible refine Hv.out.mono ?_
  rintro e w1 ⟨rfl, rfl⟩
  simp only [decide_true]
  go_wp2_with fail
  go_ret
  exact ⟨by simp, HW.out⟩
set_option maxHeartbeats 2000000 in
theorem sequalF_eq (A A2 : Option Addr) (n c c2 : Nat) (cs : List CellP) (w : World) (hl : RdCs w w.heap.size A n cs) (hr : RdCs w w.heap.size A2 n cs) (hn : n ≤ 1000000) :
    Calls Tryd.prog 40 #[.slice A n c, .slice A2 n c2, .func (.func 41) #[] #[]] w fun e w' => e = .returned (.bool true) ∧ Below w.heap.size w w' := by
  have Hl := Lib.hid hl
  have Hr := Lib.hid hr
  clear hl hr
  go_enter Tryd.func40, Tryd.ntmps40
  go_wp2_with fail
  go_loopw [17] (fun i wr => ∃ j : Nat, i = .int .i64 j ∧ j ≤ n ∧ Hid (Below w.heap.size w wr)) (fun i _ => n - (intOf i).toNat)
  case atStart => exact ⟨0, rfl, Nat.zero_le _, Lib.hid (Below.refl _ _)⟩
  case round =>
    obtain ⟨j, rfl, hj, HI⟩ := hrel
    have hbw := HI.out
    by_cases hlt : j < n
    · obtain ⟨b, o, cc, Ac, nc, cc', Av, nv, cv, rfl, hb, hcj, k0, hrk, hnck, k1, hrv, hncv, k2, k3⟩ := Hl.out.at_ hlt
      obtain ⟨b', o', cc2, Ac2, nc2, cc2', Av2, nv2, cv2, rfl, hb', hcj', k0', hrk', hnck', k1', hrv', hncv', k2', k3'⟩ := Hr.out.at_ hlt
      rw [hcj] at hcj'
      injection hcj' with hcj'
      subst hcj'
      have hz := hbw.size
      have e0 := (hbw.cell (p := ⟨b, o + j * 4, none⟩) (by show b < _; omega)).trans k0
      have e1 := (hbw.cell (p := ⟨b, o + j * 4 + 1, none⟩) (by show b < _; omega)).trans k1
      have e2 := (hbw.cell (p := ⟨b, o + j * 4 + 2, none⟩) (by show b < _; omega)).trans k2
      have e3 := (hbw.cell (p := ⟨b, o + j * 4 + 3, none⟩) (by show b < _; omega)).trans k3
      have e0' : (wr.alloc (.cells #[.slice Ac nc cc', .slice Av nv cv, .int .i64 cc.over, .int .i64 cc.long] 42)).cell? ⟨b', o' + j * 4, none⟩ = some (.slice Ac2 nc2 cc2') := (World.cell?_alloc_lt wr _ ⟨b', _, none⟩ (by show b' < _; omega)).trans ((hbw.cell (p := ⟨b', o' + j * 4, none⟩) (by show b' < _; omega)).trans k0')
      have e1' : (wr.alloc (.cells #[.slice Ac nc cc', .slice Av nv cv, .int .i64 cc.over, .int .i64 cc.long] 42)).cell? ⟨b', o' + j * 4 + 1, none⟩ = some (.slice Av2 nv2 cv2) := (World.cell?_alloc_lt wr _ ⟨b', _, none⟩ (by show b' < _; omega)).trans ((hbw.cell (p := ⟨b', o' + j * 4 + 1, none⟩) (by show b' < _; omega)).trans k1')
      have e2' : (wr.alloc (.cells #[.slice Ac nc cc', .slice Av nv cv, .int .i64 cc.over, .int .i64 cc.long] 42)).cell? ⟨b', o' + j * 4 + 2, none⟩ = some (.int .i64 cc.over) := (World.cell?_alloc_lt wr _ ⟨b', _, none⟩ (by show b' < _; omega)).trans ((hbw.cell (p := ⟨b', o' + j * 4 + 2, none⟩) (by show b' < _; omega)).trans k2')
      have e3' : (wr.alloc (.cells #[.slice Ac nc cc', .slice Av nv cv, .int .i64 cc.over, .int .i64 cc.long] 42)).cell? ⟨b', o' + j * 4 + 3, none⟩ = some (.int .i64 cc.long) := (World.cell?_alloc_lt wr _ ⟨b', _, none⟩ (by show b' < _; omega)).trans ((hbw.cell (p := ⟨b', o' + j * 4 + 3, none⟩) (by show b' < _; omega)).trans k3')
      have hW : Below w.heap.size w ((wr.alloc (.cells #[.slice Ac nc cc', .slice Av nv cv, .int .i64 cc.over, .int .i64 cc.long] 42)).alloc (.cells #[.slice Ac2 nc2 cc2', .slice Av2 nv2 cv2, .int .i64 cc.over, .int .i64 cc.long] 42)) := (hbw.alloc hz _).alloc (by simp; omega) _
      have hs := same1_eq Ac Ac2 Av Av2 nc cc' nc2 cc2' nv cv nv2 cv2 cc.over cc.long cc.key cc.val ((wr.alloc (.cells #[.slice Ac nc cc', .slice Av nv cv, .int .i64 cc.over, .int .i64 cc.long] 42)).alloc (.cells #[.slice Ac2 nc2 cc2', .slice Av2 nv2 cv2, .int .i64 cc.over, .int .i64 cc.long] 42)) ((hrk.below hW (Nat.le_refl _)).more hW.size) ((hrk'.below hW (Nat.le_refl _)).more hW.size) ((hrv.below hW (Nat.le_refl _)).more hW.size) ((hrv'.below hW (Nat.le_refl _)).more hW.size)
      unfold clC at hs
      have Hs := Lib.hid hs
      have HW := Lib.hid hW
      clear hs hW hbw HI k0 k1 k2 k3 k0' k1' k2' k3' hrk hrv hrk' hrv' hcj
      generalize cc.over = ov at *
      generalize cc.long = lo at *
      go_wp2_with fail
      with_reducible refine Hs.out.mono ?_
      rintro e w2 ⟨rfl, hb2⟩
      have HF := Lib.hid (HW.out.trans (hb2.mono HW.out.size))
      clear hb2 Hs HW e0 e1 e2 e3 e0' e1' e2' e3'
      go_wp2_with fail
      go_roundw
      case rel => exact ⟨j + 1, by go_num, by omega, HF⟩
      case measure => simp [intOf]; omega
    · go_wp2_with fail
      go_ret
      exact ⟨rfl, HI.out⟩
set_option maxHeartbeats 2000000 in
theorem nsame_eq (M M2 : NdM) (N : NodP) (w : World) (hr : RdN w w.heap.size M N) (hr2 : RdN w w.heap.size M2 N) (hnb : M.n ≤ 1000000) (hmb : M.m ≤ 1000000) :
    Calls Tryd.prog 21 #[.agg (ndC N.leaf M), .agg (ndC N.leaf M2)] w fun e w' => e = .returned (.bool true) ∧ Below w.heap.size w w' := by
  obtain ⟨hcl, hkl⟩ := hr.len
  obtain ⟨hcl2, hkl2⟩ := hr2.len
  have hn2 : M2.n = M.n := by omega
  have hm2 : M2.m = M.m := by omega
  have Hr := Lib.hid hr
  have Hr2 := Lib.hid hr2
  clear hr hr2 hcl hkl hcl2 hkl2
  unfold ndC
  obtain ⟨A, n, c, K, m, d⟩ := M
  obtain ⟨A2, n2, c2, K2, m2, d2⟩ := M2
  obtain ⟨lf, cs, ks⟩ := N
  simp only at hn2 hm2 hnb hmb ⊢
  subst hn2 hm2
  have hW : Below w.heap.size w ((w.alloc (.cells #[.bool lf, .slice A n2 c, .slice K m2 d] 27)).alloc (.cells #[.bool lf, .slice A2 n2 c2, .slice K2 m2 d2] 27)) := ((Below.refl _ _).alloc (Nat.le_refl _) _).alloc (by simp) _
  have hN : Bk ((w.alloc (.cells #[.bool lf, .slice A n2 c, .slice K m2 d] 27)).alloc (.cells #[.bool lf, .slice A2 n2 c2, .slice K2 m2 d2] 27)) w.heap.size 27 #[.bool lf, .slice A n2 c, .slice K m2 d] := (Bk.new _ _ _).alloc _
  have hN2 : Bk ((w.alloc (.cells #[.bool lf, .slice A n2 c, .slice K m2 d] 27)).alloc (.cells #[.bool lf, .slice A2 n2 c2, .slice K2 m2 d2] 27)) (w.heap.size + 1) 27 #[.bool lf, .slice A2 n2 c2, .slice K2 m2 d2] := Bk.new' _ _ _ (by simp)
  have Hi := Lib.hid (show Calls Tryd.prog 39 #[.slice K m2 d, .slice K2 m2 d2] ((w.alloc (.cells #[.bool lf, .slice A n2 c, .slice K m2 d] 27)).alloc (.cells #[.bool lf, .slice A2 n2 c2, .slice K2 m2 d2] 27)) fun e w' => e = .returned (.bool true) ∧ Below w.heap.size w w' ∧ Bk w' w.heap.size 27 #[.bool lf, .slice A n2 c, .slice K m2 d] ∧ Bk w' (w.heap.size + 1) 27 #[.bool lf, .slice A2 n2 c2, .slice K2 m2 d2] from (sequal_eq K K2 m2 d d2 ks _ ((Hr.out.ks.below hW (Nat.le_refl _)).more hW.size) ((Hr2.out.ks.below hW (Nat.le_refl _)).more hW.size) (by omega)).mono (by
    rintro e w' ⟨rfl, q, rfl⟩
    exact ⟨rfl, below_drewN hW q, hN.drewN q, hN2.drewN q⟩))
  have hl : (lf == lf) = true := by cases lf <;> rfl
  clear hW hN hN2
  go_enter Tryd.func21, Tryd.ntmps21
  go_wp2_with fail
  with_reducible refine Hi.out.mono ?_
  rintro e w1 ⟨rfl, hb1, hg1, hg2⟩
  have B1 := Lib.hid hb1
  have Hf := Lib.hid (sequalF_eq A A2 n2 c c2 cs w1 ((Hr.out.cs.below hb1 (Nat.le_refl _)).more hb1.size) ((Hr2.out.cs.below hb1 (Nat.le_refl _)).more hb1.size) (by omega))
  have t1 : w1.cell? ⟨w.heap.size, 1, none⟩ = some (.slice A n2 c) := hg1.cell 1
  have t2 : w1.cell? ⟨w.heap.size + 1, 1, none⟩ = some (.slice A2 n2 c2) := hg2.cell 1
  clear hb1 hg1 hg2 Hi hl
  go_wp2_with fail
  with_reducible refine Hf.out.mono ?_
  rintro e w2 ⟨rfl, hb2⟩
  have B2 := Lib.hid (B1.out.trans (hb2.mono B1.out.size))
  clear hb2
  go_wp2_with fail
  go_ret
  exact ⟨rfl, B2.out⟩
end Go.Proofs.YtelaliokmmaopaaDoor
