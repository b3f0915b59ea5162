/- The document's Same, of alike nodes. -/
import Derived.Test.YtelaliokmmaopaaDoorNod2
import Derived.Test.YtelaliokmmaopaaDoorIntS
import Derived.Test.YtelaliokmmaopaaDoorSame
namespace Go.Proofs.YtelaliokmmaopaaDoor
open Go.RowKit
attribute [local go_sem ↓] Go.wp_at_zero Go.wp_at_succ

set_option maxHeartbeats 4000000 in
set_option maxRecDepth 100000 in
theorem rsame_eq (M M2 : NdM) (N : NodP) (w : World) (hr : RdN w w.heap.size M N) (hr2 : RdN w w.heap.size M2 N) (hnb : M.n ≤ 1000000) (hmb : M.m ≤ 1000000) (hkb : ∀ c ∈ N.cells, c.key.length ≤ 1000000 ∧ c.val.length ≤ 1000000) :
    Calls Tryd.prog 11 #[.agg (ndC N.leaf M), .agg (ndC N.leaf M2)] w fun e w' => e = .returned (.bool true) ∧ Below w.heap.size w w' := by
  obtain ⟨hcl, hkl⟩ := hr.len
  obtain ⟨hcl2, hkl2⟩ := hr2.len
  have hn2 : M2.n = M.n := by omega
  have hm2 : M2.m = M.m := by omega
  have Hin := Lib.hid (fun W (hb : Below w.heap.size w W) => ints_any M.K M2.K M.m M2.m M.d M2.d N.kids N.kids W ((hr.ks.below hb (Nat.le_refl _)).more hb.size) ((hr2.ks.below hb (Nat.le_refl _)).more hb.size) (by omega) (by omega))
  have Hcs := Lib.hid hr.cs
  have Hcs2 := Lib.hid hr2.cs
  have Hkb := Lib.hid hkb
  clear hr hr2 hcl hkl hcl2 hkl2 hkb
  unfold ndC
  obtain ⟨A, n, c, K, m, d⟩ := M
  obtain ⟨A2, n2, c2, K2, m2, d2⟩ := M2
  obtain ⟨lf, cs, ks⟩ := N
  simp only at Hin Hcs Hcs2 Hkb hn2 hm2 hnb hmb ⊢
  subst hn2 hm2
  have hW : Below w.heap.size w ((w.alloc (.cells #[.bool lf, .slice A n2 c, .slice K m2 d] 27)).alloc (.cells #[.bool lf, .slice A2 n2 c2, .slice K2 m2 d2] 27)) := ((Below.refl _ _).alloc (Nat.le_refl _) _).alloc (by simp) _
  have hN : Bk ((w.alloc (.cells #[.bool lf, .slice A n2 c, .slice K m2 d] 27)).alloc (.cells #[.bool lf, .slice A2 n2 c2, .slice K2 m2 d2] 27)) w.heap.size 27 #[.bool lf, .slice A n2 c, .slice K m2 d] := (Bk.new _ _ _).alloc _
  have hN2 : Bk ((w.alloc (.cells #[.bool lf, .slice A n2 c, .slice K m2 d] 27)).alloc (.cells #[.bool lf, .slice A2 n2 c2, .slice K2 m2 d2] 27)) (w.heap.size + 1) 27 #[.bool lf, .slice A2 n2 c2, .slice K2 m2 d2] := Bk.new' _ _ _ (by simp)
  have Hi := Lib.hid (show Calls Tryd.prog 27 #[.slice K m2 d, .slice K2 m2 d2] ((w.alloc (.cells #[.bool lf, .slice A n2 c, .slice K m2 d] 27)).alloc (.cells #[.bool lf, .slice A2 n2 c2, .slice K2 m2 d2] 27)) fun e w' => e = .returned (.bool true) ∧ Below w.heap.size w w' ∧ Bk w' w.heap.size 27 #[.bool lf, .slice A n2 c, .slice K m2 d] ∧ Bk w' (w.heap.size + 1) 27 #[.bool lf, .slice A2 n2 c2, .slice K2 m2 d2] from (Hin.out _ hW).mono (by
    rintro e w' ⟨rfl, q, rfl⟩
    exact ⟨by simp, below_drewN hW q, hN.drewN q, hN2.drewN q⟩))
  have hl : (lf != lf) = false := by cases lf <;> rfl
  clear hW hN hN2 Hin
  go_enter Tryd.func11, Tryd.ntmps11
  go_wp2_with fail
  with_reducible refine Hi.out.mono ?_
  rintro e w1 ⟨rfl, hb1, hg1, hg2⟩
  have HI1 := Lib.hid (And.intro hb1 (And.intro hg1 hg2))
  have t1 : w1.cell? ⟨w.heap.size, 1, none⟩ = some (.slice A n2 c) := hg1.cell 1
  have t2 : w1.cell? ⟨w.heap.size + 1, 1, none⟩ = some (.slice A2 n2 c2) := hg2.cell 1
  clear hb1 hg1 hg2 Hi hl
  go_wp2_with fail
  go_loopw [5] (fun idx wr => ∃ j : Nat, idx = .int .i64 j ∧ j ≤ n2 ∧ Hid (Below w.heap.size w wr ∧ Bk wr w.heap.size 27 #[.bool lf, .slice A n2 c, .slice K m2 d] ∧ Bk wr (w.heap.size + 1) 27 #[.bool lf, .slice A2 n2 c2, .slice K2 m2 d2])) (fun idx _ => n2 - (intOf idx).toNat)
  case atStart => exact ⟨0, rfl, Nat.zero_le _, HI1⟩
  case round =>
    obtain ⟨j, rfl, hj, HI⟩ := hrel
    obtain ⟨hbw, hg1, hg2⟩ := HI.out
    have r1 : wr.cell? ⟨w.heap.size, 1, none⟩ = some (.slice A n2 c) := hg1.cell 1
    have r2 : wr.cell? ⟨w.heap.size + 1, 1, none⟩ = some (.slice A2 n2 c2) := hg2.cell 1
    clear HI1 t1 t2
    by_cases hlt : j < n2
    · obtain ⟨b, o, cc, Ac, nc, cc', Av, nv, cv, rfl, hb, hcj, k0, hrk, hnck, k1, hrv, hncv, k2, k3⟩ := Hcs.out.at_ hlt
      obtain ⟨b', o', cc2, Ac2, nc2, cc2', Av2, nv2, cv2, rfl, hb', hcj', k0', hrk', hnck', k1', hrv', hncv', k2', k3'⟩ := Hcs2.out.at_ hlt
      rw [hcj] at hcj'
      injection hcj' with hcj'
      subst hcj'
      have hkb := Hkb.out cc (List.mem_of_getElem? hcj)
      have hk1 := hrk.blen
      have hk2 := hrk'.blen
      have hv1 := hrv.blen
      have hv2 := hrv'.blen
      have e0 := (hbw.cell (p := ⟨b, o + j * 4, none⟩) (by show b < _; omega)).trans k0
      have e1 := (hbw.cell (p := ⟨b, o + j * 4 + 1, none⟩) (by show b < _; omega)).trans k1
      have e2 := (hbw.cell (p := ⟨b, o + j * 4 + 2, none⟩) (by show b < _; omega)).trans k2
      have e3 := (hbw.cell (p := ⟨b, o + j * 4 + 3, none⟩) (by show b < _; omega)).trans k3
      have hzr := hg2.lt
      have e0' : (wr.alloc (.cells #[.slice Ac nc cc', .slice Av nv cv, .int .i64 cc.over, .int .i64 cc.long] 42)).cell? ⟨b', o' + j * 4, none⟩ = some (.slice Ac2 nc2 cc2') := (World.cell?_alloc_lt wr _ ⟨b', _, none⟩ (by show b' < _; omega)).trans ((hbw.cell (p := ⟨b', o' + j * 4, none⟩) (by show b' < _; omega)).trans k0')
      have e1' : (wr.alloc (.cells #[.slice Ac nc cc', .slice Av nv cv, .int .i64 cc.over, .int .i64 cc.long] 42)).cell? ⟨b', o' + j * 4 + 1, none⟩ = some (.slice Av2 nv2 cv2) := (World.cell?_alloc_lt wr _ ⟨b', _, none⟩ (by show b' < _; omega)).trans ((hbw.cell (p := ⟨b', o' + j * 4 + 1, none⟩) (by show b' < _; omega)).trans k1')
      have e2' : (wr.alloc (.cells #[.slice Ac nc cc', .slice Av nv cv, .int .i64 cc.over, .int .i64 cc.long] 42)).cell? ⟨b', o' + j * 4 + 2, none⟩ = some (.int .i64 cc.over) := (World.cell?_alloc_lt wr _ ⟨b', _, none⟩ (by show b' < _; omega)).trans ((hbw.cell (p := ⟨b', o' + j * 4 + 2, none⟩) (by show b' < _; omega)).trans k2')
      have e3' : (wr.alloc (.cells #[.slice Ac nc cc', .slice Av nv cv, .int .i64 cc.over, .int .i64 cc.long] 42)).cell? ⟨b', o' + j * 4 + 3, none⟩ = some (.int .i64 cc.long) := (World.cell?_alloc_lt wr _ ⟨b', _, none⟩ (by show b' < _; omega)).trans ((hbw.cell (p := ⟨b', o' + j * 4 + 3, none⟩) (by show b' < _; omega)).trans k3')
      have r3 : (wr.alloc (.cells #[.slice Ac nc cc', .slice Av nv cv, .int .i64 cc.over, .int .i64 cc.long] 42)).cell? ⟨w.heap.size + 1, 1, none⟩ = some (.slice (some ⟨b', o', none⟩) n2 c2) := (hg2.alloc _).cell 1
      have HK := Lib.hid (show ∀ X Y, Below w.heap.size w ((wr.alloc (.cells X 42)).alloc (.cells Y 42)) ∧ Bk ((wr.alloc (.cells X 42)).alloc (.cells Y 42)) w.heap.size 27 #[.bool lf, .slice (some ⟨b, o, none⟩) n2 c, .slice K m2 d] ∧ Bk ((wr.alloc (.cells X 42)).alloc (.cells Y 42)) (w.heap.size + 1) 27 #[.bool lf, .slice (some ⟨b', o', none⟩) n2 c2, .slice K2 m2 d2] ∧ Bk ((wr.alloc (.cells X 42)).alloc (.cells Y 42)) wr.heap.size 42 X ∧ Bk ((wr.alloc (.cells X 42)).alloc (.cells Y 42)) (wr.heap.size + 1) 42 Y from fun X Y =>
        ⟨(hbw.alloc hbw.size _).alloc (by have := hbw.size; simp; omega) _, (hg1.alloc _).alloc _, (hg2.alloc _).alloc _, (Bk.new _ _ _).alloc _, Bk.new' _ _ _ (by simp)⟩)
      have Hsk := Lib.hid (show ∀ W, Below w.heap.size w W → Calls Tryd.prog 17 #[.slice Ac nc cc', .slice Ac2 nc2 cc2'] W fun e w' => e = .returned (.bool true) ∧ ∃ q, w' = W.drewN q from fun W hb => (same_any Ac Ac2 nc nc2 cc' cc2' cc.key cc.key W ((hrk.below hb (Nat.le_refl _)).more hb.size) ((hrk'.below hb (Nat.le_refl _)).more hb.size) (by omega) (by omega)).mono (fun e w' h => ⟨by rw [h.1]; simp, h.2⟩))
      have Hsv := Lib.hid (show ∀ W, Below w.heap.size w W → Calls Tryd.prog 17 #[.slice Av nv cv, .slice Av2 nv2 cv2] W fun e w' => e = .returned (.bool true) ∧ ∃ q, w' = W.drewN q from fun W hb => (same_any Av Av2 nv nv2 cv cv2 cc.val cc.val W ((hrv.below hb (Nat.le_refl _)).more hb.size) ((hrv'.below hb (Nat.le_refl _)).more hb.size) (by omega) (by omega)).mono (fun e w' h => ⟨by rw [h.1]; simp, h.2⟩))
      clear hbw hg1 hg2 HI hkb hk1 hk2 hv1 hv2 k0 k1 k2 k3 k0' k1' k2' k3' hrk hrv hrk' hrv' hcj
      generalize cc.over = ov at *
      generalize cc.long = lo at *
      go_wp2_with fail
      have HKK := Lib.hid (HK.out #[.slice Ac nc cc', .slice Av nv cv, .int .i64 ov, .int .i64 lo] #[.slice Ac2 nc2 cc2', .slice Av2 nv2 cv2, .int .i64 ov, .int .i64 lo])
      generalize (wr.alloc (.cells #[.slice Ac nc cc', .slice Av nv cv, .int .i64 ov, .int .i64 lo] 42)).alloc (.cells #[.slice Ac2 nc2 cc2', .slice Av2 nv2 cv2, .int .i64 ov, .int .i64 lo] 42) = W1 at *
      clear e0 e1 e2 e3 e0' e1' e2' e3' r1 r2 r3 HK
      obtain ⟨hw1, hn1, hn2, hx1, hx2⟩ := HKK.out
      have f0 : W1.cell? ⟨wr.heap.size, 0, none⟩ = some (.slice Ac nc cc') := hx1.cell 0
      have f1 : W1.cell? ⟨wr.heap.size, 1, none⟩ = some (.slice Av nv cv) := hx1.cell 1
      have f2 : W1.cell? ⟨wr.heap.size, 2, none⟩ = some (.int .i64 ov) := hx1.cell 2
      have f3 : W1.cell? ⟨wr.heap.size, 3, none⟩ = some (.int .i64 lo) := hx1.cell 3
      have g0 : W1.cell? ⟨wr.heap.size + 1, 0, none⟩ = some (.slice Ac2 nc2 cc2') := hx2.cell 0
      have g1 : W1.cell? ⟨wr.heap.size + 1, 1, none⟩ = some (.slice Av2 nv2 cv2) := hx2.cell 1
      have g2 : W1.cell? ⟨wr.heap.size + 1, 2, none⟩ = some (.int .i64 ov) := hx2.cell 2
      have g3 : W1.cell? ⟨wr.heap.size + 1, 3, none⟩ = some (.int .i64 lo) := hx2.cell 3
      have HS0 := Lib.hid (Hsk.out W1 hw1)
      have HS1 := Lib.hid (fun q => Hsv.out (W1.drewN q) (below_drewN hw1 q))
      have Hfin := Lib.hid (show ∀ q, Below w.heap.size w (W1.drewN q) ∧ Bk (W1.drewN q) w.heap.size 27 #[.bool lf, .slice (some ⟨b, o, none⟩) n2 c, .slice K m2 d] ∧ Bk (W1.drewN q) (w.heap.size + 1) 27 #[.bool lf, .slice (some ⟨b', o', none⟩) n2 c2, .slice K2 m2 d2] from fun q => ⟨below_drewN hw1 q, hn1.drewN q, hn2.drewN q⟩)
      clear hw1 hn1 hn2 hx1 hx2 HKK Hsk Hsv
      with_reducible refine HS0.out.mono ?_
      rintro e w3 ⟨rfl, q, rfl⟩
      go_wp2_with fail
      with_reducible refine (HS1.out q).mono ?_
      rintro e w4 ⟨rfl, q2, rfl⟩
      go_wp2_with fail
      go_roundw
      case rel => exact ⟨j + 1, by go_num, by omega, Lib.hid (by first | exact Hfin.out _ | (simp only [World.drewN_drewN]; exact Hfin.out _))⟩
      case measure => simp [intOf]; omega
    · have HB := Lib.hid hbw
      clear hbw hg1 hg2 HI
      go_wp2_with fail
      go_ret
      exact ⟨rfl, HB.out⟩
end Go.Proofs.YtelaliokmmaopaaDoor
