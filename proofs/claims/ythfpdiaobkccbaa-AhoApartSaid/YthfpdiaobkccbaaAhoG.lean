/- AhoFinds, walked. -/
import Derived.Test.YthfpdiaobkccbaaAhoS2
namespace Go.Proofs.Ythfpdiaobkccbaa
open Go.RowKit
attribute [local go_sem ↓] Go.wp_at_zero Go.wp_at_succ

section
variable {w w' : World} {base W0 S0 g : Nat} {T : Tt} {ws : List (List UInt8)} {t : List UInt8}
/-- A row of bytes grows: the words stand. -/
theorem AT.kept_bys {many : Int} (h : AT w base W0 many T) {base' n : Nat} {v : Value} {xs : List Value} (hown : w.ownsRow base' 5 1 v n xs) (hg : w.grownBy w' v.ownBlock) : AT w' base W0 many T := by
  obtain ⟨cs, h1, _⟩ := h.st
  refine h.kept hg fun b hb => ?_
  rcases hown.2 with ⟨rfl, _⟩ | ⟨g', cap, cur, rfl, _, hh, _⟩
  · cases hb
  · have e : g' = b := by simpa [Value.ownBlock] using hb
    subst e
    have hbk : Bk w g' 5 cur := hh
    exact ⟨hbk.ne h.wd (by decide), hbk.ne h1 (by decide), fun i hi => (h.mp i hi).ne hbk, fun i hi => own_ne (h.en i hi) hbk (by decide)⟩
theorem SC.kept_bys {S : List (List UInt8)} (h : SC w W0 S0 g S ws t) {base' n : Nat} {v : Value} {xs : List Value} (hown : w.ownsRow base' 5 1 v n xs) (hg : w.grownBy w' v.ownBlock) : SC w' W0 S0 g S ws t := by
  refine h.heap (hg.block _ h.sb.lt (fun e => ?_)) (hg.block _ h.fb.lt (fun e => ?_))
  · exact own_ne hown h.sb (by decide) e.symm
  · exact own_ne hown h.fb (by decide) e.symm
end
/-- What stands between the pieces. -/
structure FO (w2 wr : World) (base W0 S0 g : Nat) (T : Tt) (ws : List (List UInt8)) (t : List UInt8) (v : Value) : Prop where
  at_ : AT wr base W0 (ws.length : Int) T
  sc : SC wr W0 S0 g T.S ws t
  all : wr.ownsRow w2.heap.size 5 1 v t.length (bys t)
  hd : ∀ i, i < T.S.length → (T.V i).ownBlock ≠ some g
  sz : w2.heap.size ≤ wr.heap.size
theorem FO.below {w2 wr w' : World} {base W0 S0 g : Nat} {T : Tt} {ws : List (List UInt8)} {t : List UInt8} {v : Value} (h : FO w2 wr base W0 S0 g T ws t v) (hb : Below wr.heap.size wr w') : FO w2 w' base W0 S0 g T ws t v :=
  ⟨h.at_.below hb, h.sc.below hb, own_below h.all hb (Nat.le_refl _), h.hd, Nat.le_trans h.sz hb.size⟩
theorem flat_snoc (ps : List (List UInt8)) (k : Nat) {p : List UInt8} (h : ps[k]? = some p) : (ps.take (k + 1)).flatten = (ps.take k).flatten ++ p := by
  rw [take_step h]; simp
theorem flat_le (ps : List (List UInt8)) (h : ∀ x ∈ ps, x.length ≤ 300) : ∀ k, ((ps.take k).flatten).length ≤ 300 * k
  | 0 => by simp
  | k + 1 => by
    have ih := flat_le ps h k
    rcases hx : ps[k]? with _ | p
    · rw [List.take_of_length_le (by have := List.getElem?_eq_none_iff.1 hx; omega)]
      rw [List.take_of_length_le (by have := List.getElem?_eq_none_iff.1 hx; omega)] at ih
      omega
    · rw [flat_snoc ps k hx, List.length_append]
      have := h p (List.mem_of_getElem? hx)
      omega
theorem firsts_take (ws : List (List UInt8)) (t : List UInt8) {j : Nat} {x : List UInt8} (h : ws[j]? = some x) : firsts (ws.take (j + 1)) t = firsts (ws.take j) t ++ [fe x t] := by
  unfold firsts; rw [take_step h]; simp
theorem cntF_snoc (l : List Int) (y : Int) : cntF (l ++ [y]) = if 0 ≤ y then cntF l + 1 else cntF l := by
  unfold cntF
  rw [List.countP_append]
  by_cases h : 0 ≤ y <;> simp [h]
set_option maxHeartbeats 16000000 in
set_option maxRecDepth 100000 in
theorem ahoFinds_walk (A : Option Addr) (n c : Nat) (ws : List (List UInt8)) (A2 : Option Addr) (n2 c2 : Nat) (ps : List (List UInt8)) (w : World) (hr : RdRows w w.heap.size A n ws) (_hnc : n ≤ c) (hcm : c ≤ maxLen) (hr2 : RdRows w w.heap.size A2 n2 ps) (_hnc2 : n2 ≤ c2) (hcm2 : c2 ≤ maxLen) :
    Calls Try.prog 6 #[.slice A n c, .slice A2 n2 c2] w fun e w' => e = .returned (.bool true) ∧ Below w.heap.size w w' := by
  unfold maxLen at hcm hcm2
  have Hl := Lib.hid hr.len
  have Hl2 := Lib.hid hr2.len
  have Hr := Lib.hid hr
  have Hr2 := Lib.hid hr2
  clear hr hr2
  go_enter Try.func6, Try.ntmps6
  go_wp2_with fail
  refine (aho_wakes _).mono ?_
  rintro e w1 ⟨rfl, hb1⟩
  have hz1 := hb1.size
  have hlg := long_any A n c 100 ws w1 ((Hr.out.below hb1 (Nat.le_refl _)).more hz1) (by omega) (by omega)
  have hlg2 := long_any A2 n2 c2 300 ps w1 ((Hr2.out.below hb1 (Nat.le_refl _)).more hz1) (by omega) (by omega)
  rcases Bool.eq_false_or_eq_true (longB ws 100) with hb | hb
  · rw [hb] at hlg
    have Hlg := Lib.hid hlg
    clear hlg hlg2 hb
    go_wp2_with fail
    refine Hlg.out.mono ?_
    rintro e w2 ⟨rfl, rfl⟩
    go_wp2
    go_ret
    exact ⟨rfl, hb1⟩
  obtain ⟨hw40, hw100⟩ := longB_no hb
  rw [hb] at hlg
  have Hlg := Lib.hid hlg
  rcases Bool.eq_false_or_eq_true (longB ps 300) with hb3 | hb3
  · rw [hb3] at hlg2
    have Hlg2 := Lib.hid hlg2
    clear hlg hlg2 hb hb3 hw100
    go_wp2_with fail
    refine Hlg.out.mono ?_
    rintro e w2 ⟨rfl, rfl⟩
    go_wp2_with fail
    refine Hlg2.out.mono ?_
    rintro e w2 ⟨rfl, rfl⟩
    go_wp2
    go_ret
    exact ⟨rfl, hb1⟩
  obtain ⟨hp40, hp300⟩ := longB_no hb3
  rw [hb3] at hlg2
  have Hlg2 := Lib.hid hlg2
  have hn40 : n ≤ 40 := by have := Hl.out; omega
  have hn240 : n2 ≤ 40 := by have := Hl2.out; omega
  have Hp300 := Lib.hid hp300
  have hnw := new_any A n c ws w1 ((Hr.out.below hb1 (Nat.le_refl _)).more hz1) (by omega)
  have Hnw := Lib.hid hnw
  clear hlg hlg2 hb hb3 hnw hp300
  have hw100s := hw100
  clear hw100
  go_wp2_with fail
  refine Hlg.out.mono ?_
  rintro e w2 ⟨rfl, rfl⟩
  go_wp2_with fail
  refine Hlg2.out.mono ?_
  rintro e w2 ⟨rfl, rfl⟩
  go_wp2_with fail
  refine Hnw.out.mono ?_
  rintro e w2 ⟨hN, hb2⟩
  have hb2' := hb1.trans (hb2.mono hz1)
  have hz2 := hb2'.size
  have hre := referr_any A n c ws w2 ((Hr.out.below hb2' (Nat.le_refl _)).more hz2) (by omega)
  clear Hlg Hlg2 Hnw
  rcases hN with ⟨hne, rfl⟩ | ⟨he0, W0, rfl, hAW⟩
  · have hne2 : (errW ws != 0) = true := by rw [bne_iff_ne]; exact hne
    have Hre := Lib.hid hre
    clear hre hne
    go_wp2_with fail
    refine Hre.out.mono ?_
    rintro e w3 ⟨rfl, rfl⟩
    go_wp2
    go_ret
    exact ⟨rfl, hb2'⟩
  rw [he0] at hre
  obtain ⟨T, hA, hF⟩ := hAW
  have hw8 : ws.length ≤ 8 := by
    unfold errW at he0
    split at he0
    · cases he0
    · omega
  have hwne : ∀ x ∈ ws, x ≠ [] := by
    intro x hx e
    unfold errW at he0
    split at he0
    · cases he0
    · split at he0
      · cases he0
      · unfold empW at he0
        split at he0
        · cases he0
        · rename_i h3
          exact h3 (List.any_eq_true.2 ⟨x, hx, by rw [e]; rfl⟩)
  have hsc := scan_any _ W0 T ws w2 hA hF hwne hw8
  have Hc0 := Lib.hid (show cntF (firsts ws []) = 0 by rw [firsts_nil hwne, cntF_neg])
  have Hre := Lib.hid hre
  have Hsc := Lib.hid hsc
  have HA := Lib.hid hA
  have HF := Lib.hid hF
  clear hre hsc hA hF he0 hwne hb2
  go_wp2_with fail
  refine Hre.out.mono ?_
  rintro e w3 ⟨rfl, rfl⟩
  go_wp2_with fail
  refine Hsc.out.mono ?_
  rintro e w3 ⟨S0, g, rfl, hS, ⟨hg1, hg2, hg3⟩, hb3⟩
  obtain ⟨hA3, hd3⟩ := scan_apart HA.out hb3 hg2
  have hb3' := hb2'.trans (hb3.mono hz2)
  have hlS := hS.sb.lt
  have hlg := hS.fb.lt
  have hfo : FO w3 w3 w1.heap.size W0 S0 g T ws [] (.slice none 0 0) := ⟨hA3, hS, own_nilB _ _ _, hd3, Nat.le_refl _⟩
  have Hfo := Lib.hid hfo
  have Hb3 := Lib.hid hb3'
  clear hA3 hd3 hS hfo Hre Hsc HA hb3 hb3'
  go_wp2_with fail
  clear hb1 hz1 hb2'
  go_loopw [8, 9, 48] (fun s f i wr => ∃ (k : Nat) (A8 : Option Addr) (n8 c8 : Nat) (x : Int), s = .slice A8 n8 c8 ∧ f = .int .i64 x ∧ i = .int .i64 k ∧ k ≤ n2 ∧ Hid (x = (cntF (firsts ws (ps.take k).flatten) : Int)) ∧ Hid (FO w3 wr w1.heap.size W0 S0 g T ws (ps.take k).flatten (.slice A8 n8 c8)) ∧ Hid (Below w.heap.size w wr)) (fun _ _ i _ => n2 - (intOf i).toNat)
  case atStart => exact ⟨0, none, 0, 0, 0, rfl, rfl, rfl, Nat.zero_le _, Lib.hid (by have := Hc0.out; show (0 : Int) = ((cntF (firsts ws []) : Nat) : Int); rw [this]; rfl), Hfo.out, Hb3.out⟩
  case round =>
    obtain ⟨k, A8, n8, c8, x, rfl, rfl, rfl, hk, hx, hfo, hbw⟩ := hrel
    have hz3 := Hb3.out.size
    clear Hfo Hb3
    have hFO := hfo.out
    have hzw := hbw.out.size
    have hzr := hFO.sz
    by_cases hlt : k < n2
    · obtain ⟨bp, op, vp, p, hA2, hbp, hpk, hcp, hrp⟩ := (Hr2.out.below hbw.out (Nat.le_refl _)).at_ hlt
      obtain ⟨Ap, np, cp, rfl, hrp2, hncp⟩ := hrp
      subst hA2
      have hp3 : p.length ≤ 300 := Hp300.out p (List.mem_of_getElem? hpk)
      have hpl := hrp2.blen
      have htl : ((ps.take k).flatten).length ≤ 300 * k := flat_le ps Hp300.out k
      have hfs := flat_snoc ps k hpk
      have hnl : n8 = ((ps.take k).flatten).length := by
        rcases hFO.all.2 with ⟨e, h0⟩ | ⟨g', cap, cur, e, _⟩
        · injection e with _ e _; omega
        · injection e with _ e _
      have hn8 : n8 ≤ 12000 := by omega
      have hnp : np ≤ 300 := by omega
      have hall : wr.ownsRow w3.heap.size 5 1 (.slice A8 n8 c8) n8 (bys (ps.take k).flatten) := by have := hFO.all; rwa [← hnl] at this
      have Hall := Lib.hid hall
      have Hrp := Lib.hid (hrp2.more (Nat.le_trans hzw (Nat.le_refl _)))
      have Hfs := Lib.hid hfs
      have HrpW := Lib.hid hrp2
      have hzw' : w.heap.size ≤ w3.heap.size := by omega
      have Hpl := Lib.hid hpl
      have Hnl := Lib.hid hnl
      clear hpk hfs hrp2 hFO hpl hnl hall
      go_wp2_with ((at_builtin; refine ap_bys (base := w3.heap.size) (w0 := wr) (v := .slice A8 n8 c8) Hall.out Hrp.out (Below.refl _ _) hzr (by omega) (by rfl) (by rfl) (by rfl) ?_; intro v4 w4 hown4 hb4 hg4 hat4; obtain ⟨A4, c4, rfl, hc4, _⟩ := own_form hown4))
      have hFO := hfo.out
      have hAT4 := hFO.at_.kept_bys hFO.all hg4
      have hSC4 := hFO.sc.kept_bys hFO.all hg4
      rw [← Hfs.out] at hown4
      have hbw4 : Below w.heap.size w w4 := hbw.out.trans (hb4.mono hzw')
      have hrp4 : Rd w4 w.heap.size 1 Ap np (bys p) := (HrpW.out).below (hb4.mono hzw') (Nat.le_refl _)
      have hz4 := hb4.size
      have hpt := put_scan _ W0 S0 g T ws (ps.take k).flatten p Ap np cp w4 hAT4 HF.out hSC4 hFO.hd (fun w' hc => hrp4.apart (by omega) (fun h0 b o e => by
        obtain ⟨b', o', e', hb', _⟩ := hrp4.2 h0
        rw [e'] at e; injection e with e; injection e with e1 e2; omega) hc) (by have := Hpl.out; omega) (by omega) hw8
      rw [← Hfs.out] at hpt
      have Hlen := Lib.hid (show ((ps.take (k + 1)).flatten).length = ((ps.take k).flatten).length + np by rw [Hfs.out, List.length_append, Hpl.out])
      have Hpt := Lib.hid hpt
      have Hbw4 := Lib.hid hbw4
      have Hown4 := Lib.hid hown4
      have hhd := hFO.hd
      have Hhd := Lib.hid hhd
      have hz34 : w3.heap.size ≤ w4.heap.size := by omega
      clear hpt hbw4 hown4 hAT4 hSC4 hFO hrp4 hg4 hat4 hb4 Hall Hrp HrpW hcp hhd
      go_wp2_with fail
      refine Hpt.out.mono ?_
      rintro e w5 ⟨rfl, hA5, hS5, hc5⟩
      have own5 := own_ch Hown4.out hc5 (fun i hi h => by have := (Hown4.out.lt i hi).1; rcases h with rfl | rfl <;> omega)
      have hbw5 : Below w.heap.size w w5 := Hbw4.out.trans (hc5.below (by omega) (fun i hi => by rcases hi with rfl | rfl <;> omega))
      have hz5 := hbw5.size
      have hz45 := hc5.size
      have htl2 : ((ps.take (k + 1)).flatten).length ≤ 300 * (k + 1) := flat_le ps Hp300.out (k + 1)
      have hcb1 := cnt_le (firsts ws (ps.take (k + 1)).flatten)
      have hcb2 := cnt_le (firsts ws (ps.take k).flatten)
      rw [firsts_len] at hcb1 hcb2
      have Hown5 := Lib.hid own5
      have Hbw5 := Lib.hid hbw5
      have HA5 := Lib.hid hA5
      have HS5 := Lib.hid hS5
      clear own5 hbw5 hA5 hS5 hc5 Hpt Hown4 Hbw4 hbw hfo
      obtain ⟨wo, rfl⟩ : ∃ wo : World, wo = wr := ⟨_, rfl⟩
      go_wp2_with fail
      go_loopw [13, 14, 60] (fun u m i wr => ∃ (j : Nat) (A9 : Option Addr) (n9 c9 : Nat) (y : Int), u = .slice A9 n9 c9 ∧ m = .int .i64 y ∧ i = .int .i64 j ∧ j ≤ n ∧ (0 ≤ y ∧ y ≤ 40) ∧ Hid (y = (cntF (firsts (ws.take j) (ps.take (k + 1)).flatten) : Int)) ∧
        Hid (wr.ownsRow w5.heap.size 3 1 (.slice A9 n9 c9) j (its (firsts (ws.take j) (ps.take (k + 1)).flatten))) ∧ Hid (Below w5.heap.size w5 wr)) (fun _ _ i _ => n - (intOf i).toNat)
      case atStart => exact ⟨0, none, 0, 0, 0, rfl, rfl, rfl, Nat.zero_le _, ⟨by omega, by omega⟩, Lib.hid (by simp [firsts, cntF]), Lib.hid (by simpa [firsts] using own_nilI _ _ _), Below.refl _ _⟩
      case round =>
        obtain ⟨j, A9, n9, c9, y, rfl, rfl, rfl, hj, hy40, hy, hown, hbl⟩ := hrel
        have hzb := hbl.out.size
        by_cases hjl : j < n
        · obtain ⟨bx, ox, vx, z, hA0, hbx, hzj, hcx, hrx⟩ := (Hr.out.below (Hbw5.out.trans (hbl.out.mono hz5)) (Nat.le_refl _)).at_ hjl
          obtain ⟨Ax, nx, cx, rfl, hrx2, hncx⟩ := hrx
          subst hA0
          have i0 : (0 : Int) ≤ (j : Int) := by omega
          have i1 : (j : Int) < (n : Int) := by omega
          have hra := (Rd.of_own Hown5.out).below hbl.out (Nat.le_refl _)
          have hft := firsts_take ws (ps.take (k + 1)).flatten hzj
          have hnx : nx ≤ 100000000 := by
            have := hw100s z (List.mem_of_getElem? hzj)
            have := hrx2.blen
            omega
          have hrf := rfirst_any A4 Ax _ nx c4 cx (ps.take (k + 1)).flatten z wr (hra.more hzb) (hrx2.more (by omega)) (by omega) hnx
          have Hrf := Lib.hid hrf
          have Hft := Lib.hid hft
          clear hra hft hrf hrx2 hzj
          generalize fe z (ps.take (k + 1)).flatten = f at *
          go_wp2_with fail
          refine Hrf.out.mono ?_
          rintro e w6 ⟨rfl, q6, rfl⟩
          clear Hrf
          have hbl2 := below_drewN hbl.out q6
          have hown2 := own_drewN hown.out q6
          have hn9 : n9 = j := by
            rcases hown.out.2 with ⟨e, h0⟩ | ⟨g', cap, cur, e, _⟩
            · injection e with _ e _; omega
            · injection e with _ e _
          subst hn9
          have Hown2 := Lib.hid (hown2.alloc (.cells #[.int .i64 f] 3))
          have Hbl2 := Lib.hid (hbl2.alloc hzb (.cells #[.int .i64 f] 3))
          have hone : Rd ((wr.drewN q6).alloc (.cells #[.int .i64 f] 3)) (wr.heap.size + 1) 1 (some ⟨wr.heap.size, 0, none⟩) 1 (its [f]) := Rd.oneI (wr.drewN q6) 3 f
          have Hone := Lib.hid hone
          clear hbl2 hown2 hone hown hbl
          by_cases hf0 : 0 ≤ f
          · go_wp2_with ((at_builtin; refine ap_its (base := w5.heap.size) (w0 := w5) Hown2.out Hone.out Hbl2.out (by simp <;> omega) (by omega) (by rfl) (by rfl) (by rfl) ?_; intro v7 w7 hown7 hb7 hg7 hat7; obtain ⟨A7, c7, rfl, hc7, _⟩ := own_form hown7))
            rw [← Hft.out] at hown7
            have hcn := cntF_snoc (firsts (ws.take n9) (ps.take (k + 1)).flatten) f
            rw [← Hft.out, if_pos hf0] at hcn
            have Hcn := Lib.hid hcn
            have Hown7 := Lib.hid hown7
            clear hcn hown7
            go_roundw
            case rel => exact ⟨n9 + 1, A7, _, c7, y + 1, rfl, by go_num, by go_num, by omega, ⟨by omega, by have hc := cnt_le (firsts (ws.take (n9 + 1)) (ps.take (k + 1)).flatten); rw [firsts_len, List.length_take] at hc; have := Hcn.out; have := hy.out; omega⟩, Lib.hid (by rw [Hcn.out, hy.out]; omega), Hown7, Lib.hid hb7⟩
            case measure => simp [intOf]; omega
          · go_wp2_with ((at_builtin; refine ap_its (base := w5.heap.size) (w0 := w5) Hown2.out Hone.out Hbl2.out (by simp <;> omega) (by omega) (by rfl) (by rfl) (by rfl) ?_; intro v7 w7 hown7 hb7 hg7 hat7; obtain ⟨A7, c7, rfl, hc7, _⟩ := own_form hown7))
            rw [← Hft.out] at hown7
            have hcn := cntF_snoc (firsts (ws.take n9) (ps.take (k + 1)).flatten) f
            rw [← Hft.out, if_neg (by omega)] at hcn
            have Hcn := Lib.hid hcn
            have Hown7 := Lib.hid hown7
            clear hcn hown7
            go_roundw
            case rel => exact ⟨n9 + 1, A7, _, c7, y, rfl, rfl, by go_num, by omega, hy40, Lib.hid (by rw [Hcn.out]; exact hy.out), Hown7, Lib.hid hb7⟩
            case measure => simp [intOf]; omega
        · have htk : ws.take j = ws := List.take_of_length_le (by have := Hl.out; omega)
          obtain rfl : n = j := by omega
          rw [htk] at hy hown
          have hSC := HS5.out.below hbl.out
          have hAT := HA5.out.below hbl.out
          have hfi := first_any W0 S0 g T.S ws (ps.take (k + 1)).flatten wr hSC hw8
          have Hfi := Lib.hid hfi
          have HSC := Lib.hid hSC
          have HAT := Lib.hid hAT
          clear hfi hSC hAT htk HS5 HA5
          go_wp2_with fail
          refine Hfi.out.mono ?_
          rintro e w6 ⟨v6, rfl, hv6, hb6⟩
          obtain ⟨A6, c6, rfl, hc6, _⟩ := own_form hv6
          have hz6 := hb6.size
          have hn9 : n = n9 := by
            rcases hown.out.2 with ⟨e, h0⟩ | ⟨g', cap, cur, e, _⟩
            · injection e with _ e _; omega
            · injection e with _ e _; omega
          subst hn9
          have hrd : Rd w6 w6.heap.size 1 A9 n (its (firsts ws (ps.take (k + 1)).flatten)) := Rd.of_own (own_below hown.out hb6 (Nat.le_refl _))
          have hin := ints_eq (c := c6) (d := c9) (Rd.of_own hv6) hrd (by omega) (by omega) rfl
          have Hin := Lib.hid hin
          have hb66 : Below w5.heap.size w5 w6 := hbl.out.trans (hb6.mono hzb)
          have Hb66 := Lib.hid hb66
          have HSC6 := Lib.hid (HSC.out.below hb6)
          have HAT6 := Lib.hid (HAT.out.below hb6)
          clear hin hb66 hv6 hb6 HSC HAT Hfi
          go_wp2_with fail
          refine Hin.out.mono ?_
          rintro e w7 ⟨rfl, q7, rfl⟩
          have hal := all_any W0 S0 g T.S ws (ps.take (k + 1)).flatten (w6.drewN q7) (HSC6.out.drewN q7) hw8
          have hle := fun q8 => len_any W0 S0 g T.S ws (ps.take (k + 1)).flatten (w6.drewN q8) (HSC6.out.drewN q8)
          have hyo := hy.out
          have hxo := hx.out
          subst hyo
          subst hxo
          have hnl8 : ((ps.take (k + 1)).flatten).length = n8 + np := by have := Hlen.out; have := Hnl.out; omega
          rw [hnl8] at hle
          have Hle := Lib.hid hle
          have hfo9 : ∀ q8, FO w3 (w6.drewN q8) w1.heap.size W0 S0 g T ws (ps.take (k + 1)).flatten (.slice A4 (n8 + np) c4) := fun q8 =>
            ⟨HAT6.out.drewN q8, HSC6.out.drewN q8, by rw [hnl8]; exact own_drewN (own_below Hown5.out Hb66.out (Nat.le_refl _)) q8, Hhd.out, by have := Hb66.out.size; show w3.heap.size ≤ w6.heap.size; omega⟩
          have hbw9 : ∀ q8, Below w.heap.size w (w6.drewN q8) := fun q8 => below_drewN (Hbw5.out.trans (Hb66.out.mono hz5)) q8
          have Hfo9 := Lib.hid hfo9
          have Hbw9 := Lib.hid hbw9
          have Hle := Lib.hid hle
          clear hfo9 hbw9 hle hnl8 Hlen Hnl
          by_cases hall : cntF (firsts ws (ps.take (k + 1)).flatten) = n
          · have ha : (((cntF (firsts ws (ps.take (k + 1)).flatten) : Nat) : Int) == ((ws.length : Nat) : Int)) = true := by rw [Hl.out, hall]; exact beq_self_eq_true _
            rw [ha] at hal
            have Hal := Lib.hid hal
            clear hal ha
            go_wp2_with fail
            refine Hal.out.mono ?_
            rintro e w8 ⟨rfl, q8, rfl⟩
            go_wp2_with fail
            refine (Hle.out (q7 + q8)).mono ?_
            rintro e w9 ⟨rfl, rfl⟩
            go_wp2_with fail
            go_roundw
            case rel => exact ⟨k + 1, A4, _, c4, _, rfl, rfl, by go_num, by omega, Lib.hid (by rw [hall]), Lib.hid (Hfo9.out _), Lib.hid (Hbw9.out _)⟩
            case measure => simp [intOf]; omega
          · have ha : (((cntF (firsts ws (ps.take (k + 1)).flatten) : Nat) : Int) == ((ws.length : Nat) : Int)) = false := by rw [Hl.out]; simp; omega
            rw [ha] at hal
            have Hal := Lib.hid hal
            clear hal ha
            go_wp2_with fail
            refine Hal.out.mono ?_
            rintro e w8 ⟨rfl, q8, rfl⟩
            go_wp2_with fail
            refine (Hle.out (q7 + q8)).mono ?_
            rintro e w9 ⟨rfl, rfl⟩
            go_wp2_with fail
            go_roundw
            case rel => exact ⟨k + 1, A4, _, c4, _, rfl, rfl, by go_num, by omega, Lib.hid rfl, Lib.hid (Hfo9.out _), Lib.hid (Hbw9.out _)⟩
            case measure => simp [intOf]; omega
    · go_wp2
      go_ret
      exact ⟨rfl, hbw.out⟩
end Go.Proofs.Ythfpdiaobkccbaa
