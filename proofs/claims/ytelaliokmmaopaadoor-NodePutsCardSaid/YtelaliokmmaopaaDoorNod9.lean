/- The document's Right. Written by nodgen.py. -/
import Derived.Test.YtelaliokmmaopaaDoorNod8
namespace Go.Proofs.YtelaliokmmaopaaDoor
open Go.RowKit
attribute [local go_sem ↓] Go.wp_at_zero Go.wp_at_succ

theorem kid_any (k : Int) (w : World) : Calls Tryd.prog 28 #[.int .i64 k] w fun e w' => e = .returned (.bool (childB k)) ∧ w = w' := by
  by_cases h1 : 1 ≤ k
  · by_cases h2 : k < 16777216
    · have Hc := Lib.hid (show childB k = true by unfold childB; simp [h1, h2])
      go_enter Tryd.func28, Tryd.ntmps28
      go_wp2
      all_goals
        go_ret
        exact ⟨ret_bool (by rw [Hc.out]; try simp_all), rfl⟩
    · have Hc := Lib.hid (show childB k = false by unfold childB; simp [h2])
      go_enter Tryd.func28, Tryd.ntmps28
      go_wp2
      all_goals
        go_ret
        exact ⟨ret_bool (by rw [Hc.out]; try simp_all), rfl⟩
  · have Hc := Lib.hid (show childB k = false by unfold childB; simp [h1])
    have h1' : decide (1 ≤ k) = false := by simpa using h1
    go_enter Tryd.func28, Tryd.ntmps28
    go_wp2
    all_goals
      go_ret
      exact ⟨ret_bool (by rw [Hc.out]; try simp_all), rfl⟩
theorem childB_no {k : Int} (h : ¬ childP k) : childB k = false := by
  cases e : childB k
  · rfl
  · exact absurd (childB_iff.1 e) h
set_option maxHeartbeats 4000000 in
set_option maxRecDepth 100000 in
theorem rright_any (M : NdM) (N : NodP) (w : World) (hr : RdN w w.heap.size M N) (hnb : M.n ≤ 100) (hmb : M.m ≤ 100) :
    Calls Tryd.prog 13 #[.agg (ndC N.leaf M)] w fun e w' => e = .returned (.bool (rightB N)) ∧ Below w.heap.size w w' := by
  obtain ⟨hcl, hkl⟩ := hr.len
  have Hr := Lib.hid hr
  have Hrb := Lib.hid (fun h : ¬ RightP N => rightB_false h)
  have Hrt := Lib.hid (fun h : RightP N => rightB_true h)
  unfold ndC
  obtain ⟨A, n, c, K, m, d⟩ := M
  simp only at hnb hmb hcl hkl ⊢
  obtain ⟨leaf, hleaf⟩ : ∃ b, N.leaf = b := ⟨_, rfl⟩
  rw [hleaf]
  have Hleaf := Lib.hid hleaf
  have Hcl := Lib.hid hcl
  have Hkl := Lib.hid hkl
  clear hr hleaf hcl hkl
  generalize rightB N = rb at *
  have h65 : ¬ (65535 : Int) < (n : Int) := by omega
  cases leaf
  · by_cases hm : m = n + 1
    · subst hm
      clear hmb
      go_enter Tryd.func13, Tryd.ntmps13
      go_wp2_with fail
      clear h65
      go_loop [4] (fun i => ∃ j : Nat, i = .int .i64 j ∧ j ≤ (n + 1) ∧ Hid (∀ i k, i < j → N.kids[i]? = some k → childP k)) (fun i => (n + 1) - (intOf i).toNat)
      case atStart => exact ⟨0, rfl, Nat.zero_le _, Lib.hid (fun i k h => by omega)⟩
      case round =>
        obtain ⟨j, rfl, hj, hall⟩ := hrel
        by_cases hlt : j < (n + 1)
        · obtain ⟨b, o, u, rfl, hb, hu, hc⟩ := Hr.out.ks.num hlt
          have hkd := Lib.hid (fun W => kid_any u W)
          have Hu := Lib.hid hu
          have hc' : (w.alloc (.cells #[.bool false, .slice A n c, .slice (some ⟨b, o, none⟩) (n + 1) d] 27)).cell? ⟨b, o + j, none⟩ = some (.int .i64 u) := (World.cell?_alloc_lt w _ ⟨b, o + j, none⟩ hb).trans hc
          clear hu hc
          by_cases hch : childP u
          · rw [childB_iff.2 hch] at hkd
            have Hch := Lib.hid (show ∀ i k, i < j + 1 → N.kids[i]? = some k → childP k from fun i k hi hk => by
              by_cases h : i = j
              · subst h; rw [Hu.out] at hk; injection hk with hk; subst hk; exact hch
              · exact hall.out i k (by omega) hk)
            clear hch
            go_wp2_with fail
            refine (hkd.out _).mono ?_
            rintro e w1 ⟨rfl, rfl⟩
            go_wp2_with fail
            go_round
            case rel => exact ⟨j + 1, by go_num, by omega, Hch⟩
            case measure => simp [intOf]; omega
          · rw [childB_no hch] at hkd
            have Hb := Lib.hid (Hrb.out (fun h => hch (h.2.2 u (List.mem_of_getElem? Hu.out))))
            clear hch
            go_wp2_with fail
            refine (hkd.out _).mono ?_
            rintro e w1 ⟨rfl, rfl⟩
            go_wp2
            go_ret
            exact ⟨ret_bool Hb.out.symm, (Below.refl _ _).alloc (Nat.le_refl _) _⟩
        · obtain rfl : (n + 1) = j := by omega
          have Hks := Lib.hid (show ∀ k ∈ N.kids, childP k from fun k hk => by
            obtain ⟨i, hi, rfl⟩ := List.getElem_of_mem hk
            exact hall.out i _ (by have := Hkl.out; omega) (List.getElem?_eq_getElem hi))
          clear hall
          go_wp2_with fail
          go_loopw [5] (fun idx wr => ∃ j : Nat, idx = .int .i64 j ∧ j ≤ n ∧ Hid (Below w.heap.size w wr ∧ Bk wr w.heap.size 27 #[.bool false, .slice A n c, .slice K (n + 1) d] ∧ CellsTo false N.cells j)) (fun idx _ => n - (intOf idx).toNat)
          case atStart => exact ⟨0, rfl, Nat.zero_le _, Lib.hid ⟨(Below.refl _ _).alloc (Nat.le_refl _) _, Bk.new _ _ _, CellsTo.zero _ _⟩⟩
          case round =>
            obtain ⟨j, rfl, hj, HI⟩ := hrel
            obtain ⟨hbw, hbk, hct⟩ := HI.out
            have t0 : wr.cell? ⟨w.heap.size, 0, none⟩ = some (.bool false) := hbk.cell 0
            have t1 : wr.cell? ⟨w.heap.size, 1, none⟩ = some (.slice A n c) := hbk.cell 1
            have hzl := hbk.lt
            have Hbw := Lib.hid hbw
            have Hbk := Lib.hid hbk
            have Hct := Lib.hid hct
            clear hbw hbk hct HI
            by_cases hlt : j < n
            · obtain ⟨b, o, cc, Ak, nk, ck, Av, nv, cv, rfl, hb, hcj, k0, hrk, hnck, k1, hrv, hncv, k2, k3⟩ := Hr.out.cs.at_ hlt
              have e0 := (Hbw.out.cell (p := ⟨b, o + j * 4, none⟩) (by show b < _; omega)).trans k0
              have e1 := (Hbw.out.cell (p := ⟨b, o + j * 4 + 1, none⟩) (by show b < _; omega)).trans k1
              have e2 := (Hbw.out.cell (p := ⟨b, o + j * 4 + 2, none⟩) (by show b < _; omega)).trans k2
              have e3 := (Hbw.out.cell (p := ⟨b, o + j * 4 + 3, none⟩) (by show b < _; omega)).trans k3
              have hkl := hrk.blen
              have hvl := hrv.blen
              have Hcj := Lib.hid hcj
              have Hrk := Lib.hid hrk
              have Hrv := Lib.hid hrv
              clear k0 k1 k2 k3 hrk hrv hcj
              have Hbad := Lib.hid (show ¬ okC false cc → rb = false from fun h => Hrb.out (fun hh => CellsTo.bad Hcj.out h (by have := hh.2.1; rw [Hleaf.out] at this; exact this)))
              have Hal := Lib.hid (Hbw.out.alloc Hbw.out.size (.cells (clC Ak nk ck Av nv cv cc.over cc.long) 42))
              have Hbl := Lib.hid (Hbk.out.alloc (.cells (clC Ak nk ck Av nv cv cc.over cc.long) 42))
              simp only [clC] at Hal Hbl
              by_cases hk1 : 1 ≤ nk
              · have d1 : decide ((nk : Int) < 1) = false := by simp; omega
                by_cases hk2 : nk ≤ 120
                · have d2 : decide ((120 : Int) < (nk : Int)) = false := by simp; omega
                  rcases Nat.eq_zero_or_pos j with h0 | h0
                  · subst h0
                    simp only [Nat.zero_mul, Nat.add_zero] at e0 e1 e2 e3
                    go_wp2_with fail
                    go_quiet (fail)
                    clear d1 d2
                    by_cases o0 : cc.over = 0
                    · by_cases o1 : cc.long = 0
                      · by_cases o2 : nv = 0
                        · have hok : okC false cc := ⟨⟨by omega, by omega⟩, by simp; exact ⟨o0, o1, List.length_eq_zero_iff.1 (by omega)⟩⟩
                          have Hn := Lib.hid (And.intro (below_drewN Hal.out nq) (And.intro (Hbl.out.drewN nq) (Hct.out.succ Hcj.out hok (fun p h hp => by omega))))
                          generalize cc.over = ov at *
                          generalize cc.long = lo at *
                          subst o0 o1 o2
                          clear hok hvl
                          go_wp2_with fail
                          go_roundw
                          case rel => exact ⟨0 + 1, by first | rfl | go_num, by omega, Hn⟩
                          case measure => simp [intOf]; omega
                        · have Hb := Lib.hid (Hbad.out (fun h => o2 (by have := h.2; simp at this; have := this.2.2; rw [this] at hvl; simpa using hvl.symm)))
                          have a3 : (0 : Int) < (nv : Int) := by omega
                          generalize cc.over = ov at *
                          generalize cc.long = lo at *
                          subst o0 o1
                          clear o2 hvl
                          go_wp2
                          go_ret
                          exact ⟨ret_bool Hb.out.symm, below_drewN Hal.out _⟩
                      · have Hb := Lib.hid (Hbad.out (fun h => o1 (by have := h.2; simp at this; exact this.2.1)))
                        have a3 : (cc.long != 0) = true := by simpa using o1
                        generalize cc.over = ov at *
                        generalize cc.long = lo at *
                        subst o0
                        clear o1
                        by_cases o2 : (0 : Int) < (nv : Int)
                        · go_wp2
                          go_ret
                          exact ⟨ret_bool Hb.out.symm, below_drewN Hal.out _⟩
                        · obtain rfl : nv = 0 := by omega
                          go_wp2
                          go_ret
                          exact ⟨ret_bool Hb.out.symm, below_drewN Hal.out _⟩
                    · have Hb := Lib.hid (Hbad.out (fun h => o0 (by have := h.2; simp at this; exact this.1)))
                      have a3 : (cc.over != 0) = true := by simpa using o0
                      generalize cc.over = ov at *
                      generalize cc.long = lo at *
                      clear o0
                      by_cases o2 : (0 : Int) < (nv : Int)
                      · go_wp2
                        go_ret
                        exact ⟨ret_bool Hb.out.symm, below_drewN Hal.out _⟩
                      · obtain rfl : nv = 0 := by omega
                        go_wp2
                        go_ret
                        exact ⟨ret_bool Hb.out.symm, below_drewN Hal.out _⟩
                  · obtain ⟨i, rfl⟩ : ∃ i, j = i + 1 := ⟨j - 1, by omega⟩
                    obtain ⟨b2, o2', pp, Pk, pn, pc, Pv, pvn, pvc, hA, _, hpj, p0, hpk, hpnc, _, _, _, _, _⟩ := Hr.out.cs.at_ (k := i) (by show i < n; omega)
                    injection hA with hA
                    injection hA with hA1 hA2
                    subst hA1 hA2
                    have g0 := (Hbw.out.cell (p := ⟨b, o + i * 4, none⟩) (by show b < _; omega)).trans p0
                    have G1 := Lib.hid (show (wr.alloc (.cells #[.slice Ak nk ck, .slice Av nv cv, .int .i64 cc.over, .int .i64 cc.long] 42)).cell? ⟨b, o + i * 4, none⟩ = some (.slice Pk pn pc) from (World.cell?_alloc_lt wr _ ⟨b, o + i * 4, none⟩ (by show b < _; omega)).trans g0)
                    have hpl := hpk.blen
                    have Hle : pn ≤ 1000000000 → Hid (∀ W, Below w.heap.size w W → Calls Tryd.prog 16 #[.slice Pk pn pc, .slice Ak nk ck] W fun e w' => e = .returned (.bool (ltL pp.key cc.key)) ∧ ∃ q, w' = W.drewN q) := fun hpn => Lib.hid (fun W (hb : Below w.heap.size w W) => less_any Pk Ak pn pc nk ck pp.key cc.key W ((hpk.below hb (Nat.le_refl _)).more hb.size) ((Hrk.out.below hb (Nat.le_refl _)).more hb.size) hpn (by omega))
                    have hpn : pn ≤ 1000000000 := by have := (Hct.out.1 i pp (by omega) hpj).1.2; omega
                    have Hle := Hle hpn
                    have Hpj := Lib.hid hpj
                    clear hpj hpk p0 h0 hpl hpn g0
                    rcases Bool.eq_false_or_eq_true (ltL pp.key cc.key) with hcm | hcm
                    · have Hlt := Lib.hid (show Lib.compareBytes pp.key cc.key < 0 from of_decide_eq_true hcm)
                      rw [hcm] at Hle
                      clear hcm
                      go_wp2_with fail
                      have q1 : IntKind.i64.wrap ((i : Int) + 1 - 1) = (i : Int) := by rw [IntWalk.i64_in _ (by omega)]; omega
                      have q2 : IntKind.i64.wrap (i : Int) = (i : Int) := IntWalk.i64_in _ (by omega)
                      have q3 : decide ((0 : Int) < (i : Int) + 1) = true := by first | (simp; done) | (simp; omega)
                      have q4 : (i : Int) < (n : Int) := by omega
                      have q5 : i < n := by omega
                      have q6 : (0 : Int) ≤ (i : Int) := by omega
                      have g1 := G1.out
                      go_quiet ((go_at_call 16; exact Calls.quiet_of (Hle.out _ (below_drewN Hal.out _))))
                      clear q1 q2 q3 q4 q5 q6 g1 G1 d1 d2
                      by_cases o0 : cc.over = 0
                      · by_cases o1 : cc.long = 0
                        · by_cases o2 : nv = 0
                          · have hok : okC false cc := ⟨⟨by omega, by omega⟩, by simp; exact ⟨o0, o1, List.length_eq_zero_iff.1 (by omega)⟩⟩
                            have Hn := Lib.hid (And.intro (below_drewN Hal.out nq) (And.intro (Hbl.out.drewN nq) (Hct.out.succ Hcj.out hok (fun q _ hq => by rw [show i + 1 - 1 = i by omega, Hpj.out] at hq; injection hq with hq; subst hq; exact Hlt.out))))
                            generalize cc.over = ov at *
                            generalize cc.long = lo at *
                            subst o0 o1 o2
                            clear hok hvl
                            go_wp2_with fail
                            go_roundw
                            case rel => exact ⟨i + 1 + 1, by first | rfl | go_num, by omega, Hn⟩
                            case measure => simp [intOf]; omega
                          · have Hb := Lib.hid (Hbad.out (fun h => o2 (by have := h.2; simp at this; have := this.2.2; rw [this] at hvl; simpa using hvl.symm)))
                            have a3 : (0 : Int) < (nv : Int) := by omega
                            generalize cc.over = ov at *
                            generalize cc.long = lo at *
                            subst o0 o1
                            clear o2 hvl
                            go_wp2
                            go_ret
                            exact ⟨ret_bool Hb.out.symm, below_drewN Hal.out _⟩
                        · have Hb := Lib.hid (Hbad.out (fun h => o1 (by have := h.2; simp at this; exact this.2.1)))
                          have a3 : (cc.long != 0) = true := by simpa using o1
                          generalize cc.over = ov at *
                          generalize cc.long = lo at *
                          subst o0
                          clear o1
                          by_cases o2 : (0 : Int) < (nv : Int)
                          · go_wp2
                            go_ret
                            exact ⟨ret_bool Hb.out.symm, below_drewN Hal.out _⟩
                          · obtain rfl : nv = 0 := by omega
                            go_wp2
                            go_ret
                            exact ⟨ret_bool Hb.out.symm, below_drewN Hal.out _⟩
                      · have Hb := Lib.hid (Hbad.out (fun h => o0 (by have := h.2; simp at this; exact this.1)))
                        have a3 : (cc.over != 0) = true := by simpa using o0
                        generalize cc.over = ov at *
                        generalize cc.long = lo at *
                        clear o0
                        by_cases o2 : (0 : Int) < (nv : Int)
                        · go_wp2
                          go_ret
                          exact ⟨ret_bool Hb.out.symm, below_drewN Hal.out _⟩
                        · obtain rfl : nv = 0 := by omega
                          go_wp2
                          go_ret
                          exact ⟨ret_bool Hb.out.symm, below_drewN Hal.out _⟩
                    · have Hb := Lib.hid (Hrb.out (fun hh => CellsTo.bad2 Hcj.out (by omega) (by rw [show i + 1 - 1 = i by omega]; exact Hpj.out) (of_decide_eq_false hcm) (by have := hh.2.1; rw [Hleaf.out] at this; exact this)))
                      rw [hcm] at Hle
                      clear hcm
                      go_wp2_with fail
                      have q1 : IntKind.i64.wrap ((i : Int) + 1 - 1) = (i : Int) := by rw [IntWalk.i64_in _ (by omega)]; omega
                      have q2 : IntKind.i64.wrap (i : Int) = (i : Int) := IntWalk.i64_in _ (by omega)
                      have q3 : decide ((0 : Int) < (i : Int) + 1) = true := by first | (simp; done) | (simp; omega)
                      have q4 : (i : Int) < (n : Int) := by omega
                      have q5 : i < n := by omega
                      have q6 : (0 : Int) ≤ (i : Int) := by omega
                      have g1 := G1.out
                      go_quiet ((go_at_call 16; exact Calls.quiet_of (Hle.out _ (below_drewN Hal.out _))))
                      go_wp2
                      go_ret
                      exact ⟨ret_bool Hb.out.symm, below_drewN Hal.out _⟩
                · have d2 : decide ((120 : Int) < (nk : Int)) = true := by simp; omega
                  have Hb := Lib.hid (Hbad.out (fun h => hk2 (by have := h.1.2; omega)))
                  go_wp2_with fail
                  go_quiet (fail)
                  go_wp2
                  go_ret
                  exact ⟨ret_bool Hb.out.symm, below_drewN Hal.out _⟩
              · have d1 : decide ((nk : Int) < 1) = true := by simp; omega
                have Hb := Lib.hid (Hbad.out (fun h => hk1 (by have := h.1.1; omega)))
                go_wp2_with fail
                go_quiet (fail)
                go_wp2
                go_ret
                exact ⟨ret_bool Hb.out.symm, below_drewN Hal.out _⟩
            · obtain rfl : n = j := by omega
              have Ht := Lib.hid (Hrt.out ⟨⟨fun h => by (rw [Hleaf.out] at h; cases h), fun _ => (by have := Hcl.out; have := Hkl.out; omega), by have := Hcl.out; omega⟩, by rw [Hleaf.out]; have := Hct.out; rw [← Hcl.out] at this; exact this, Hks.out⟩)
              go_wp2
              go_ret
              exact ⟨ret_bool Ht.out.symm, Hbw.out⟩
    · have Hb := Lib.hid (Hrb.out (fun h => hm (by have := h.1.2.1 Hleaf.out; have := Hcl.out; have := Hkl.out; omega)))
      have hne : ((m : Int) != (n : Int) + 1) = true := by simp; omega
      clear hm
      go_enter Tryd.func13, Tryd.ntmps13
      go_wp2
      go_ret
      exact ⟨ret_bool Hb.out.symm, (Below.refl _ _).alloc (Nat.le_refl _) _⟩
  · by_cases hm : m = 0
    · subst hm
      clear hmb
      go_enter Tryd.func13, Tryd.ntmps13
      go_wp2_with fail
      clear h65
      go_loop [4] (fun i => ∃ j : Nat, i = .int .i64 j ∧ j ≤ 0 ∧ Hid (∀ i k, i < j → N.kids[i]? = some k → childP k)) (fun i => 0 - (intOf i).toNat)
      case atStart => exact ⟨0, rfl, Nat.zero_le _, Lib.hid (fun i k h => by omega)⟩
      case round =>
        obtain ⟨j, rfl, hj, hall⟩ := hrel
        by_cases hlt : j < 0
        · exact absurd hlt (Nat.not_lt_zero _)
        · obtain rfl : 0 = j := by omega
          have Hks := Lib.hid (show ∀ k ∈ N.kids, childP k from fun k hk => by
            obtain ⟨i, hi, rfl⟩ := List.getElem_of_mem hk
            exact hall.out i _ (by have := Hkl.out; omega) (List.getElem?_eq_getElem hi))
          clear hall
          go_wp2_with fail
          go_loopw [5] (fun idx wr => ∃ j : Nat, idx = .int .i64 j ∧ j ≤ n ∧ Hid (Below w.heap.size w wr ∧ Bk wr w.heap.size 27 #[.bool true, .slice A n c, .slice K 0 d] ∧ CellsTo true N.cells j)) (fun idx _ => n - (intOf idx).toNat)
          case atStart => exact ⟨0, rfl, Nat.zero_le _, Lib.hid ⟨(Below.refl _ _).alloc (Nat.le_refl _) _, Bk.new _ _ _, CellsTo.zero _ _⟩⟩
          case round =>
            obtain ⟨j, rfl, hj, HI⟩ := hrel
            obtain ⟨hbw, hbk, hct⟩ := HI.out
            have t0 : wr.cell? ⟨w.heap.size, 0, none⟩ = some (.bool true) := hbk.cell 0
            have t1 : wr.cell? ⟨w.heap.size, 1, none⟩ = some (.slice A n c) := hbk.cell 1
            have hzl := hbk.lt
            have Hbw := Lib.hid hbw
            have Hbk := Lib.hid hbk
            have Hct := Lib.hid hct
            clear hbw hbk hct HI
            by_cases hlt : j < n
            · obtain ⟨b, o, cc, Ak, nk, ck, Av, nv, cv, rfl, hb, hcj, k0, hrk, hnck, k1, hrv, hncv, k2, k3⟩ := Hr.out.cs.at_ hlt
              have e0 := (Hbw.out.cell (p := ⟨b, o + j * 4, none⟩) (by show b < _; omega)).trans k0
              have e1 := (Hbw.out.cell (p := ⟨b, o + j * 4 + 1, none⟩) (by show b < _; omega)).trans k1
              have e2 := (Hbw.out.cell (p := ⟨b, o + j * 4 + 2, none⟩) (by show b < _; omega)).trans k2
              have e3 := (Hbw.out.cell (p := ⟨b, o + j * 4 + 3, none⟩) (by show b < _; omega)).trans k3
              have hkl := hrk.blen
              have hvl := hrv.blen
              have Hcj := Lib.hid hcj
              have Hrk := Lib.hid hrk
              have Hrv := Lib.hid hrv
              clear k0 k1 k2 k3 hrk hrv hcj
              have Hbad := Lib.hid (show ¬ okC true cc → rb = false from fun h => Hrb.out (fun hh => CellsTo.bad Hcj.out h (by have := hh.2.1; rw [Hleaf.out] at this; exact this)))
              have Hal := Lib.hid (Hbw.out.alloc Hbw.out.size (.cells (clC Ak nk ck Av nv cv cc.over cc.long) 42))
              have Hbl := Lib.hid (Hbk.out.alloc (.cells (clC Ak nk ck Av nv cv cc.over cc.long) 42))
              simp only [clC] at Hal Hbl
              by_cases hk1 : 1 ≤ nk
              · have d1 : decide ((nk : Int) < 1) = false := by simp; omega
                by_cases hk2 : nk ≤ 120
                · have d2 : decide ((120 : Int) < (nk : Int)) = false := by simp; omega
                  rcases Nat.eq_zero_or_pos j with h0 | h0
                  · subst h0
                    simp only [Nat.zero_mul, Nat.add_zero] at e0 e1 e2 e3
                    go_wp2_with fail
                    go_quiet (fail)
                    clear d1 d2
                    by_cases o0 : cc.over = 0
                    · by_cases o1 : cc.long = 0
                      · by_cases o2 : nv ≤ 64
                        · have hok : okC true cc := ⟨⟨by omega, by omega⟩, by simp only [if_true]; unfold cellP; rw [if_pos o0]; exact ⟨o1, by omega⟩⟩
                          have Hn := Lib.hid (And.intro (below_drewN Hal.out nq) (And.intro (Hbl.out.drewN nq) (Hct.out.succ Hcj.out hok (fun p h hp => by omega))))
                          have a3 : ¬ (64 : Int) < (nv : Int) := by omega
                          generalize cc.over = ov at *
                          generalize cc.long = lo at *
                          subst o0 o1
                          clear hok o2 hvl
                          go_wp2_with fail
                          go_roundw
                          case rel => exact ⟨0 + 1, by first | rfl | go_num, by omega, Hn⟩
                          case measure => simp [intOf]; omega
                        · have Hb := Lib.hid (Hbad.out (fun h => o2 (by have h2 := h.2; simp only [if_true] at h2; unfold cellP at h2; rw [if_pos o0] at h2; omega)))
                          have a3 : (64 : Int) < (nv : Int) := by omega
                          generalize cc.over = ov at *
                          generalize cc.long = lo at *
                          subst o0 o1
                          clear o2 hvl
                          go_wp2
                          go_ret
                          exact ⟨ret_bool Hb.out.symm, below_drewN Hal.out _⟩
                      · have Hb := Lib.hid (Hbad.out (fun h => o1 (by have h2 := h.2; simp only [if_true] at h2; unfold cellP at h2; rw [if_pos o0] at h2; exact h2.1)))
                        have a3 : (cc.long != 0) = true := by simpa using o1
                        generalize cc.over = ov at *
                        generalize cc.long = lo at *
                        subst o0
                        clear o1
                        go_wp2
                        go_ret
                        exact ⟨ret_bool Hb.out.symm, below_drewN Hal.out _⟩
                    · have hkd := Lib.hid (fun W => kid_any cc.over W)
                      have Hce := Lib.hid (show cellP cc ↔ childP cc.over ∧ 64 < cc.long ∧ cc.long ≤ 20000 ∧ cc.val.length = 0 by unfold cellP; rw [if_neg o0])
                      have a4 : (cc.over == 0) = false := by simpa using o0
                      have a5 : (cc.over != 0) = true := by simpa using o0
                      by_cases ch : childP cc.over
                      · rw [childB_iff.2 ch] at hkd
                        by_cases l1 : 64 < cc.long
                        · by_cases l2 : cc.long ≤ 20000
                          · by_cases l3 : nv = 0
                            · have hok : okC true cc := ⟨⟨by omega, by omega⟩, by simp only [if_true]; exact Hce.out.2 ⟨ch, l1, l2, by omega⟩⟩
                              have Hn := Lib.hid (And.intro (below_drewN Hal.out nq) (And.intro (Hbl.out.drewN nq) (Hct.out.succ Hcj.out hok (fun p h hp => by omega))))
                              have a6 : ¬ cc.long < 65 := by omega
                              have a7 : ¬ 20000 < cc.long := by omega
                              have a8 : ¬ (0 : Int) < (nv : Int) := by omega
                              generalize cc.over = ov at *
                              generalize cc.long = lo at *
                              clear hok ch l1 l2 l3 hvl o0 Hce
                              go_wp2_with fail
                              refine (hkd.out _).mono ?_
                              rintro e w1 ⟨rfl, rfl⟩
                              go_wp2_with fail
                              go_roundw
                              case rel => exact ⟨0 + 1, by first | rfl | go_num, by omega, Hn⟩
                              case measure => simp [intOf]; omega
                            · have Hb := Lib.hid (Hbad.out (fun h => l3 (by have h2 := h.2; simp only [if_true] at h2; have := (Hce.out.1 h2).2.2.2; omega)))
                              have a6 : ¬ cc.long < 65 := by omega
                              have a7 : ¬ 20000 < cc.long := by omega
                              have a8 : (0 : Int) < (nv : Int) := by omega
                              generalize cc.over = ov at *
                              generalize cc.long = lo at *
                              clear ch l1 l2 l3 hvl o0 Hce
                              go_wp2_with fail
                              refine (hkd.out _).mono ?_
                              rintro e w1 ⟨rfl, rfl⟩
                              go_wp2
                              go_ret
                              exact ⟨ret_bool Hb.out.symm, below_drewN Hal.out _⟩
                          · have Hb := Lib.hid (Hbad.out (fun h => l2 (by have h2 := h.2; simp only [if_true] at h2; exact (Hce.out.1 h2).2.2.1)))
                            have a6 : ¬ cc.long < 65 := by omega
                            have a7 : 20000 < cc.long := by omega
                            generalize cc.over = ov at *
                            generalize cc.long = lo at *
                            clear ch l1 l2 hvl o0 Hce
                            go_wp2_with fail
                            refine (hkd.out _).mono ?_
                            rintro e w1 ⟨rfl, rfl⟩
                            go_wp2
                            go_ret
                            exact ⟨ret_bool Hb.out.symm, below_drewN Hal.out _⟩
                        · have Hb := Lib.hid (Hbad.out (fun h => l1 (by have h2 := h.2; simp only [if_true] at h2; exact (Hce.out.1 h2).2.1)))
                          have a6 : cc.long < 65 := by omega
                          generalize cc.over = ov at *
                          generalize cc.long = lo at *
                          clear ch l1 hvl o0 Hce
                          go_wp2_with fail
                          refine (hkd.out _).mono ?_
                          rintro e w1 ⟨rfl, rfl⟩
                          go_wp2
                          go_ret
                          exact ⟨ret_bool Hb.out.symm, below_drewN Hal.out _⟩
                      · rw [childB_no ch] at hkd
                        have Hb := Lib.hid (Hbad.out (fun h => ch (by have h2 := h.2; simp only [if_true] at h2; exact (Hce.out.1 h2).1)))
                        generalize cc.over = ov at *
                        generalize cc.long = lo at *
                        clear ch hvl o0 Hce
                        go_wp2_with fail
                        refine (hkd.out _).mono ?_
                        rintro e w1 ⟨rfl, rfl⟩
                        go_wp2
                        go_ret
                        exact ⟨ret_bool Hb.out.symm, below_drewN Hal.out _⟩
                  · obtain ⟨i, rfl⟩ : ∃ i, j = i + 1 := ⟨j - 1, by omega⟩
                    obtain ⟨b2, o2', pp, Pk, pn, pc, Pv, pvn, pvc, hA, _, hpj, p0, hpk, hpnc, _, _, _, _, _⟩ := Hr.out.cs.at_ (k := i) (by show i < n; omega)
                    injection hA with hA
                    injection hA with hA1 hA2
                    subst hA1 hA2
                    have g0 := (Hbw.out.cell (p := ⟨b, o + i * 4, none⟩) (by show b < _; omega)).trans p0
                    have G1 := Lib.hid (show (wr.alloc (.cells #[.slice Ak nk ck, .slice Av nv cv, .int .i64 cc.over, .int .i64 cc.long] 42)).cell? ⟨b, o + i * 4, none⟩ = some (.slice Pk pn pc) from (World.cell?_alloc_lt wr _ ⟨b, o + i * 4, none⟩ (by show b < _; omega)).trans g0)
                    have hpl := hpk.blen
                    have Hle : pn ≤ 1000000000 → Hid (∀ W, Below w.heap.size w W → Calls Tryd.prog 16 #[.slice Pk pn pc, .slice Ak nk ck] W fun e w' => e = .returned (.bool (ltL pp.key cc.key)) ∧ ∃ q, w' = W.drewN q) := fun hpn => Lib.hid (fun W (hb : Below w.heap.size w W) => less_any Pk Ak pn pc nk ck pp.key cc.key W ((hpk.below hb (Nat.le_refl _)).more hb.size) ((Hrk.out.below hb (Nat.le_refl _)).more hb.size) hpn (by omega))
                    have hpn : pn ≤ 1000000000 := by have := (Hct.out.1 i pp (by omega) hpj).1.2; omega
                    have Hle := Hle hpn
                    have Hpj := Lib.hid hpj
                    clear hpj hpk p0 h0 hpl hpn g0
                    rcases Bool.eq_false_or_eq_true (ltL pp.key cc.key) with hcm | hcm
                    · have Hlt := Lib.hid (show Lib.compareBytes pp.key cc.key < 0 from of_decide_eq_true hcm)
                      rw [hcm] at Hle
                      clear hcm
                      go_wp2_with fail
                      have q1 : IntKind.i64.wrap ((i : Int) + 1 - 1) = (i : Int) := by rw [IntWalk.i64_in _ (by omega)]; omega
                      have q2 : IntKind.i64.wrap (i : Int) = (i : Int) := IntWalk.i64_in _ (by omega)
                      have q3 : decide ((0 : Int) < (i : Int) + 1) = true := by first | (simp; done) | (simp; omega)
                      have q4 : (i : Int) < (n : Int) := by omega
                      have q5 : i < n := by omega
                      have q6 : (0 : Int) ≤ (i : Int) := by omega
                      have g1 := G1.out
                      go_quiet ((go_at_call 16; exact Calls.quiet_of (Hle.out _ (below_drewN Hal.out _))))
                      clear q1 q2 q3 q4 q5 q6 g1 G1 d1 d2
                      by_cases o0 : cc.over = 0
                      · by_cases o1 : cc.long = 0
                        · by_cases o2 : nv ≤ 64
                          · have hok : okC true cc := ⟨⟨by omega, by omega⟩, by simp only [if_true]; unfold cellP; rw [if_pos o0]; exact ⟨o1, by omega⟩⟩
                            have Hn := Lib.hid (And.intro (below_drewN Hal.out nq) (And.intro (Hbl.out.drewN nq) (Hct.out.succ Hcj.out hok (fun q _ hq => by rw [show i + 1 - 1 = i by omega, Hpj.out] at hq; injection hq with hq; subst hq; exact Hlt.out))))
                            have a3 : ¬ (64 : Int) < (nv : Int) := by omega
                            generalize cc.over = ov at *
                            generalize cc.long = lo at *
                            subst o0 o1
                            clear hok o2 hvl
                            go_wp2_with fail
                            go_roundw
                            case rel => exact ⟨i + 1 + 1, by first | rfl | go_num, by omega, Hn⟩
                            case measure => simp [intOf]; omega
                          · have Hb := Lib.hid (Hbad.out (fun h => o2 (by have h2 := h.2; simp only [if_true] at h2; unfold cellP at h2; rw [if_pos o0] at h2; omega)))
                            have a3 : (64 : Int) < (nv : Int) := by omega
                            generalize cc.over = ov at *
                            generalize cc.long = lo at *
                            subst o0 o1
                            clear o2 hvl
                            go_wp2
                            go_ret
                            exact ⟨ret_bool Hb.out.symm, below_drewN Hal.out _⟩
                        · have Hb := Lib.hid (Hbad.out (fun h => o1 (by have h2 := h.2; simp only [if_true] at h2; unfold cellP at h2; rw [if_pos o0] at h2; exact h2.1)))
                          have a3 : (cc.long != 0) = true := by simpa using o1
                          generalize cc.over = ov at *
                          generalize cc.long = lo at *
                          subst o0
                          clear o1
                          go_wp2
                          go_ret
                          exact ⟨ret_bool Hb.out.symm, below_drewN Hal.out _⟩
                      · have hkd := Lib.hid (fun W => kid_any cc.over W)
                        have Hce := Lib.hid (show cellP cc ↔ childP cc.over ∧ 64 < cc.long ∧ cc.long ≤ 20000 ∧ cc.val.length = 0 by unfold cellP; rw [if_neg o0])
                        have a4 : (cc.over == 0) = false := by simpa using o0
                        have a5 : (cc.over != 0) = true := by simpa using o0
                        by_cases ch : childP cc.over
                        · rw [childB_iff.2 ch] at hkd
                          by_cases l1 : 64 < cc.long
                          · by_cases l2 : cc.long ≤ 20000
                            · by_cases l3 : nv = 0
                              · have hok : okC true cc := ⟨⟨by omega, by omega⟩, by simp only [if_true]; exact Hce.out.2 ⟨ch, l1, l2, by omega⟩⟩
                                have Hn := Lib.hid (And.intro (below_drewN Hal.out nq) (And.intro (Hbl.out.drewN nq) (Hct.out.succ Hcj.out hok (fun q _ hq => by rw [show i + 1 - 1 = i by omega, Hpj.out] at hq; injection hq with hq; subst hq; exact Hlt.out))))
                                have a6 : ¬ cc.long < 65 := by omega
                                have a7 : ¬ 20000 < cc.long := by omega
                                have a8 : ¬ (0 : Int) < (nv : Int) := by omega
                                generalize cc.over = ov at *
                                generalize cc.long = lo at *
                                clear hok ch l1 l2 l3 hvl o0 Hce
                                go_wp2_with fail
                                refine (hkd.out _).mono ?_
                                rintro e w1 ⟨rfl, rfl⟩
                                go_wp2_with fail
                                go_roundw
                                case rel => exact ⟨i + 1 + 1, by first | rfl | go_num, by omega, Hn⟩
                                case measure => simp [intOf]; omega
                              · have Hb := Lib.hid (Hbad.out (fun h => l3 (by have h2 := h.2; simp only [if_true] at h2; have := (Hce.out.1 h2).2.2.2; omega)))
                                have a6 : ¬ cc.long < 65 := by omega
                                have a7 : ¬ 20000 < cc.long := by omega
                                have a8 : (0 : Int) < (nv : Int) := by omega
                                generalize cc.over = ov at *
                                generalize cc.long = lo at *
                                clear ch l1 l2 l3 hvl o0 Hce
                                go_wp2_with fail
                                refine (hkd.out _).mono ?_
                                rintro e w1 ⟨rfl, rfl⟩
                                go_wp2
                                go_ret
                                exact ⟨ret_bool Hb.out.symm, below_drewN Hal.out _⟩
                            · have Hb := Lib.hid (Hbad.out (fun h => l2 (by have h2 := h.2; simp only [if_true] at h2; exact (Hce.out.1 h2).2.2.1)))
                              have a6 : ¬ cc.long < 65 := by omega
                              have a7 : 20000 < cc.long := by omega
                              generalize cc.over = ov at *
                              generalize cc.long = lo at *
                              clear ch l1 l2 hvl o0 Hce
                              go_wp2_with fail
                              refine (hkd.out _).mono ?_
                              rintro e w1 ⟨rfl, rfl⟩
                              go_wp2
                              go_ret
                              exact ⟨ret_bool Hb.out.symm, below_drewN Hal.out _⟩
                          · have Hb := Lib.hid (Hbad.out (fun h => l1 (by have h2 := h.2; simp only [if_true] at h2; exact (Hce.out.1 h2).2.1)))
                            have a6 : cc.long < 65 := by omega
                            generalize cc.over = ov at *
                            generalize cc.long = lo at *
                            clear ch l1 hvl o0 Hce
                            go_wp2_with fail
                            refine (hkd.out _).mono ?_
                            rintro e w1 ⟨rfl, rfl⟩
                            go_wp2
                            go_ret
                            exact ⟨ret_bool Hb.out.symm, below_drewN Hal.out _⟩
                        · rw [childB_no ch] at hkd
                          have Hb := Lib.hid (Hbad.out (fun h => ch (by have h2 := h.2; simp only [if_true] at h2; exact (Hce.out.1 h2).1)))
                          generalize cc.over = ov at *
                          generalize cc.long = lo at *
                          clear ch hvl o0 Hce
                          go_wp2_with fail
                          refine (hkd.out _).mono ?_
                          rintro e w1 ⟨rfl, rfl⟩
                          go_wp2
                          go_ret
                          exact ⟨ret_bool Hb.out.symm, below_drewN Hal.out _⟩
                    · have Hb := Lib.hid (Hrb.out (fun hh => CellsTo.bad2 Hcj.out (by omega) (by rw [show i + 1 - 1 = i by omega]; exact Hpj.out) (of_decide_eq_false hcm) (by have := hh.2.1; rw [Hleaf.out] at this; exact this)))
                      rw [hcm] at Hle
                      clear hcm
                      go_wp2_with fail
                      have q1 : IntKind.i64.wrap ((i : Int) + 1 - 1) = (i : Int) := by rw [IntWalk.i64_in _ (by omega)]; omega
                      have q2 : IntKind.i64.wrap (i : Int) = (i : Int) := IntWalk.i64_in _ (by omega)
                      have q3 : decide ((0 : Int) < (i : Int) + 1) = true := by first | (simp; done) | (simp; omega)
                      have q4 : (i : Int) < (n : Int) := by omega
                      have q5 : i < n := by omega
                      have q6 : (0 : Int) ≤ (i : Int) := by omega
                      have g1 := G1.out
                      go_quiet ((go_at_call 16; exact Calls.quiet_of (Hle.out _ (below_drewN Hal.out _))))
                      go_wp2
                      go_ret
                      exact ⟨ret_bool Hb.out.symm, below_drewN Hal.out _⟩
                · have d2 : decide ((120 : Int) < (nk : Int)) = true := by simp; omega
                  have Hb := Lib.hid (Hbad.out (fun h => hk2 (by have := h.1.2; omega)))
                  go_wp2_with fail
                  go_quiet (fail)
                  go_wp2
                  go_ret
                  exact ⟨ret_bool Hb.out.symm, below_drewN Hal.out _⟩
              · have d1 : decide ((nk : Int) < 1) = true := by simp; omega
                have Hb := Lib.hid (Hbad.out (fun h => hk1 (by have := h.1.1; omega)))
                go_wp2_with fail
                go_quiet (fail)
                go_wp2
                go_ret
                exact ⟨ret_bool Hb.out.symm, below_drewN Hal.out _⟩
            · obtain rfl : n = j := by omega
              have Ht := Lib.hid (Hrt.out ⟨⟨fun _ => Hkl.out, fun h => by (rw [Hleaf.out] at h; cases h), by have := Hcl.out; omega⟩, by rw [Hleaf.out]; have := Hct.out; rw [← Hcl.out] at this; exact this, Hks.out⟩)
              go_wp2
              go_ret
              exact ⟨ret_bool Ht.out.symm, Hbw.out⟩
    · have Hb := Lib.hid (Hrb.out (fun h => hm (by have := h.1.1 Hleaf.out; have := Hkl.out; omega)))
      have hne : ((m : Int) != 0) = true := by simp; omega
      clear hm
      go_enter Tryd.func13, Tryd.ntmps13
      go_wp2
      go_ret
      exact ⟨ret_bool Hb.out.symm, (Below.refl _ _).alloc (Nat.le_refl _) _⟩
end Go.Proofs.YtelaliokmmaopaaDoor
