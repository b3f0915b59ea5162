/- Contracts of package node: Right. -/
import Derived.Test.YtelaliokmmaopaaDoorNod3
namespace Go.Proofs.YtelaliokmmaopaaDoor
open Go.RowKit
attribute [local go_sem ↓] Go.wp_at_zero Go.wp_at_succ

theorem nchild_any (k : Int) (w : World) : Calls Tryd.prog 36 #[.int .i64 k] w fun e w' => e = .returned (.bool (!childB k)) ∧ w = w' := by
  have hc := Lib.hid (fun W => child_any k W)
  generalize childB k = b at *
  go_enter Tryd.func36, Tryd.ntmps36
  go_wp2_with fail
  refine (hc.out _).mono ?_
  rintro e w1 ⟨rfl, rfl⟩
  go_wp2
  go_ret
  exact ⟨rfl, rfl⟩
/-- Where the first number that is no child stands. -/
def badAt (ks : List Int) : Int := match ks.findIdx? (fun k => !childB k) with
  | none => -1
  | some i => (i : Int)
set_option maxHeartbeats 1000000 in
theorem indexFunc_any (A : Option Addr) (n c : Nat) (ks : List Int) (w : World) (hr : Rd w w.heap.size 1 A n (its ks)) (hn : n ≤ 9223372036854775807) :
    Calls Tryd.prog 54 #[.slice A n c, .func (.func 36) #[] #[]] w fun e w' => (∃ i : Int, e = .returned (.int .i64 i) ∧ (((∀ k ∈ ks, childP k) ∧ i < 0) ∨ ((¬ ∀ k ∈ ks, childP k) ∧ 0 ≤ i))) ∧ w = w' := by
  have hl := hr.ilen
  have Hl := Lib.hid hl
  clear hl
  go_enter Tryd.func54, Tryd.ntmps54
  go_wp2_with fail
  go_loop [8] (fun i => ∃ j : Nat, i = .int .i64 j ∧ j ≤ n ∧ Hid (∀ i k, i < j → ks[i]? = some k → childP k)) (fun i => n - (intOf i).toNat)
  case atStart => exact ⟨0, rfl, Nat.zero_le _, Lib.hid (fun i k h => by omega)⟩
  case round =>
    obtain ⟨j, rfl, hj, hall⟩ := hrel
    by_cases hlt : j < n
    · obtain ⟨b, o, u, rfl, hb, hu, hc⟩ := hr.num hlt
      have hnc := Lib.hid (nchild_any u w)
      have Hu := Lib.hid hu
      clear hu
      by_cases hch : childP u
      · rw [childB_iff.2 hch] at hnc
        have Hch := Lib.hid (show ∀ i k, i < j + 1 → ks[i]? = some k → childP k from fun i k hi hk => by
          by_cases h : i = j
          · subst h; rw [Hu.out] at hk; injection hk with hk; subst hk; exact hch
          · exact hall.out i k (by omega) hk)
        clear hch
        go_wp2_with fail
        refine hnc.out.mono ?_
        rintro e w1 ⟨rfl, rfl⟩
        go_wp2
        go_round
        case rel => exact ⟨j + 1, by go_num, by omega, Hch⟩
        case measure => simp [intOf]; omega
      · have hcb : childB u = false := by
          cases h : childB u
          · rfl
          · exact absurd (childB_iff.1 h) hch
        rw [hcb] at hnc
        have Hch := Lib.hid hch
        clear hch hcb
        go_wp2_with fail
        refine hnc.out.mono ?_
        rintro e w1 ⟨rfl, rfl⟩
        go_wp2
        go_ret
        exact ⟨⟨_, rfl, .inr ⟨fun h => Hch.out (h _ (List.mem_of_getElem? Hu.out)), by omega⟩⟩, rfl⟩
    · go_wp2
      go_ret
      refine ⟨⟨_, rfl, .inl ⟨fun k hk => ?_, by omega⟩⟩, rfl⟩
      obtain ⟨i, hi, rfl⟩ := List.getElem_of_mem hk
      exact hall.out i _ (by have := Hl.out; omega) (List.getElem?_eq_getElem hi)
theorem containsFunc_any (A : Option Addr) (n c : Nat) (ks : List Int) (w : World) (hr : Rd w w.heap.size 1 A n (its ks)) (hn : n ≤ 9223372036854775807) :
    Calls Tryd.prog 35 #[.slice A n c, .func (.func 36) #[] #[]] w fun e w' => ((∀ k ∈ ks, childP k) ∧ e = .returned (.bool false) ∨ (¬ ∀ k ∈ ks, childP k) ∧ e = .returned (.bool true)) ∧ w = w' := by
  have hi := Lib.hid (indexFunc_any A n c ks w hr hn)
  clear hr
  go_enter Tryd.func35, Tryd.ntmps35
  go_wp2_with fail
  refine hi.out.mono ?_
  rintro e w1 ⟨⟨i, rfl, h⟩, rfl⟩
  have H := Lib.hid h
  rcases h with ⟨_, h0⟩ | ⟨_, h0⟩
  · go_wp2
    go_ret
    rcases H.out with ⟨h1, _⟩ | ⟨_, h2⟩
    · exact ⟨.inl ⟨h1, ret_bool (by simp; omega)⟩, rfl⟩
    · omega
  · go_wp2
    go_ret
    rcases H.out with ⟨_, h2⟩ | ⟨h1, _⟩
    · omega
    · exact ⟨.inr ⟨h1, ret_bool (by simp)⟩, rfl⟩
/-- Between the rounds of Right. -/
def NrI (w : World) (M : NdM) (N : NodP) (j : Nat) (wr : World) : Prop :=
  Below w.heap.size w wr ∧ Bk wr w.heap.size 27 (ndC N.leaf M) ∧ CellsTo N.leaf N.cells j
set_option maxHeartbeats 4000000 in
set_option maxRecDepth 100000 in
theorem right_any (M : NdM) (N : NodP) (w : World) (hr : RdN w w.heap.size M N) (hnb : M.n ≤ 1000000) (hmb : M.m ≤ 1000000) :
    Calls Tryd.prog 19 #[.agg (ndC N.leaf M)] w fun e w' => e = .returned (.bool (rightB N)) ∧ Below w.heap.size w w' := by
  obtain ⟨hcl, hkl⟩ := hr.len
  have Hr := Lib.hid hr
  by_cases hs : ((N.leaf = true → N.kids.length = 0) ∧ (N.leaf = false → N.kids.length = N.cells.length + 1) ∧ N.cells.length < 65536)
  · have Hs := Lib.hid hs
    have hn65 : M.n < 65536 := by omega
    have H0 := Lib.hid (show NrI w M N 0 (w.alloc (.cells (ndC N.leaf M) 27)) from ⟨(Below.refl _ _).alloc (Nat.le_refl _) _, Bk.new _ _ _, CellsTo.zero _ _⟩)
    have Hcl := Lib.hid hcl
    have Hkl := Lib.hid hkl
    have hkz : N.leaf = true → M.m = 0 := fun h => by have := hs.1 h; omega
    have hkn : N.leaf = false → M.m = M.n + 1 := fun h => by have := hs.2.1 h; omega
    unfold ndC
    clear hr hs hcl hkl
    obtain ⟨A, n, c, K, m, d⟩ := M
    simp only at hn65 hkz hkn hnb hmb ⊢
    obtain ⟨leaf, hleaf⟩ : ∃ b, N.leaf = b := ⟨_, rfl⟩
    rw [hleaf] at hkz hkn ⊢
    have Hleaf := Lib.hid hleaf
    clear hleaf
    have Hrb := Lib.hid (fun h : ¬ RightP N => rightB_false h)
    have Hrt := Lib.hid (fun h : RightP N => rightB_true h)
    generalize rightB N = rb at *
    have hx : ¬ (65536 : Int) ≤ (n : Int) := by omega
    clear hn65 H0 hnb hmb
    cases leaf
    · have hm := hkn rfl
      clear hkz hkn
      subst hm
      go_enter Tryd.func19, Tryd.ntmps19
      go_wp2_with fail
      go_loopw [37] (fun idx wr => ∃ j : Nat, idx = .int .i64 j ∧ j ≤ n ∧ Hid (Below w.heap.size w wr ∧ Bk wr w.heap.size 27 #[.bool false, .slice A n c, .slice K (n + 1) d] ∧ CellsTo false N.cells j)) (fun idx _ => n - (intOf idx).toNat)
      case atStart => exact ⟨0, rfl, Nat.zero_le _, Lib.hid ⟨(Below.refl _ _).alloc (Nat.le_refl _) _, Bk.new _ _ _, CellsTo.zero _ _⟩⟩
      case round =>
        obtain ⟨j, rfl, hj, HI⟩ := hrel
        obtain ⟨hbw, hbk, hct⟩ := HI.out
        have t0 : wr.cell? ⟨w.heap.size, 0, none⟩ = some (.bool false) := hbk.cell 0
        have t1 : wr.cell? ⟨w.heap.size, 1, none⟩ = some (.slice A n c) := hbk.cell 1
        have t2 : wr.cell? ⟨w.heap.size, 2, none⟩ = some (.slice K (n + 1) d) := hbk.cell 2
        have hzl := hbk.lt
        have Hbw := Lib.hid hbw
        have Hbk := Lib.hid hbk
        have Hct := Lib.hid hct
        have hn9 : n ≤ 100000 := by omega
        clear hbw hbk hct HI hx
        by_cases hlt : j < n
        · obtain ⟨b, o, cc, Ak, nk, ck, Av, nv, cv, rfl, hb, hcj, k0, hrk, hnck, k1, hrv, hncv, k2, k3⟩ := Hr.out.cs.at_ hlt
          have e0 := (Hbw.out.cell (p := ⟨b, o + j * 4, none⟩) (by show b < _; omega)).trans k0
          have e1 := (Hbw.out.cell (p := ⟨b, o + j * 4 + 1, none⟩) (by show b < _; omega)).trans k1
          have e2 := (Hbw.out.cell (p := ⟨b, o + j * 4 + 2, none⟩) (by show b < _; omega)).trans k2
          have e3 := (Hbw.out.cell (p := ⟨b, o + j * 4 + 3, none⟩) (by show b < _; omega)).trans k3
          have hkl := hrk.blen
          have hvl := hrv.blen
          have Hcj := Lib.hid hcj
          have Hrk := Lib.hid hrk
          have Hrv := Lib.hid hrv
          clear k0 k1 k2 k3 hrk hrv hcj
          have Hbad := Lib.hid (show ¬ okC false cc → rb = false from fun h => Hrb.out (fun hh => CellsTo.bad Hcj.out h (by have := hh.2.1; rw [Hleaf.out] at this; exact this)))
          by_cases hk1 : 1 ≤ nk
          · by_cases hk2 : nk ≤ 120
            · have a1 : ¬ (nk : Int) < 1 := by omega
              have a2 : ¬ (120 : Int) < (nk : Int) := by omega
              clear hk1 hk2
              have Hal := Lib.hid (Hbw.out.alloc Hbw.out.size (.cells (clC Ak nk ck Av nv cv cc.over cc.long) 42))
              have Hbl := Lib.hid (Hbk.out.alloc (.cells (clC Ak nk ck Av nv cv cc.over cc.long) 42))
              simp only [clC] at Hal Hbl
              rcases Nat.eq_zero_or_pos j with h0 | h0
              · subst h0
                simp only [Nat.zero_mul, Nat.add_zero] at e0 e1 e2 e3
                go_wp2_with fail
                go_quiet (fail)
                by_cases o0 : cc.over = 0
                · by_cases o1 : cc.long = 0
                  · by_cases o2 : nv = 0
                    · have hok : okC false cc := ⟨⟨by omega, by omega⟩, by simp; exact ⟨o0, o1, List.length_eq_zero_iff.1 (by omega)⟩⟩
                      have Hn := Lib.hid (And.intro (below_drewN Hal.out nq) (And.intro (Hbl.out.drewN nq) (Hct.out.succ Hcj.out hok (fun p h hp => by omega))))
                      have a3 : ¬ (0 : Int) < (nv : Int) := by omega
                      generalize cc.over = ov at *
                      generalize cc.long = lo at *
                      subst o0 o1
                      clear hok o2 hvl
                      go_wp2_with fail
                      go_roundw
                      case rel => exact ⟨0 + 1, by first | rfl | go_num, by omega, Hn⟩
                      case measure => simp [intOf]; omega
                    · have Hb := Lib.hid (Hbad.out (fun h => o2 (by have := h.2; simp at this; have := this.2.2; rw [this] at hvl; simpa using hvl.symm)))
                      have a3 : (0 : Int) < (nv : Int) := by omega
                      generalize cc.over = ov at *
                      generalize cc.long = lo at *
                      subst o0 o1
                      clear o2 hvl
                      go_wp2
                      go_ret
                      exact ⟨ret_bool Hb.out.symm, below_drewN Hal.out nq⟩
                  · have Hb := Lib.hid (Hbad.out (fun h => o1 (by have := h.2; simp at this; exact this.2.1)))
                    have a3 : (cc.long != 0) = true := by simpa using o1
                    generalize cc.over = ov at *
                    generalize cc.long = lo at *
                    subst o0
                    clear o1
                    go_wp2
                    go_ret
                    exact ⟨ret_bool Hb.out.symm, below_drewN Hal.out nq⟩
                · have Hb := Lib.hid (Hbad.out (fun h => o0 (by have := h.2; simp at this; exact this.1)))
                  have a3 : (cc.over != 0) = true := by simpa using o0
                  generalize cc.over = ov at *
                  clear o0
                  go_wp2
                  go_ret
                  exact ⟨ret_bool Hb.out.symm, below_drewN Hal.out nq⟩
              · obtain ⟨i, rfl⟩ : ∃ i, j = i + 1 := ⟨j - 1, by omega⟩
                obtain ⟨b2, o2', pp, Pk, pn, pc, Pv, pvn, pvc, hA, _, hpj, p0, hpk, hpnc, _, _, _, _, _⟩ := Hr.out.cs.at_ (k := i) (by show i < n; omega)
                injection hA with hA
                injection hA with hA1 hA2
                subst hA1 hA2
                have g0 := (Hbw.out.cell (p := ⟨b, o + i * 4, none⟩) (by show b < _; omega)).trans p0
                have g1 : (wr.alloc (.cells #[.slice Ak nk ck, .slice Av nv cv, .int .i64 cc.over, .int .i64 cc.long] 42)).cell? ⟨b, o + i * 4, none⟩ = some (.slice Pk pn pc) := (World.cell?_alloc_lt wr _ ⟨b, o + i * 4, none⟩ (by show b < _; omega)).trans g0
                have G1 := Lib.hid g1
                clear g1
                have Hcp := Lib.hid (fun W (hb : Below w.heap.size w W) => compare_same Pk Ak pn pc nk ck pp.key cc.key W ((hpk.below hb (Nat.le_refl _)).more hb.size) ((Hrk.out.below hb (Nat.le_refl _)).more hb.size))
                have Hpj := Lib.hid hpj
                clear hpj hpk p0 h0
                by_cases hcm : Lib.compareBytes pp.key cc.key < 0
                · have hv : Lib.compareBytes pp.key cc.key = -1 := by rcases cmp_bd pp.key cc.key with h | h | h <;> omega
                  have Hlt := Lib.hid hcm
                  rw [hv] at Hcp
                  clear hv hcm
                  go_wp2_with fail
                  have q1 : IntKind.i64.wrap ((i : Int) + 1 - 1) = (i : Int) := by rw [IntWalk.i64_in _ (by omega)]; omega
                  have q2 : IntKind.i64.wrap (i : Int) = (i : Int) := IntWalk.i64_in _ (by omega)
                  have q3 : decide ((0 : Int) < (i : Int) + 1) = true := by first | (simp; done) | (simp; omega)
                  have q4 : (i : Int) < (n : Int) := by omega
                  have q5 : i < n := by omega
                  have q6 : (0 : Int) ≤ (i : Int) := by omega
                  have g1 := G1.out
                  go_quiet ((go_at_call 32; exact Calls.quiet_of_same (Hcp.out _ (below_drewN Hal.out _))))
                  clear q1 q2 q3 q4 q5 q6 g1 G1
                  by_cases o0 : cc.over = 0
                  · by_cases o1 : cc.long = 0
                    · by_cases o2 : nv = 0
                      · have hok : okC false cc := ⟨⟨by omega, by omega⟩, by simp; exact ⟨o0, o1, List.length_eq_zero_iff.1 (by omega)⟩⟩
                        have Hn := Lib.hid (And.intro (below_drewN Hal.out nq) (And.intro (Hbl.out.drewN nq) (Hct.out.succ Hcj.out hok (fun q _ hq => by rw [show i + 1 - 1 = i by omega, Hpj.out] at hq; injection hq with hq; subst hq; exact Hlt.out))))
                        have a3 : ¬ (0 : Int) < (nv : Int) := by omega
                        generalize cc.over = ov at *
                        generalize cc.long = lo at *
                        subst o0 o1
                        clear hok o2 hvl
                        go_wp2_with fail
                        go_roundw
                        case rel => exact ⟨i + 1 + 1, by first | rfl | go_num, by omega, Hn⟩
                        case measure => simp [intOf]; omega
                      · have Hb := Lib.hid (Hbad.out (fun h => o2 (by have := h.2; simp at this; have := this.2.2; rw [this] at hvl; simpa using hvl.symm)))
                        have a3 : (0 : Int) < (nv : Int) := by omega
                        generalize cc.over = ov at *
                        generalize cc.long = lo at *
                        subst o0 o1
                        clear o2 hvl
                        go_wp2
                        go_ret
                        exact ⟨ret_bool Hb.out.symm, below_drewN Hal.out nq⟩
                    · have Hb := Lib.hid (Hbad.out (fun h => o1 (by have := h.2; simp at this; exact this.2.1)))
                      have a3 : (cc.long != 0) = true := by simpa using o1
                      generalize cc.over = ov at *
                      generalize cc.long = lo at *
                      subst o0
                      clear o1
                      go_wp2
                      go_ret
                      exact ⟨ret_bool Hb.out.symm, below_drewN Hal.out nq⟩
                  · have Hb := Lib.hid (Hbad.out (fun h => o0 (by have := h.2; simp at this; exact this.1)))
                    have a3 : (cc.over != 0) = true := by simpa using o0
                    generalize cc.over = ov at *
                    clear o0
                    go_wp2
                    go_ret
                    exact ⟨ret_bool Hb.out.symm, below_drewN Hal.out nq⟩
                · have hv : 0 ≤ Lib.compareBytes pp.key cc.key := by omega
                  have Hb := Lib.hid (Hrb.out (fun hh => CellsTo.bad2 Hcj.out (by omega) (by rw [show i + 1 - 1 = i by omega]; exact Hpj.out) hcm (by have := hh.2.1; rw [Hleaf.out] at this; exact this)))
                  generalize Lib.compareBytes pp.key cc.key = v at *
                  clear hcm
                  go_wp2_with fail
                  have q1 : IntKind.i64.wrap ((i : Int) + 1 - 1) = (i : Int) := by rw [IntWalk.i64_in _ (by omega)]; omega
                  have q2 : IntKind.i64.wrap (i : Int) = (i : Int) := IntWalk.i64_in _ (by omega)
                  have q3 : decide ((0 : Int) < (i : Int) + 1) = true := by first | (simp; done) | (simp; omega)
                  have q4 : (i : Int) < (n : Int) := by omega
                  have q5 : i < n := by omega
                  have q6 : (0 : Int) ≤ (i : Int) := by omega
                  have g1 := G1.out
                  go_quiet ((go_at_call 32; exact Calls.quiet_of_same (Hcp.out _ (below_drewN Hal.out _))))
                  go_wp2
                  go_ret
                  exact ⟨ret_bool Hb.out.symm, below_drewN Hal.out nq⟩
            · have Hb := Lib.hid (Hbad.out (fun h => hk2 (by have := h.1.2; omega)))
              have a1 : ¬ (nk : Int) < 1 := by omega
              have a2 : (120 : Int) < (nk : Int) := by omega
              clear hk1 hk2
              go_wp2
              go_ret
              exact ⟨ret_bool Hb.out.symm, Hbw.out.alloc (by have := Hbw.out.size; omega) _⟩
          · have Hb := Lib.hid (Hbad.out (fun h => hk1 (by have := h.1.1; omega)))
            have a1 : (nk : Int) < 1 := by omega
            clear hk1
            go_wp2
            go_ret
            exact ⟨ret_bool Hb.out.symm, Hbw.out.alloc (by have := Hbw.out.size; omega) _⟩
        · obtain rfl : n = j := by omega
          have Hcf := Lib.hid (containsFunc_any K (n + 1) d N.kids wr ((Hr.out.ks.below Hbw.out (Nat.le_refl _)).more (by have := Hbw.out.size; omega)) (by have := Hr.out.md; have := Hr.out.dm; simp only at *; omega))
          go_wp2_with fail
          refine Hcf.out.mono ?_
          rintro e w1 ⟨⟨hk, rfl⟩ | ⟨hk, rfl⟩, rfl⟩
          · have Ht := Lib.hid (Hrt.out ⟨Hs.out, by rw [Hleaf.out]; have := Hct.out; rw [← Hcl.out] at this; exact this, hk⟩)
            clear hk
            go_wp2
            go_ret
            exact ⟨ret_bool Ht.out.symm, Hbw.out⟩
          · have Ht := Lib.hid (Hrb.out (fun h => hk h.2.2))
            clear hk
            go_wp2
            go_ret
            exact ⟨ret_bool Ht.out.symm, Hbw.out⟩
    · have hm := hkz rfl
      clear hkz hkn
      subst hm
      go_enter Tryd.func19, Tryd.ntmps19
      go_wp2_with fail
      go_loopw [37] (fun idx wr => ∃ j : Nat, idx = .int .i64 j ∧ j ≤ n ∧ Hid (Below w.heap.size w wr ∧ Bk wr w.heap.size 27 #[.bool true, .slice A n c, .slice K 0 d] ∧ CellsTo true N.cells j)) (fun idx _ => n - (intOf idx).toNat)
      case atStart => exact ⟨0, rfl, Nat.zero_le _, Lib.hid ⟨(Below.refl _ _).alloc (Nat.le_refl _) _, Bk.new _ _ _, CellsTo.zero _ _⟩⟩
      case round =>
        obtain ⟨j, rfl, hj, HI⟩ := hrel
        obtain ⟨hbw, hbk, hct⟩ := HI.out
        have t0 : wr.cell? ⟨w.heap.size, 0, none⟩ = some (.bool true) := hbk.cell 0
        have t1 : wr.cell? ⟨w.heap.size, 1, none⟩ = some (.slice A n c) := hbk.cell 1
        have t2 : wr.cell? ⟨w.heap.size, 2, none⟩ = some (.slice K 0 d) := hbk.cell 2
        have hzl := hbk.lt
        have Hbw := Lib.hid hbw
        have Hbk := Lib.hid hbk
        have Hct := Lib.hid hct
        have hn9 : n ≤ 100000 := by omega
        clear hbw hbk hct HI hx
        by_cases hlt : j < n
        · obtain ⟨b, o, cc, Ak, nk, ck, Av, nv, cv, rfl, hb, hcj, k0, hrk, hnck, k1, hrv, hncv, k2, k3⟩ := Hr.out.cs.at_ hlt
          have e0 := (Hbw.out.cell (p := ⟨b, o + j * 4, none⟩) (by show b < _; omega)).trans k0
          have e1 := (Hbw.out.cell (p := ⟨b, o + j * 4 + 1, none⟩) (by show b < _; omega)).trans k1
          have e2 := (Hbw.out.cell (p := ⟨b, o + j * 4 + 2, none⟩) (by show b < _; omega)).trans k2
          have e3 := (Hbw.out.cell (p := ⟨b, o + j * 4 + 3, none⟩) (by show b < _; omega)).trans k3
          have hkl := hrk.blen
          have hvl := hrv.blen
          have Hcj := Lib.hid hcj
          have Hrk := Lib.hid hrk
          have Hrv := Lib.hid hrv
          clear k0 k1 k2 k3 hrk hrv hcj
          have Hbad := Lib.hid (show ¬ okC true cc → rb = false from fun h => Hrb.out (fun hh => CellsTo.bad Hcj.out h (by have := hh.2.1; rw [Hleaf.out] at this; exact this)))
          by_cases hk1 : 1 ≤ nk
          · by_cases hk2 : nk ≤ 120
            · have a1 : ¬ (nk : Int) < 1 := by omega
              have a2 : ¬ (120 : Int) < (nk : Int) := by omega
              clear hk1 hk2
              have Hal := Lib.hid (Hbw.out.alloc Hbw.out.size (.cells (clC Ak nk ck Av nv cv cc.over cc.long) 42))
              have Hbl := Lib.hid (Hbk.out.alloc (.cells (clC Ak nk ck Av nv cv cc.over cc.long) 42))
              simp only [clC] at Hal Hbl
              rcases Nat.eq_zero_or_pos j with h0 | h0
              · subst h0
                simp only [Nat.zero_mul, Nat.add_zero] at e0 e1 e2 e3
                go_wp2_with fail
                go_quiet (fail)
                have Hcl1 := Lib.hid (fun W => cell_any Ak nk ck Av nv cv cc W hvl)
                simp only [clC] at Hcl1
                by_cases ok : cellP cc
                · have hok : okC true cc := ⟨⟨by omega, by omega⟩, by simpa using ok⟩
                  rw [cellB_true ok] at Hcl1
                  have Hct2 := Lib.hid (Hct.out.succ Hcj.out hok (fun p h hp => by omega))
                  clear ok hok
                  go_wp2_with fail
                  refine (Hcl1.out _).mono ?_
                  rintro e w1 ⟨rfl, hb1⟩
                  have Hn := Lib.hid (And.intro ((below_drewN Hal.out nq).trans (hb1.mono (below_drewN Hal.out nq).size)) (And.intro (Bk.below (Hbl.out.drewN nq) hb1 (by show w.heap.size < (wr.alloc _).heap.size; simp; omega)) Hct2.out))
                  have Hb2 := Lib.hid hb1
                  have s0 : w1.cell? ⟨w.heap.size, 0, none⟩ = some (.bool true) := Hn.out.2.1.cell 0
                  clear hb1
                  go_wp2_with fail
                  go_roundw
                  case rel => exact ⟨0 + 1, by first | rfl | go_num, by omega, Hn⟩
                  case measure => simp [intOf]; omega
                · have Hb := Lib.hid (Hbad.out (fun h => ok (by have := h.2; simpa using this)))
                  rw [cellB_false ok] at Hcl1
                  clear ok
                  go_wp2_with fail
                  refine (Hcl1.out _).mono ?_
                  rintro e w1 ⟨rfl, hb1⟩
                  go_wp2
                  go_ret
                  exact ⟨ret_bool Hb.out.symm, (below_drewN Hal.out nq).trans (hb1.mono (below_drewN Hal.out nq).size)⟩
              · obtain ⟨i, rfl⟩ : ∃ i, j = i + 1 := ⟨j - 1, by omega⟩
                obtain ⟨b2, o2', pp, Pk, pn, pc, Pv, pvn, pvc, hA, _, hpj, p0, hpk, hpnc, _, _, _, _, _⟩ := Hr.out.cs.at_ (k := i) (by show i < n; omega)
                injection hA with hA
                injection hA with hA1 hA2
                subst hA1 hA2
                have g0 := (Hbw.out.cell (p := ⟨b, o + i * 4, none⟩) (by show b < _; omega)).trans p0
                have g1 : (wr.alloc (.cells #[.slice Ak nk ck, .slice Av nv cv, .int .i64 cc.over, .int .i64 cc.long] 42)).cell? ⟨b, o + i * 4, none⟩ = some (.slice Pk pn pc) := (World.cell?_alloc_lt wr _ ⟨b, o + i * 4, none⟩ (by show b < _; omega)).trans g0
                have G1 := Lib.hid g1
                clear g1
                have Hcp := Lib.hid (fun W (hb : Below w.heap.size w W) => compare_same Pk Ak pn pc nk ck pp.key cc.key W ((hpk.below hb (Nat.le_refl _)).more hb.size) ((Hrk.out.below hb (Nat.le_refl _)).more hb.size))
                have Hpj := Lib.hid hpj
                clear hpj hpk p0 h0
                by_cases hcm : Lib.compareBytes pp.key cc.key < 0
                · have hv : Lib.compareBytes pp.key cc.key = -1 := by rcases cmp_bd pp.key cc.key with h | h | h <;> omega
                  have Hlt := Lib.hid hcm
                  rw [hv] at Hcp
                  clear hv hcm
                  go_wp2_with fail
                  have q1 : IntKind.i64.wrap ((i : Int) + 1 - 1) = (i : Int) := by rw [IntWalk.i64_in _ (by omega)]; omega
                  have q2 : IntKind.i64.wrap (i : Int) = (i : Int) := IntWalk.i64_in _ (by omega)
                  have q3 : decide ((0 : Int) < (i : Int) + 1) = true := by first | (simp; done) | (simp; omega)
                  have q4 : (i : Int) < (n : Int) := by omega
                  have q5 : i < n := by omega
                  have q6 : (0 : Int) ≤ (i : Int) := by omega
                  have g1 := G1.out
                  go_quiet ((go_at_call 32; exact Calls.quiet_of_same (Hcp.out _ (below_drewN Hal.out _))))
                  clear q1 q2 q3 q4 q5 q6 g1 G1
                  have Hcl1 := Lib.hid (fun W => cell_any Ak nk ck Av nv cv cc W hvl)
                  simp only [clC] at Hcl1
                  by_cases ok : cellP cc
                  · have hok : okC true cc := ⟨⟨by omega, by omega⟩, by simpa using ok⟩
                    rw [cellB_true ok] at Hcl1
                    have Hct2 := Lib.hid (Hct.out.succ Hcj.out hok (fun q _ hq => by rw [show i + 1 - 1 = i by omega, Hpj.out] at hq; injection hq with hq; subst hq; exact Hlt.out))
                    clear ok hok
                    go_wp2_with fail
                    refine (Hcl1.out _).mono ?_
                    rintro e w1 ⟨rfl, hb1⟩
                    have Hn := Lib.hid (And.intro ((below_drewN Hal.out nq).trans (hb1.mono (below_drewN Hal.out nq).size)) (And.intro (Bk.below (Hbl.out.drewN nq) hb1 (by show w.heap.size < (wr.alloc _).heap.size; simp; omega)) Hct2.out))
                    have Hb2 := Lib.hid hb1
                    have s0 : w1.cell? ⟨w.heap.size, 0, none⟩ = some (.bool true) := Hn.out.2.1.cell 0
                    clear hb1
                    go_wp2_with fail
                    go_roundw
                    case rel => exact ⟨i + 1 + 1, by first | rfl | go_num, by omega, Hn⟩
                    case measure => simp [intOf]; omega
                  · have Hb := Lib.hid (Hbad.out (fun h => ok (by have := h.2; simpa using this)))
                    rw [cellB_false ok] at Hcl1
                    clear ok
                    go_wp2_with fail
                    refine (Hcl1.out _).mono ?_
                    rintro e w1 ⟨rfl, hb1⟩
                    go_wp2
                    go_ret
                    exact ⟨ret_bool Hb.out.symm, (below_drewN Hal.out nq).trans (hb1.mono (below_drewN Hal.out nq).size)⟩
                · have hv : 0 ≤ Lib.compareBytes pp.key cc.key := by omega
                  have Hb := Lib.hid (Hrb.out (fun hh => CellsTo.bad2 Hcj.out (by omega) (by rw [show i + 1 - 1 = i by omega]; exact Hpj.out) hcm (by have := hh.2.1; rw [Hleaf.out] at this; exact this)))
                  generalize Lib.compareBytes pp.key cc.key = v at *
                  clear hcm
                  go_wp2_with fail
                  have q1 : IntKind.i64.wrap ((i : Int) + 1 - 1) = (i : Int) := by rw [IntWalk.i64_in _ (by omega)]; omega
                  have q2 : IntKind.i64.wrap (i : Int) = (i : Int) := IntWalk.i64_in _ (by omega)
                  have q3 : decide ((0 : Int) < (i : Int) + 1) = true := by first | (simp; done) | (simp; omega)
                  have q4 : (i : Int) < (n : Int) := by omega
                  have q5 : i < n := by omega
                  have q6 : (0 : Int) ≤ (i : Int) := by omega
                  have g1 := G1.out
                  go_quiet ((go_at_call 32; exact Calls.quiet_of_same (Hcp.out _ (below_drewN Hal.out _))))
                  go_wp2
                  go_ret
                  exact ⟨ret_bool Hb.out.symm, below_drewN Hal.out nq⟩
            · have Hb := Lib.hid (Hbad.out (fun h => hk2 (by have := h.1.2; omega)))
              have a1 : ¬ (nk : Int) < 1 := by omega
              have a2 : (120 : Int) < (nk : Int) := by omega
              clear hk1 hk2
              go_wp2
              go_ret
              exact ⟨ret_bool Hb.out.symm, Hbw.out.alloc (by have := Hbw.out.size; omega) _⟩
          · have Hb := Lib.hid (Hbad.out (fun h => hk1 (by have := h.1.1; omega)))
            have a1 : (nk : Int) < 1 := by omega
            clear hk1
            go_wp2
            go_ret
            exact ⟨ret_bool Hb.out.symm, Hbw.out.alloc (by have := Hbw.out.size; omega) _⟩
        · obtain rfl : n = j := by omega
          have Hcf := Lib.hid (containsFunc_any K 0 d N.kids wr ((Hr.out.ks.below Hbw.out (Nat.le_refl _)).more (by have := Hbw.out.size; omega)) (by have := Hr.out.md; have := Hr.out.dm; simp only at *; omega))
          go_wp2_with fail
          refine Hcf.out.mono ?_
          rintro e w1 ⟨⟨hk, rfl⟩ | ⟨hk, rfl⟩, rfl⟩
          · have Ht := Lib.hid (Hrt.out ⟨Hs.out, by rw [Hleaf.out]; have := Hct.out; rw [← Hcl.out] at this; exact this, hk⟩)
            clear hk
            go_wp2
            go_ret
            exact ⟨ret_bool Ht.out.symm, Hbw.out⟩
          · have Ht := Lib.hid (Hrb.out (fun h => hk h.2.2))
            clear hk
            go_wp2
            go_ret
            exact ⟨ret_bool Ht.out.symm, Hbw.out⟩
  · have Hb := Lib.hid (rightB_false (fun h => hs h.1))
    unfold ndC
    clear hr Hr
    obtain ⟨A, n, c, K, m, d⟩ := M
    simp only at hcl hkl hnb hmb ⊢
    rw [hcl, hkl] at hs
    generalize rightB N = rb at *
    generalize N.leaf = leaf at *
    cases leaf
    · by_cases hm : m = n + 1
      · have hx : (65536 : Int) ≤ (n : Int) := by
          apply Classical.byContradiction; intro h; exact hs ⟨(fun h => by cases h), (fun _ => hm), by omega⟩
        subst hm
        clear hs hcl hkl hmb
        go_enter Tryd.func19, Tryd.ntmps19
        go_wp2
        go_ret
        exact ⟨ret_bool Hb.out.symm, (Below.refl _ _).alloc (Nat.le_refl _) _⟩
      · have hne : ((m : Int) != (n : Int) + 1) = true := by simp; omega
        clear hs hcl hkl hm
        go_enter Tryd.func19, Tryd.ntmps19
        go_wp2
        go_ret
        exact ⟨ret_bool Hb.out.symm, (Below.refl _ _).alloc (Nat.le_refl _) _⟩
    · by_cases hm : m = 0
      · have hx : (65536 : Int) ≤ (n : Int) := by
          apply Classical.byContradiction; intro h; exact hs ⟨(fun _ => hm), (fun h => by cases h), by omega⟩
        subst hm
        clear hs hcl hkl hmb
        go_enter Tryd.func19, Tryd.ntmps19
        go_wp2
        go_ret
        exact ⟨ret_bool Hb.out.symm, (Below.refl _ _).alloc (Nat.le_refl _) _⟩
      · have hm' : (0 : Int) < (m : Int) := by omega
        clear hs hcl hkl hm
        go_enter Tryd.func19, Tryd.ntmps19
        go_wp2
        go_ret
        exact ⟨ret_bool Hb.out.symm, (Below.refl _ _).alloc (Nat.le_refl _) _⟩
end Go.Proofs.YtelaliokmmaopaaDoor
