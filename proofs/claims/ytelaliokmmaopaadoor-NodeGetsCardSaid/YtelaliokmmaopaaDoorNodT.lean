/- The document's Get. -/
import Derived.Test.YtelaliokmmaopaaDoorNodS
import Derived.Test.YtelaliokmmaopaaDoorNodRb
import Derived.Test.YtelaliokmmaopaaDoorNodB
namespace Go.Proofs.YtelaliokmmaopaaDoor
open Go.RowKit
attribute [local go_sem ↓] Go.wp_at_zero Go.wp_at_succ

/-- What the document's Get answers. -/
def RGetR (L : List UInt8) (e : Ending) (w' : World) : Prop :=
  (∃ M N, e = .returned (.agg #[.bool N.leaf, .slice M.A M.n M.c, .slice M.K M.m M.d, .bool true]) ∧ IsN L N ∧ RdN w' w'.heap.size M N) ∨ (e = .returned (.agg #[.bool false, .slice none 0 0, .slice none 0 0, .bool false]) ∧ ∀ N, ¬ IsN L N)
theorem GT.none {w W : World} {nb : Nat} {lf : Bool} {vc vk : Value} {cs : List CellP} {ks : List Int} (h : GT w W nb lf vc vk cs ks) :
    (W.cell? ⟨w.heap.size, 0, none⟩ = some (.bool false) ∧ W.cell? ⟨w.heap.size, 1, none⟩ = some (.slice none 0 0) ∧ W.cell? ⟨w.heap.size, 2, none⟩ = some (.slice none 0 0) ∧ W.cell? ⟨w.heap.size, 3, none⟩ = some (.bool false)) ∧
    (W.frozen? ⟨w.heap.size, 0, none⟩ = false ∧ W.frozen? ⟨w.heap.size, 1, none⟩ = false ∧ W.frozen? ⟨w.heap.size, 2, none⟩ = false ∧ W.frozen? ⟨w.heap.size, 3, none⟩ = false) ∧ w.heap.size < W.heap.size :=
  ⟨⟨h.rs.cell 0, h.rs.cell 1, h.rs.cell 2, h.rs.cell 3⟩, ⟨h.rs.free 0, h.rs.free 1, h.rs.free 2, h.rs.free 3⟩, h.rs.lt⟩
theorem below_set4 {w W : World} (h : Below w.heap.size w W) (x y z u : Value) : Below w.heap.size w ((((W.setCell ⟨w.heap.size, 0, none⟩ x).setCell ⟨w.heap.size, 1, none⟩ y).setCell ⟨w.heap.size, 2, none⟩ z).setCell ⟨w.heap.size, 3, none⟩ u) :=
  (((h.setCell (p := ⟨w.heap.size, 0, none⟩) (Nat.le_refl _) _).setCell (p := ⟨w.heap.size, 1, none⟩) (Nat.le_refl _) _).setCell (p := ⟨w.heap.size, 2, none⟩) (Nat.le_refl _) _).setCell (p := ⟨w.heap.size, 3, none⟩) (Nat.le_refl _) _
set_option maxHeartbeats 8000000 in
set_option maxRecDepth 100000 in
theorem rget_any (A : Option Addr) (n c : Nat) (L : List UInt8) (w : World) (hr : Rd w w.heap.size 1 A n (bys L)) (hnc : n ≤ c) (hn : n ≤ 1000) :
    Calls Tryd.prog 10 #[.slice A n c] w fun e w' => RGetR L e w' ∧ Below w.heap.size w w' := by
  have HL := Lib.hid hr.blen
  have Hr := Lib.hid hr
  have Hat := Lib.hid (show ∀ (p x : Nat) (pi xi : Int) (W : World), (p : Int) = pi → (x : Int) = xi → Below w.heap.size w W → p ≤ 10000000 → x ≤ 7 → Calls Tryd.prog 26 #[.slice A n c, .int .i64 pi, .int .i64 xi] W fun e w' => e = .returned (.int .i64 (atI L n p x)) ∧ w' = W from by
    rintro p x _ _ W rfl rfl hb hp hx
    exact rat_any A n c p x L W (hr.below hb (Nat.le_refl _)) hb.size hnc (by omega) hp hx)
  clear hr
  have B0 := Lib.hid ((Below.refl w.heap.size w).alloc (Nat.le_refl _) (.cells #[.bool false, .slice none 0 0, .slice none 0 0, .bool false] 32))
  have R0 := Lib.hid (Bk.new w 32 #[.bool false, .slice none 0 0, .slice none 0 0, .bool false])
  have Ha0 := Lib.hid (Hat.out 0 1 0 1 _ rfl rfl B0.out (by omega) (by omega))
  have Ha1 := Lib.hid (Hat.out 1 2 1 2 _ rfl rfl B0.out (by omega) (by omega))
  have HD0 := Lib.hid (show ∀ N, IsN L N → 3 ≤ n ∧ (N.leaf = true ∧ nAt L 0 1 = 1 ∨ N.leaf = false ∧ nAt L 0 1 = 2) from fun N hN => ⟨by have := hN.1; rw [HL.out] at this; exact this, hN.2.1⟩)
  have HK0 := Lib.hid (show (3 ≤ n → atI L n 0 1 = nAt L 0 1 ∧ atI L n 1 2 = nAt L 1 2 ∧ 0 ≤ nAt L 1 2 ∧ nAt L 1 2 ≤ 65535) ∧ (n < 3 → atI L n 1 2 = -1) from by
    unfold atI
    refine ⟨fun h => ?_, fun h => ?_⟩
    · rw [if_pos (by omega), if_pos (by omega)]
      exact ⟨rfl, rfl, nAt_2 L 1⟩
    · rw [if_neg (by omega)])
  generalize atI L n 0 1 = k0 at *
  generalize atI L n 1 2 = mm at *
  have q0 : w.heap.size < (w.alloc (.cells #[.bool false, .slice none 0 0, .slice none 0 0, .bool false] 32)).heap.size := by simp
  go_enter Tryd.func10, Tryd.ntmps10
  go_wp2_with fail
  generalize (w.alloc (.cells #[.bool false, .slice none 0 0, .slice none 0 0, .bool false] 32)) = w1 at *
  with_reducible refine Ha0.out.mono ?_
  rintro e w2 ⟨rfl, rfl⟩
  go_wp2_with fail
  with_reducible refine Ha1.out.mono ?_
  rintro e w2 ⟨rfl, rfl⟩
  clear Ha0 Ha1
  have s0 : w2.cell? ⟨w.heap.size, 0, none⟩ = some (.bool false) := R0.out.cell 0
  have s1 : w2.cell? ⟨w.heap.size, 1, none⟩ = some (.slice none 0 0) := R0.out.cell 1
  have s2 : w2.cell? ⟨w.heap.size, 2, none⟩ = some (.slice none 0 0) := R0.out.cell 2
  have s3 : w2.cell? ⟨w.heap.size, 3, none⟩ = some (.bool false) := R0.out.cell 3
  have z0 : w2.frozen? ⟨w.heap.size, 0, none⟩ = false := R0.out.free 0
  have z1 : w2.frozen? ⟨w.heap.size, 1, none⟩ = false := R0.out.free 1
  have z2 : w2.frozen? ⟨w.heap.size, 2, none⟩ = false := R0.out.free 2
  have z3 : w2.frozen? ⟨w.heap.size, 3, none⟩ = false := R0.out.free 3
  by_cases hbad : (k0 ≠ 1 ∧ k0 ≠ 2) ∨ mm < 0
  · have HN := Lib.hid (show ∀ N, ¬ IsN L N from by
      intro N hN
      obtain ⟨a1, a2⟩ := HD0.out N hN
      obtain ⟨b1, b2, b3, _⟩ := HK0.out.1 a1
      rcases hbad with ⟨h1, h2⟩ | h
      · rcases a2 with ⟨_, c1⟩ | ⟨_, c1⟩ <;> omega
      · omega)
    have HF := Lib.hid (((((B0.out.setCell (p := ⟨w.heap.size, 0, none⟩) (Nat.le_refl _) (.bool false)).setCell (p := ⟨w.heap.size, 1, none⟩) (Nat.le_refl _) (.slice none 0 0)).setCell (p := ⟨w.heap.size, 2, none⟩) (Nat.le_refl _) (.slice none 0 0)).setCell (p := ⟨w.heap.size, 3, none⟩) (Nat.le_refl _) (.bool false)))
    by_cases h1 : k0 = 1
    · have hm : mm < 0 := by rcases hbad with h | h; exact absurd h1 h.1; exact h
      subst h1
      clear hbad HK0 HD0
      go_wp2
      exact bodyPost_ret (v := .agg #[.bool false, .slice none 0 0, .slice none 0 0, .bool false]) (by simp [results, Tryd.results10, go_sem, s0, s1, s2, s3]) rfl ⟨.inr ⟨rfl, HN.out⟩, HF.out⟩
    · have h1' : (k0 != 1) = true := by simpa using h1
      by_cases h2 : k0 = 2
      · have hm : mm < 0 := by rcases hbad with h | h; exact absurd h2 h.2; exact h
        subst h2
        clear hbad HK0 HD0
        go_wp2
        exact bodyPost_ret (v := .agg #[.bool false, .slice none 0 0, .slice none 0 0, .bool false]) (by simp [results, Tryd.results10, go_sem, s0, s1, s2, s3]) rfl ⟨.inr ⟨rfl, HN.out⟩, HF.out⟩
      · have h2' : (k0 != 2) = true := by simpa using h2
        clear hbad HK0 HD0 h1 h2
        go_wp2
        exact bodyPost_ret (v := .agg #[.bool false, .slice none 0 0, .slice none 0 0, .bool false]) (by simp [results, Tryd.results10, go_sem, s0, s1, s2, s3]) rfl ⟨.inr ⟨rfl, HN.out⟩, HF.out⟩
  · have h3n : 3 ≤ n := by
      apply Classical.byContradiction
      intro h
      have := HK0.out.2 (by omega)
      omega
    obtain ⟨b1, b2, b3, b4⟩ := HK0.out.1 h3n
    obtain ⟨m, hm⟩ : ∃ m : Nat, (m : Int) = mm := ⟨mm.toNat, by omega⟩
    obtain ⟨lf, hlf⟩ : ∃ lf, (k0 == 1) = lf := ⟨_, rfl⟩
    have hk0 : k0 = if lf then 1 else 2 := by
      cases lf
      · rw [beq_eq_false_iff_ne] at hlf; simp; omega
      · simpa using hlf
    have HD := Lib.hid (show ∀ N, IsN L N → lf = N.leaf ∧ ∃ p, runC L lf m = some (N.cells, N.kids, p) ∧ RightP N ∧ ∀ x ∈ L.drop p, x = 0 from by
      intro N hN
      have hl : lf = N.leaf := by
        rcases hN.2.1 with ⟨c1, c2⟩ | ⟨c1, c2⟩
        · rw [c1]; cases lf
          · simp at hk0; omega
          · rfl
        · rw [c1]; cases lf
          · rfl
          · simp at hk0; omega
      obtain ⟨_, _, p, d1, d2, d3⟩ := hN
      refine ⟨hl, p, ?_, d2, d3⟩
      rw [hl, show m = (nAt L 1 2).toNat by omega]
      exact d1)
    have HI := Lib.hid (show ∀ cs ks p, runC L lf m = some (cs, ks, p) → RightP ⟨lf, cs, ks⟩ → (∀ x ∈ L.drop p, x = 0) → IsN L ⟨lf, cs, ks⟩ from by
      intro cs ks p d1 d2 d3
      refine ⟨by rw [HL.out]; exact h3n, ?_, p, ?_, d2, d3⟩
      · cases hl : lf
        · rw [hl] at hk0; exact .inr ⟨rfl, by simp at hk0; omega⟩
        · rw [hl] at hk0; exact .inl ⟨rfl, by simp at hk0; omega⟩
      · show runC L lf (nAt L 1 2).toNat = some (cs, ks, p)
        rw [show (nAt L 1 2).toNat = m by omega]; exact d1)
    have HI1 := HI
    clear HI
    have hm6 : m ≤ 65535 := by omega
    have hmm : ¬ ((m : Int) < 0) := by omega
    clear hbad HK0 HD0 b1 b2 b3 b4
    subst hm
    have HG := Lib.hid (show GT w (w2.alloc (.cells #[.bool lf, .slice none 0 0, .slice none 0 0] 27)) w2.heap.size lf (.slice none 0 0) (.slice none 0 0) [] [] from
      ⟨B0.out.alloc B0.out.size _, R0.out.alloc _, q0, Bk.new _ _ _, OwC.nil _ _ _, own_nilI _ _ _⟩)
    have hlf2 : (k0 == 2) = !lf := by cases lf <;> simp [hk0]
    have Hk0 := Lib.hid hk0
    clear hk0 s0 s1 s2 s3 z0 z1 z2 z3
    go_upto_region 3 with (fail)
    go_cut [25] (fun v25 wx => v25 = .bool false ∧ wx = w2)
    case first =>
      cases lf
      · have h1 : (k0 != 1) = true := by simpa using hlf
        have h2 : (k0 != 2) = false := by simpa using hlf2
        clear hlf hlf2
        go_wp2_with fail
        go_meet
        exact ⟨rfl, rfl⟩
      · have h1 : (k0 != 1) = false := by simpa using hlf
        clear hlf hlf2
        go_wp2_with fail
        go_meet
        exact ⟨rfl, rfl⟩
    case rest =>
      obtain ⟨rfl, rfl⟩ := hcut
      go_upto_if 31 with (fail)
      generalize (wc.alloc (.cells #[.bool lf, .slice none 0 0, .slice none 0 0] 27)) = w4 at *
      generalize hnb : wc.heap.size = nb at *
      clear hlf hlf2 B0 R0
      go_cut [6] (fun v6 wx => ∃ p : Nat, v6 = .int .i64 p ∧ p ≤ 6 ∧ Hid (∃ vk ks, GT w wx nb lf (.slice none 0 0) vk [] ks ∧ ks.length ≤ 1 ∧ (p ≤ n → runC L lf 0 = some ([], ks, p)) ∧ (n < p → runC L lf 0 = none)))
      case first =>
        cases lf
        · go_upto_region 8 with (fail)
          have c2 : w4.cell? ⟨nb, 2, none⟩ = some (.slice none 0 0) := HG.out.nd.cell 2
          have c3 : ∀ v, (w4.alloc (.cells #[.int .i64 v] 3)).cell? ⟨nb, 2, none⟩ = some (.slice none 0 0) := fun v => (HG.out.alloc _).nd.cell 2
          have Ha := Lib.hid (Hat.out 3 3 3 3 w4.drew rfl rfl HG.out.drew.bw (by omega) (by omega))
          have Hd := Lib.hid (show ∀ v, GT w ((w4.drew).alloc (.cells #[.int .i64 v] 3)) nb false (.slice none 0 0) (.slice none 0 0) [] [] from fun v => HG.out.drew.alloc _)
          have Hv := Lib.hid (show (6 ≤ n → atI L n 3 3 = nAt L 3 3) from fun h => by unfold atI; rw [if_pos (by omega)])
          generalize atI L n 3 3 = v5 at *
          have c4 := c3 v5
          clear c3
          go_region_law (first
            | (go_at_call 26; refine Ha.out.mono ?_; rintro e w5 ⟨rfl, rfl⟩)
            | (go_simp; go_at_call 26; refine Ha.out.mono ?_; rintro e w5 ⟨rfl, rfl⟩)
            | (refine ap_its_step (base := w.heap.size) (v := .slice none 0 0) (n := 0) (xs := []) (own_nilI _ _ _) (Rd.oneI _ 3 v5) (Hd.out v5).bw.size (by omega) (by rfl) (by rfl) ?_; intro v6 w6 hown6 hb6 hg6 hat6; have hfin := (Hd.out v5).kid (ks' := [v5]) hg6 hown6; obtain ⟨A6, c6, rfl, _, _⟩ := own_form hown6; obtain ⟨f6, c6', hfin⟩ := hfin))
          all_goals
            have HF := Lib.hid hfin
            clear hfin hown6 hb6 hg6 hat6 Hd Ha
            go_wp2_with fail
            go_meet
            refine ⟨6, rfl, by omega, Lib.hid ⟨_, _, HF.out, by simp, fun h => ?_, fun h => ?_⟩⟩
            · rw [runC, if_neg (by simp), if_pos (by rw [HL.out]; exact h), Hv.out h]
            · rw [runC, if_neg (by simp), if_neg (by rw [HL.out]; omega)]
        · go_wp2_with fail
          go_meet
          exact ⟨3, rfl, by omega, Lib.hid ⟨_, [], HG.out, by simp, fun _ => by rw [runC, if_pos rfl], fun h => by omega⟩⟩
      case rest =>
        obtain ⟨p0, rfl, hp0, H0⟩ := hcut
        have HDm := Lib.hid (show ∀ j, j ≤ m → runC L lf j = none → ∀ N, ¬ IsN L N from by
          intro j hj hr N hN
          obtain ⟨_, p, h1, _⟩ := HD.out N hN
          have := runC_dead hr (m - j)
          rw [show j + (m - j) = m by omega] at this
          rw [this] at h1
          cases h1)
        go_wp2_with fail
        go_loopw [6, 7] (fun v6 v7 wr => ∃ p j : Nat, v6 = .int .i64 p ∧ v7 = .int .i64 j ∧ j ≤ m ∧ p ≤ n + 100000 ∧ Hid (∃ vc vk cs ks, GT w wr nb lf vc vk cs ks ∧ cs.length = j ∧ ks.length ≤ j + 1 ∧ (p ≤ n → runC L lf j = some (cs, ks, p)) ∧ (n < p → runC L lf m = none))) (fun _ v7 _ => m - (intOf v7).toNat)
        case atStart =>
          refine ⟨p0, 0, rfl, rfl, Nat.zero_le _, by omega, Lib.hid ?_⟩
          obtain ⟨vk, ks, h1, h2, h3, h4⟩ := H0.out
          exact ⟨_, vk, [], ks, h1, rfl, by omega, h3, fun h => by have := runC_dead (h4 h) m; rwa [Nat.zero_add] at this⟩
        case round =>
          obtain ⟨p, j, rfl, rfl, hj, hp, HI⟩ := hrel
          obtain ⟨vc, vk, cs, ks, hg, hcl, hkl, hrun, hdead⟩ := HI.out
          have G := Lib.hid hg
          obtain ⟨⟨s0, s1, s2, s3⟩, ⟨z0, z1, z2, z3⟩, zz⟩ := hg.none
          have HF := Lib.hid (below_set4 hg.bw)
          clear H0 HI
          by_cases hlt : j < m
          · have Ha := Lib.hid (Hat.out p 1 p 1 wr rfl rfl hg.bw (by omega) (by omega))
            by_cases h1 : p + 1 ≤ n
            · have hrun := hrun (by omega)
              obtain ⟨x, hx⟩ : ∃ x : Nat, nAt L p 1 = x := ⟨(nAt L p 1).toNat, by have := nAt_1 L p; omega⟩
              have hx5 : x ≤ 255 := by have := nAt_1 L p; omega
              have hka : atI L n p 1 = (x : Int) := by unfold atI; rw [if_pos h1, hx]
              rw [hka] at Ha
              have HX := Lib.hid hx
              have Hrun := Lib.hid hrun
              clear hka hx hrun hdead
              by_cases h2 : p + 1 + x ≤ n
              · have h2' : ¬ (n : Int) < (p : Int) + 1 + (x : Int) := by omega
                have hcl' : cs.length ≤ 100000 := by omega
                have Hcl := Lib.hid hcl
                have hz := hg.bw.size
                clear hcl hg
                go_wp2_with fail
                with_reducible refine Ha.out.mono ?_
                rintro e w5 ⟨rfl, rfl⟩
                clear Ha
                have HrR := Lib.hid (Hr.out.below G.out.bw (Nat.le_refl _))
                have hL := HL.out
                clear s0 s1 s2 s3 z0 z1 z2 z3 HF zz
                go_upto_if 73 with (
                  (with_reducible refine at_slice ?_)
                  refine cut_bys HrR.out hnc (p + 1) x h2 rfl rfl rfl rfl rfl rfl ?_
                  intro A' c' hr' hm' hc')
                have HCB := Lib.hid (show CB w (w5.alloc (.cells #[.slice A' x c', .slice none 0 0, .int .i64 0, .int .i64 0] 42)) w5.heap.size (.slice A' x c') (.slice none 0 0) ⟨(L.drop (p + 1)).take x, [], 0, 0⟩ from
                  ⟨Bk.new _ _ _, .inr ⟨A', x, c', rfl, hr'.alloc hz _, hm'⟩, .inl (own_nilB _ _ _)⟩)
                have HG7 := Lib.hid (G.out.alloc (.cells #[.slice A' x c', .slice none 0 0, .int .i64 0, .int .i64 0] 42))
                have H57 := Lib.hid ((Below.refl w5.heap.size w5).alloc (Nat.le_refl _) (.cells #[.slice A' x c', .slice none 0 0, .int .i64 0, .int .i64 0] 42))
                clear hr'
                generalize (w5.alloc (.cells #[.slice A' x c', .slice none 0 0, .int .i64 0, .int .i64 0] 42)) = w7 at *
                generalize hh : w5.heap.size = h at *
                have hhl := HCB.out.bk.lt
                obtain ⟨⟨s0, s1, s2, s3⟩, ⟨z0, z1, z2, z3⟩, zz⟩ := HG7.out.none
                have HF7 := Lib.hid (below_set4 HG7.out.bw)
                have hk0 := Hk0.out
                go_cut [6] (fun v6 wx => ∃ q : Nat, v6 = .int .i64 q ∧ q ≤ n + 100000 ∧ Hid (∃ vk' ks' cl vv kx, GT w wx nb lf vc vk' cs ks' ∧ CB w wx h (.slice A' x c') vv cl ∧ ks'.length ≤ j + 2 ∧ (q ≤ n → stepC L lf p = some (cl, kx, q) ∧ ks' = ks ++ kx) ∧ (n < q → stepC L lf p = none)))
                case first =>
                  cases lf
                  · have hk : k0 = 2 := by simpa using hk0
                    subst hk
                    clear hk0
                    have hklb : ks.length ≤ 100000 := by omega
                    obtain ⟨Avk, cvk, rfl, _, _⟩ := own_form HG7.out.ok
                    go_upto_region 19 with (fail)
                    have c2 : w7.cell? ⟨nb, 2, none⟩ = some (.slice Avk ks.length cvk) := HG7.out.nd.cell 2
                    have Ha := Lib.hid (Hat.out (p + 1 + x) 3 ((p : Int) + (1 + (x : Int))) 3 w7.drew (by omega) rfl HG7.out.drew.bw (by omega) (by omega))
                    have Hv := Lib.hid (show (p + 1 + x + 3 ≤ n → atI L n (p + 1 + x) 3 = nAt L (p + 1 + x) 3) from fun h => by unfold atI; rw [if_pos h])
                    generalize atI L n (p + 1 + x) 3 = v5 at *
                    have c4 : (w7.alloc (.cells #[.int .i64 v5] 3)).cell? ⟨nb, 2, none⟩ = some (.slice Avk ks.length cvk) := (HG7.out.alloc _).nd.cell 2
                    have hd5 : GT w ((w7.drew).alloc (.cells #[.int .i64 v5] 3)) nb false vc (.slice Avk ks.length cvk) cs ks := HG7.out.drew.alloc _
                    have hc5 : CB w ((w7.drew).alloc (.cells #[.int .i64 v5] 3)) h (.slice A' x c') (.slice none 0 0) ⟨(L.drop (p + 1)).take x, [], 0, 0⟩ := (HCB.out.drew HG7.out.bw.size).alloc HG7.out.bw.size _
                    have Hd5 := Lib.hid hd5
                    have Hc5 := Lib.hid hc5
                    clear hd5 hc5
                    go_region_law (first
                      | (go_at_call 26; refine Ha.out.mono ?_; rintro e w8 ⟨rfl, rfl⟩)
                      | (go_simp; go_at_call 26; refine Ha.out.mono ?_; rintro e w8 ⟨rfl, rfl⟩)
                      | (refine ap_its_step (base := w.heap.size) (v := .slice Avk ks.length cvk) (n := ks.length) (xs := ks) Hd5.out.ok (Rd.oneI _ 3 v5) Hd5.out.bw.size (by omega) (by rfl) (by rfl) ?_; intro v6 w6 hown6 hb6 hg6 hat6; have hfin := Hd5.out.kid (ks' := ks ++ [v5]) hg6 (by rw [List.length_append]; exact hown6); have hcb6 := Hc5.out.kidT (v6 := v6) Hd5.out hg6; obtain ⟨A6, c6, rfl, _, _⟩ := own_form hown6; obtain ⟨f6, c6', hfin⟩ := hfin))
                    all_goals
                      have HF8 := Lib.hid (And.intro hfin hcb6)
                      clear hfin hcb6 hown6 hb6 hg6 hat6 Hd5 Hc5 Ha
                      go_wp2_with fail
                      go_meet
                      refine ⟨p + 1 + x + 3, by first | rfl | (go_num; done) | (congr 1; omega), by omega, Lib.hid ⟨_, ks ++ [v5], _, .slice none 0 0, [v5], HF8.out.1, HF8.out.2, by simp; omega, fun h => ?_, fun h => ?_⟩⟩
                      · rw [Hv.out h]
                        exact ⟨stepC_s2 (by omega) HX.out (by omega) (by omega), rfl⟩
                      · exact stepC_n4 (by omega) HX.out (by omega) (by omega)
                  · have hk : k0 = 1 := by simpa using hk0
                    subst hk
                    clear hk0
                    have hw7 : w.heap.size ≤ h := by omega
                    have k1 : w7.cell? ⟨h, 1, none⟩ = some (.slice none 0 0) := HCB.out.bk.cell 1
                    have k2 : w7.cell? ⟨h, 2, none⟩ = some (.int .i64 0) := HCB.out.bk.cell 2
                    have k3 : w7.cell? ⟨h, 3, none⟩ = some (.int .i64 0) := HCB.out.bk.cell 3
                    have f1 : w7.frozen? ⟨h, 1, none⟩ = false := HCB.out.bk.free 1
                    have f2 : w7.frozen? ⟨h, 2, none⟩ = false := HCB.out.bk.free 2
                    have f3 : w7.frozen? ⟨h, 3, none⟩ = false := HCB.out.bk.free 3
                    have ha := Hat.out (p + 1 + x) 2 ((p : Int) + (1 + (x : Int))) 2 w7 (by omega) rfl HG7.out.bw (by omega) (by omega)
                    by_cases h4 : p + 1 + x + 2 ≤ n
                    · obtain ⟨y, hy⟩ : ∃ y : Nat, nAt L (p + 1 + x) 2 = y := ⟨(nAt L (p + 1 + x) 2).toNat, by have := nAt_2 L (p + 1 + x); omega⟩
                      have hy6 : y ≤ 65535 := by have := nAt_2 L (p + 1 + x); omega
                      have hka : atI L n (p + 1 + x) 2 = (y : Int) := by unfold atI; rw [if_pos h4, hy]
                      rw [hka] at ha
                      have Ha := Lib.hid ha
                      have HY := Lib.hid hy
                      clear ha hka hy
                      by_cases h5 : 64 < y
                      · have h5' : (64 : Int) < (y : Int) := by omega
                        have Ha3 := Lib.hid (Hat.out (p + 1 + x + 2) 3 ((p : Int) + (1 + (x : Int)) + 2) 3 (w7.setCell ⟨h, 3, none⟩ (.int .i64 (y : Int))) (by omega) rfl (HG7.out.bw.setCell (p := ⟨h, 3, none⟩) hw7 _) (by omega) (by omega))
                        have Hv := Lib.hid (show (p + 1 + x + 5 ≤ n → atI L n (p + 1 + x + 2) 3 = nAt L (p + 1 + x + 2) 3) from fun h => by unfold atI; rw [if_pos (by omega)])
                        generalize atI L n (p + 1 + x + 2) 3 = v5 at *
                        have HF8 := Lib.hid (show GT w ((w7.setCell ⟨h, 3, none⟩ (.int .i64 (y : Int))).setCell ⟨h, 2, none⟩ (.int .i64 v5)) nb true vc vk cs ks ∧ CB w ((w7.setCell ⟨h, 3, none⟩ (.int .i64 (y : Int))).setCell ⟨h, 2, none⟩ (.int .i64 v5)) h (.slice A' x c') (.slice none 0 0) ⟨(L.drop (p + 1)).take x, [], v5, (y : Int)⟩ from by
                          have hk := (HCB.out.bk.set 3 (.int .i64 (y : Int))).set 2 (.int .i64 v5)
                          simp only [List.setIfInBounds_toArray, List.set_cons_zero, List.set_cons_succ] at hk
                          refine ⟨G.out.below (by rw [hh]; exact (H57.out.setCell (p := ⟨h, 3, none⟩) (Nat.le_refl _) _).setCell (p := ⟨h, 2, none⟩) (Nat.le_refl _) _), hk, HCB.out.ky.k8 ((K8.refl.set (p := ⟨h, 3, none⟩) hw7 HCB.out.bk (by decide) _).set (p := ⟨h, 2, none⟩) hw7 HCB.out.bk (by decide) _) HG7.out.bw.size, .inl (own_nilB _ _ _)⟩)
                        go_wp2_with fail
                        with_reducible refine Ha.out.mono ?_
                        rintro e w8 ⟨rfl, rfl⟩
                        go_wp2_with fail
                        with_reducible refine Ha3.out.mono ?_
                        rintro e w8 ⟨rfl, rfl⟩
                        go_wp2_with fail
                        go_meet
                        refine ⟨p + 1 + x + 5, by first | rfl | (congr 1; omega), by omega, Lib.hid ⟨vk, ks, _, .slice none 0 0, [], HF8.out.1, HF8.out.2, by omega, fun h => ?_, fun h => ?_⟩⟩
                        · refine ⟨stepC_s1 (by omega) HX.out (by omega) ?_, by simp⟩
                          unfold valC
                          rw [if_pos (by omega), HY.out, if_pos h5', if_pos (by omega), Hv.out h]
                        · refine stepC_n3 (by omega) HX.out (by omega) ?_
                          unfold valC
                          rw [if_pos (by omega), HY.out, if_pos h5', if_neg (by omega)]
                      · have h5' : ¬ (64 : Int) < (y : Int) := by omega
                        by_cases h6 : p + 1 + x + 2 + y ≤ n
                        · have h6' : ¬ (n : Int) < (p : Int) + (1 + (x : Int)) + 2 + (y : Int) := by omega
                          have HrR7 := Lib.hid (Hr.out.below HG7.out.bw (Nat.le_refl _))
                          go_wp2_with fail
                          with_reducible refine Ha.out.mono ?_
                          rintro e w8 ⟨rfl, rfl⟩
                          go_wp2_with (
                            (with_reducible refine at_slice ?_)
                            refine cut_bys HrR7.out hnc (p + 1 + x + 2) y h6 rfl rfl rfl (by omega) (by omega) rfl ?_
                            intro A8 c8 hr8 hm8 hc8)
                          have HF8 := Lib.hid (show GT w (w8.setCell ⟨h, 1, none⟩ (.slice A8 y c8)) nb true vc vk cs ks ∧ CB w (w8.setCell ⟨h, 1, none⟩ (.slice A8 y c8)) h (.slice A' x c') (.slice A8 y c8) ⟨(L.drop (p + 1)).take x, (L.drop (p + 1 + x + 2)).take y, 0, 0⟩ from by
                            have hk := HCB.out.bk.set 1 (.slice A8 y c8)
                            simp only [List.setIfInBounds_toArray, List.set_cons_zero, List.set_cons_succ] at hk
                            exact ⟨G.out.below (by rw [hh]; exact H57.out.setCell (p := ⟨h, 1, none⟩) (Nat.le_refl _) _), hk, HCB.out.ky.k8 (K8.refl.set (p := ⟨h, 1, none⟩) hw7 HCB.out.bk (by decide) _) HG7.out.bw.size, .inr ⟨A8, y, c8, rfl, hr8.setCell (p := ⟨h, 1, none⟩) hw7 _, hm8⟩⟩)
                          go_meet
                          refine ⟨p + 1 + x + 2 + y, by first | rfl | (congr 1; omega), by omega, Lib.hid ⟨vk, ks, _, .slice A8 y c8, [], HF8.out.1, HF8.out.2, by omega, fun h => ?_, fun h => by omega⟩⟩
                          refine ⟨stepC_s1 (by omega) HX.out (by omega) ?_, by simp⟩
                          unfold valC
                          rw [if_pos (by omega), HY.out, if_neg (by omega), Int.toNat_natCast, if_pos (by omega)]
                        · have h6' : (n : Int) < (p : Int) + (1 + (x : Int)) + 2 + (y : Int) := by omega
                          have HN := Lib.hid (HDm.out (j + 1) (by omega) (runC_none Hrun.out (stepC_n3 (by omega) HX.out (by omega) (by
                            unfold valC
                            rw [if_pos (by omega), HY.out, if_neg (by omega), Int.toNat_natCast, if_neg (by omega)]))))
                          go_wp2_with fail
                          with_reducible refine Ha.out.mono ?_
                          rintro e w8 ⟨rfl, rfl⟩
                          go_wp2
                          exact bodyPost_ret (v := .agg #[.bool false, .slice none 0 0, .slice none 0 0, .bool false]) (by simp [results, Tryd.results10, go_sem, s0, s1, s2, s3]) rfl ⟨.inr ⟨rfl, HN.out⟩, HF7.out _ _ _ _⟩
                    · have hka : atI L n (p + 1 + x) 2 = -1 := by unfold atI; rw [if_neg h4]
                      rw [hka] at ha
                      have Ha := Lib.hid ha
                      have HN := Lib.hid (HDm.out (j + 1) (by omega) (runC_none Hrun.out (stepC_n3 (by omega) HX.out (by omega) (by
                        unfold valC
                        rw [if_neg (by omega)]))))
                      clear ha hka
                      go_wp2_with fail
                      with_reducible refine Ha.out.mono ?_
                      rintro e w8 ⟨rfl, rfl⟩
                      go_wp2
                      exact bodyPost_ret (v := .agg #[.bool false, .slice none 0 0, .slice none 0 0, .bool false]) (by simp [results, Tryd.results10, go_sem, s0, s1, s2, s3]) rfl ⟨.inr ⟨rfl, HN.out⟩, HF7.out _ _ _ _⟩
                case rest =>
                  obtain ⟨q, rfl, hq, H9⟩ := hcut
                  obtain ⟨vk', ks', cl, vv, kx, hg9, hcb9, hkl9, hs9, hf9⟩ := H9.out
                  obtain ⟨Ac, cc, rfl, hcc, _⟩ := hg9.oc.form
                  obtain ⟨Avv, cvv, rfl⟩ := hcb9.vl.form
                  have c1 : wc.cell? ⟨nb, 1, none⟩ = some (.slice Ac cs.length cc) := hg9.nd.cell 1
                  have b0 : wc.cell? ⟨h, 0, none⟩ = some (.slice A' x c') := hcb9.bk.cell 0
                  have b1 : wc.cell? ⟨h, 1, none⟩ = some (.slice Avv cl.val.length cvv) := hcb9.bk.cell 1
                  have b2 : wc.cell? ⟨h, 2, none⟩ = some (.int .i64 cl.over) := hcb9.bk.cell 2
                  have b3 : wc.cell? ⟨h, 3, none⟩ = some (.int .i64 cl.long) := hcb9.bk.cell 3
                  have G9 := Lib.hid (hg9.alloc (.cells #[.slice A' x c', .slice Avv cl.val.length cvv, .int .i64 cl.over, .int .i64 cl.long] 42))
                  have C9 := Lib.hid (hcb9.alloc hg9.bw.size (.cells #[.slice A' x c', .slice Avv cl.val.length cvv, .int .i64 cl.over, .int .i64 cl.long] 42))
                  have S9 := Lib.hid (And.intro hs9 hf9)
                  have hcl9 : cs.length ≤ 1000000 := by omega
                  clear hg9 hcb9 hs9 hf9 H9 HG7 HCB H57 HF7 s0 s1 s2 s3 z0 z1 z2 z3 zz hk0
                  go_wp2_with (
                    at_builtin
                    refine ap_cells (base := w.heap.size) (B := w.heap.size) (w0 := w) (v := .slice Ac cs.length cc) (cl := cl) G9.out.oc (Nat.le_refl _) C9.out.ky C9.out.vl (Rd.cell wc 42 _ _ _ _) G9.out.bw G9.out.bw.size hcl9 rfl rfl rfl ?_
                    intro v10 w10 hoc10 hb10 hg10
                    obtain ⟨f10, k10, hG10⟩ := G9.out.cel hg10 hoc10
                    obtain ⟨A10, c10, rfl, _, _⟩ := hoc10.form)
                  have HF := Lib.hid (show GT w (w10.setCell ⟨nb, 1, none⟩ (.slice A10 (cs.length + 1) c10)) nb lf (.slice A10 (cs.length + 1) c10) vk' (cs ++ [cl]) ks' from by
                    have h0 := hG10
                    rw [List.length_append] at h0
                    exact h0)
                  go_roundw
                  case rel =>
                    refine ⟨q, j + 1, rfl, by go_num, by omega, hq, Lib.hid ⟨_, vk', cs ++ [cl], ks', HF.out, by rw [List.length_append, Hcl.out]; rfl, by omega, fun h => ?_, fun h => ?_⟩⟩
                    · obtain ⟨a1, a2⟩ := S9.out.1 h
                      rw [a2]
                      exact runC_succ Hrun.out a1
                    · have := runC_dead (runC_none Hrun.out (S9.out.2 h)) (m - (j + 1))
                      rwa [show j + 1 + (m - (j + 1)) = m by omega] at this
                  case measure => simp [intOf]; omega
              · have h2' : (n : Int) < (p : Int) + 1 + (x : Int) := by omega
                have HN := Lib.hid (HDm.out (j + 1) (by omega) (runC_none Hrun.out (stepC_n2 (by rw [HL.out]; omega) HX.out (by rw [HL.out]; omega))))
                clear hg hcl hkl
                go_wp2_with fail
                with_reducible refine Ha.out.mono ?_
                rintro e w5 ⟨rfl, rfl⟩
                go_wp2
                exact bodyPost_ret (v := .agg #[.bool false, .slice none 0 0, .slice none 0 0, .bool false]) (by simp [results, Tryd.results10, go_sem, s0, s1, s2, s3]) rfl ⟨.inr ⟨rfl, HN.out⟩, HF.out _ _ _ _⟩
            · have hka : atI L n p 1 = -1 := by unfold atI; rw [if_neg h1]
              rw [hka] at Ha
              have HN := Lib.hid (show ∀ N, ¬ IsN L N from by
                by_cases h : n < p
                · exact HDm.out m (Nat.le_refl _) (hdead h)
                · exact HDm.out (j + 1) (by omega) (runC_none (hrun (by omega)) (stepC_n1 (by rw [HL.out]; omega))))
              clear hg hcl hkl hrun hdead hka
              go_wp2_with fail
              with_reducible refine Ha.out.mono ?_
              rintro e w5 ⟨rfl, rfl⟩
              go_wp2
              exact bodyPost_ret (v := .agg #[.bool false, .slice none 0 0, .slice none 0 0, .bool false]) (by simp [results, Tryd.results10, go_sem, s0, s1, s2, s3]) rfl ⟨.inr ⟨rfl, HN.out⟩, HF.out _ _ _ _⟩
          · have hjm : j = m := by omega
            by_cases hpn : p ≤ n
            · have hrun := hrun hpn
              rw [hjm] at hrun
              obtain ⟨hcm0, hpj, _, hksl⟩ := runC_bd (by rw [HL.out]; exact h3n) hrun
              have hksl' : ks.length ≤ m + 1 := by rw [hksl]; split <;> omega
              obtain ⟨Ac, cc, rfl, hcc, hcm⟩ := hg.oc.form
              obtain ⟨Ak, ck, rfl, hkc, hkm⟩ := own_form hg.ok
              have hrt := rright_big ⟨Ac, cs.length, cc, Ak, ks.length, ck⟩ ⟨lf, cs, ks⟩ wr ⟨hg.oc.rdcs hg.bw.size, Rd.of_own hg.ok, hcc, hkc, by show cc ≤ _; unfold maxLen at hcm; omega, by show ck ≤ _; unfold maxLen at hkm; omega⟩ (by show cs.length ≤ _; omega) (by show ks.length ≤ _; omega)
              unfold ndC at hrt
              simp only at hrt
              have hpn' : ¬ (n : Int) < (p : Int) := by omega
              have HIS := Lib.hid (HI1.out cs ks p hrun)
              have HNS := Lib.hid (show ∀ N, IsN L N → N = ⟨lf, cs, ks⟩ ∧ RightP N ∧ ∀ x ∈ L.drop p, x = 0 from by
                intro N hN
                obtain ⟨a1, p', a2, a3, a4⟩ := HD.out N hN
                rw [hrun] at a2
                injection a2 with a2
                injection a2 with c1 a2
                injection a2 with c2 c3
                subst c3
                obtain ⟨lf', cs', ks'⟩ := N
                simp only at c1 c2 a1
                subst c1 c2 a1
                exact ⟨rfl, a3, a4⟩)
              have HX := Lib.hid (show ∀ w5, Below wr.heap.size wr w5 → (w5.cell? ⟨nb, 0, none⟩ = some (.bool lf) ∧ w5.cell? ⟨nb, 1, none⟩ = some (.slice Ac cs.length cc) ∧ w5.cell? ⟨nb, 2, none⟩ = some (.slice Ak ks.length ck)) ∧
                  GT w w5 nb lf (.slice Ac cs.length cc) (.slice Ak ks.length ck) cs ks from fun w5 hb5 =>
                have h5 := G.out.below hb5
                ⟨⟨h5.nd.cell 0, h5.nd.cell 1, h5.nd.cell 2⟩, h5⟩)
              obtain ⟨⟨n0, n1, n2⟩, _⟩ := HX.out wr (Below.refl _ _)
              clear s0 s1 s2 s3 z0 z1 z2 z3 HF hrun hdead hcl hkl hksl hksl' hg hcm hkm hpj hjm hcm0
              by_cases hR : RightP ⟨lf, cs, ks⟩
              · rw [rightB_true hR] at hrt
                have Hrt := Lib.hid hrt
                have HIS2 := Lib.hid (HIS.out hR)
                clear hrt hR HIS
                go_wp2_with fail
                with_reducible refine Hrt.out.mono ?_
                rintro e w5 ⟨rfl, hb5⟩
                obtain ⟨⟨n0, n1, n2⟩, hg5⟩ := HX.out w5 hb5
                obtain ⟨⟨s0, s1, s2, s3⟩, ⟨z0, z1, z2, z3⟩, zz⟩ := hg5.none
                have HF7 := Lib.hid (below_set4 hg5.bw)
                have Hb5 := Lib.hid hb5
                have HrR := Lib.hid (Hr.out.below hg5.bw (Nat.le_refl _))
                clear hb5 hg5 HX Hrt
                go_wp2_with fail
                go_loopw [11] (fun v11 wx => ∃ i : Nat, v11 = .int .i64 i ∧ p ≤ i ∧ i ≤ n ∧ wx = w5 ∧ Hid (∀ t, p ≤ t → t < i → L[t]? = some 0)) (fun v11 _ => n - (intOf v11).toNat)
                case atStart => exact ⟨p, rfl, Nat.le_refl _, hpn, rfl, Lib.hid (fun t h1 h2 => by omega)⟩
                case round =>
                  obtain ⟨i, rfl, hpi, hin, rfl, HZ⟩ := hrel
                  by_cases hlti : i < n
                  · obtain ⟨b, o, u, rfl, hb, hu, hlt8, hc⟩ := HrR.out.byte hlti
                    by_cases hu0 : u = 0
                    · have hz : ((u.toNat : Int) != 0) = false := by rw [hu0]; rfl
                      have HZ2 := Lib.hid (show ∀ t, p ≤ t → t < i + 1 → L[t]? = some 0 from by
                        intro t h1 h2
                        by_cases h : t = i
                        · subst h; rw [hu, hu0]
                        · exact HZ.out t h1 (by omega))
                      clear hu0 hu HZ
                      go_wp2_with fail
                      go_roundw
                      case rel => exact ⟨i + 1, by go_num, by omega, by omega, by first | rfl | trivial, HZ2⟩
                      case measure => simp [intOf]; omega
                    · have hz : ((u.toNat : Int) != 0) = true := by
                        rw [bne_iff_ne]
                        intro h
                        exact hu0 (UInt8.toNat_inj.1 (by simpa using h))
                      have HN := Lib.hid (show ∀ N, ¬ IsN L N from by
                        intro N hN
                        obtain ⟨_, _, h3⟩ := HNS.out N hN
                        refine hu0 (h3 u ?_)
                        have : (L.drop p)[i - p]? = some u := by rw [List.getElem?_drop, show p + (i - p) = i by omega]; exact hu
                        exact List.mem_of_getElem? this)
                      clear hu0 hu HZ
                      go_wp2
                      exact bodyPost_ret (v := .agg #[.bool false, .slice none 0 0, .slice none 0 0, .bool false]) (by simp [results, Tryd.results10, go_sem, s0, s1, s2, s3]) rfl ⟨.inr ⟨rfl, HN.out⟩, HF7.out _ _ _ _⟩
                  · have HIN := Lib.hid (HIS2.out (by
                      intro x hx
                      obtain ⟨t, ht, rfl⟩ := List.getElem_of_mem hx
                      have hl := HL.out
                      rw [List.length_drop] at ht
                      have := HZ.out (p + t) (by omega) (by omega)
                      rw [List.getElem_drop]
                      exact (List.getElem?_eq_some_iff.1 this).2))
                    clear HZ
                    go_wp2
                    exact bodyPost_ret (v := .agg #[.bool lf, .slice Ac cs.length cc, .slice Ak ks.length ck, .bool true]) (by simp [results, Tryd.results10, go_sem, s0, s1, s2, s3]) rfl ⟨.inl ⟨⟨Ac, cs.length, cc, Ak, ks.length, ck⟩, ⟨lf, cs, ks⟩, rfl, HIN.out, (G.out.done Hb5.out _ _ _ _).1⟩, (G.out.done Hb5.out _ _ _ _).2⟩
              · rw [rightB_false hR] at hrt
                have Hrt := Lib.hid hrt
                have HN := Lib.hid (show ∀ N, ¬ IsN L N from fun N hN => by
                  obtain ⟨e1, e2, _⟩ := HNS.out N hN
                  rw [e1] at e2
                  exact hR e2)
                clear hrt hR HIS
                go_wp2_with fail
                with_reducible refine Hrt.out.mono ?_
                rintro e w5 ⟨rfl, hb5⟩
                obtain ⟨_, hg5⟩ := HX.out w5 hb5
                obtain ⟨⟨s0, s1, s2, s3⟩, ⟨z0, z1, z2, z3⟩, zz⟩ := hg5.none
                have HF7 := Lib.hid (below_set4 hg5.bw)
                clear hb5 hg5 HX Hrt
                go_wp2
                exact bodyPost_ret (v := .agg #[.bool false, .slice none 0 0, .slice none 0 0, .bool false]) (by simp [results, Tryd.results10, go_sem, s0, s1, s2, s3]) rfl ⟨.inr ⟨rfl, HN.out⟩, HF7.out _ _ _ _⟩
            · have hpn' : (n : Int) < (p : Int) := by omega
              have HN := Lib.hid (HDm.out m (Nat.le_refl _) (hdead (by omega)))
              have HF7 := HF
              clear hrun hdead hcl hkl hg hpn hjm HF
              go_wp2
              exact bodyPost_ret (v := .agg #[.bool false, .slice none 0 0, .slice none 0 0, .bool false]) (by simp [results, Tryd.results10, go_sem, s0, s1, s2, s3]) rfl ⟨.inr ⟨rfl, HN.out⟩, HF7.out _ _ _ _⟩
end Go.Proofs.YtelaliokmmaopaaDoor
