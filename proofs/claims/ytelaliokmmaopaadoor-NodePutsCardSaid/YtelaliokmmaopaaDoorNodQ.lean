/- Contracts of package node: Get. -/
import Derived.Test.YtelaliokmmaopaaDoorNodN
import Derived.Test.YtelaliokmmaopaaDoorNodTr
import Derived.Test.YtelaliokmmaopaaDoorNodB
namespace Go.Proofs.YtelaliokmmaopaaDoor
open Go.RowKit
attribute [local go_sem ↓] Go.wp_at_zero Go.wp_at_succ

/-- What Get answers. -/
def GetR (L : List UInt8) (e : Ending) (w' : World) : Prop :=
  (∃ M N, e = .returned (.tuple #[.agg (ndC N.leaf M), .int .i64 0]) ∧ IsN L N ∧ RdN w' w'.heap.size M N) ∨ (e = .returned (.tuple #[.agg #[.bool false, .slice none 0 0, .slice none 0 0], .int .i64 4]) ∧ ∀ N, ¬ IsN L N)
/-- No node can come of it. -/
def DeadN (L : List UInt8) (lf : Bool) (m : Nat) : Prop := L.length < 3 ∨ runC L lf m = none
set_option maxHeartbeats 8000000 in
set_option maxRecDepth 100000 in
theorem get_any (A : Option Addr) (n c : Nat) (L : List UInt8) (w : World) (hr : Rd w w.heap.size 1 A n (bys L)) (hnc : n ≤ c) (hn : n ≤ 100000) :
    Calls Tryd.prog 9 #[.slice A n c] w fun e w' => GetR L e w' ∧ Below w.heap.size w w' := by
  have HL := Lib.hid hr.blen
  have Hr := Lib.hid hr
  clear hr
  go_enter Tryd.func9, Tryd.ntmps9
  have hw1 : Below w.heap.size w ((w.alloc (.cells #[.bool false, .slice none 0 0, .slice none 0 0] 27)).alloc (.cells #[.slice A n c, .int .i64 0, .bool true] 50)) := ((Below.refl _ _).alloc (Nat.le_refl _) _).alloc (by simp) _
  have hd1 : Bk ((w.alloc (.cells #[.bool false, .slice none 0 0, .slice none 0 0] 27)).alloc (.cells #[.slice A n c, .int .i64 0, .bool true] 50)) w.heap.size 27 #[.bool false, .slice none 0 0, .slice none 0 0] := (Bk.new w _ _).alloc _
  have hn1 : NR ((w.alloc (.cells #[.bool false, .slice none 0 0, .slice none 0 0] 27)).alloc (.cells #[.slice A n c, .int .i64 0, .bool true] 50)) (w.heap.size + 1) A n c 0 true := by
    have := Bk.new (w.alloc (.cells #[.bool false, .slice none 0 0, .slice none 0 0] 27)) 50 #[.slice A n c, .int .i64 0, .bool true]
    simpa [NR] using this
  have Hw1 := Lib.hid hw1
  have Hd1 := Lib.hid hd1
  have Hnn := Lib.hid (nnum_any (w.heap.size + 1) A n c 0 1 true L _ hn1 ((Hr.out.below hw1 (Nat.le_refl _)).more hw1.size) hnc (by omega) (by omega) (by omega))
  clear hw1 hd1 hn1
  go_wp2_with fail
  refine Hnn.out.mono ?_
  rintro e w2 ⟨v1, wl1, rfl, hv10, hv11, hwt, hwf, hn2, hc2⟩
  have hS2 : Below w.heap.size w w2 := Hw1.out.trans (hc2.below Hw1.out.size (fun i hi => by omega))
  have hz2 : w.heap.size + 1 < w2.heap.size := by have := hc2.size; simp at this; omega
  have hd2 : Bk w2 w.heap.size 27 #[.bool false, .slice none 0 0, .slice none 0 0] := Bk.ch Hd1.out hc2 (by omega)
  have Hnn2 := Lib.hid (nnum_any (w.heap.size + 1) A n c (0 + 1) 2 wl1 L _ hn2 ((Hr.out.below hS2 (Nat.le_refl _)).more hS2.size) hnc (by omega) (by omega) (by omega))
  have Hd2 := Lib.hid hd2
  have HS2 := Lib.hid hS2
  have H1t := Lib.hid hwt
  have H1f := Lib.hid hwf
  have H1b : v1 < 256 := by have : (256 : Int) ^ 1 = 256 := by decide
                            omega
  clear hn2 hc2 hS2 hd2 hwt hwf Hnn Hw1 Hd1 hv11
  go_wp2_with fail
  refine Hnn2.out.mono ?_
  rintro e w3 ⟨v2, wl2, rfl, hv20, hv21, hwt, hwf, hn3, hc3⟩
  have hS3 : Below w.heap.size w w3 := HS2.out.trans (hc3.below (by omega) (fun i hi => by omega))
  have hz3 : w.heap.size + 1 < w3.heap.size := by have := hc3.size; omega
  have hd3 : Bk w3 w.heap.size 27 #[.bool false, .slice none 0 0, .slice none 0 0] := Bk.ch Hd2.out hc3 (by omega)
  have H2b : v2 < 65536 := by have : (256 : Int) ^ 2 = 65536 := by decide
                              omega
  obtain ⟨m, hm⟩ : ∃ m : Nat, (m : Int) = v2 := ⟨v2.toNat, by omega⟩
  have hwl3 : wl2 = true → 3 ≤ n ∧ wl1 = true ∧ v2 = nAt L 1 2 := fun h => ⟨by have := (hwt h).2.1; omega, (hwt h).1, (hwt h).2.2⟩
  have hwl4 : wl2 = false → n < 3 := fun h => by
    rcases hwf h with h | h
    · rcases H1f.out h with h | h
      · cases h
      · omega
    · omega
  have Hhd := Lib.hid (show 3 ≤ n → nAt L 0 1 = v1 ∧ nAt L 1 2 = v2 from fun h => by
    have h2 : wl2 = true := by
      cases wl2
      · have := hwl4 rfl; omega
      · rfl
    exact ⟨((H1t.out (hwl3 h2).2.1).2.2).symm, (hwl3 h2).2.2.symm⟩)
  have H3t := Lib.hid hwl3
  have H3f := Lib.hid hwl4
  obtain ⟨lf, hlf⟩ : ∃ lf, (v1 == 1) = lf := ⟨_, rfl⟩
  have HG := Lib.hid (show GS w (w3.alloc (.cells #[.bool lf, .slice none 0 0, .slice none 0 0] 27)) (w.heap.size + 1) w3.heap.size A n c lf (.slice none 0 0) (.slice none 0 0) [] [] 3 wl2 from
    ⟨by omega, hS3.alloc hS3.size _, Bk.alloc hn3 _, Bk.alloc hd3 _, by omega, Bk.new _ _ _, OwC.nil _ _ _, own_nilI _ _ _⟩)
  have Hv1 := Lib.hid hlf
  clear hn3 hc3 hS3 hd3 hwt hwf Hnn2 HS2 Hd2 hwl3 hwl4 H1t H1f hv21
  subst hm
  have hm6 : m < 65536 := by omega
  clear hv20 H2b hv10 H1b
  go_upto_if 21 with (fail)
  clear hlf
  generalize (w3.alloc (.cells #[.bool lf, .slice none 0 0, .slice none 0 0] 27)) = w4 at *
  generalize hnb : w3.heap.size = nb at *
  have hz4 := HG.out.nd.lt
  go_cut [] (fun wx => Hid (∃ vk ks p wl, GS w wx (w.heap.size + 1) nb A n c lf (.slice none 0 0) vk [] ks p wl ∧ (wl = true → 3 ≤ n ∧ runC L lf 0 = some ([], ks, p)) ∧ (wl = false → n < 3 ∨ runC L lf 0 = none)))
  case first =>
    cases lf
    · go_upto_region 5 with (fail)
      have c2 : w4.cell? ⟨nb, 2, none⟩ = some (.slice none 0 0) := HG.out.nd.cell 2
      have Hn5 := Lib.hid (nnum_any (w.heap.size + 1) A n c 3 3 wl2 L w4.drew (Bk.drew HG.out.rd) (((Hr.out.below HG.out.bw (Nat.le_refl _)).more HG.out.bw.size).drew) hnc (by omega) (by omega) (by omega))
      have HC5 := Lib.hid (show ∀ w5 v5 wl5, NR w5 (w.heap.size + 1) A n c (3 + 3) wl5 → Ch (fun i => i = w.heap.size + 1) w4.drew w5 → GS w (w5.alloc (.cells #[.int .i64 v5] 3)) (w.heap.size + 1) nb A n c false (.slice none 0 0) (.slice none 0 0) [] [] (3 + 3) wl5 from fun w5 v5 wl5 hn hc => (HG.out.drew.ch hc hn).alloc _)
      go_region_law (first
        | (go_at_call 22; refine Hn5.out.mono ?_; rintro e w5 ⟨v5, wl5, rfl, _, _, ht5, hf5, hn5, hc5⟩; have hg5 := HC5.out w5 v5 wl5 hn5 hc5; have k2 : w5.cell? ⟨nb, 2, none⟩ = some (.slice none 0 0) := (HG.out.drew.ch hc5 hn5).nd.cell 2; have k3 : (w5.alloc (.cells #[.int .i64 v5] 3)).cell? ⟨nb, 2, none⟩ = some (.slice none 0 0) := hg5.nd.cell 2)
        | (go_simp; go_at_call 22; refine Hn5.out.mono ?_; rintro e w5 ⟨v5, wl5, rfl, _, _, ht5, hf5, hn5, hc5⟩; have hg5 := HC5.out w5 v5 wl5 hn5 hc5; have k2 : w5.cell? ⟨nb, 2, none⟩ = some (.slice none 0 0) := (HG.out.drew.ch hc5 hn5).nd.cell 2; have k3 : (w5.alloc (.cells #[.int .i64 v5] 3)).cell? ⟨nb, 2, none⟩ = some (.slice none 0 0) := hg5.nd.cell 2)
        | (refine ap_its_step (base := w.heap.size) (v := .slice none 0 0) (n := 0) (xs := []) (own_nilI _ _ _) (Rd.oneI w5 3 v5) hg5.bw.size (by omega) (by rfl) (by rfl) ?_; intro v6 w6 hown6 hb6 hg6 hat6; have hfin := hg5.kid (ks' := [v5]) hg6 hown6; obtain ⟨A6, c6, rfl, _, _⟩ := own_form hown6; obtain ⟨f6, c6', hfin⟩ := hfin))
      all_goals
        have HF := Lib.hid hfin
        have T5 := Lib.hid ht5
        have F5 := Lib.hid hf5
        clear ht5 hf5 hfin hg5 hown6 hb6 hg6 hat6 hc5 hn5 HC5 Hn5
        go_wp2_with fail
        go_meet
        refine Lib.hid ⟨_, _, 6, wl5, HF.out, fun h => ?_, fun h => ?_⟩
        · obtain ⟨a1, a2, a3⟩ := T5.out h
          refine ⟨(H3t.out a1).1, ?_⟩
          have := HL.out
          rw [runC, if_neg (by simp), if_pos (by omega), a3]
        · have := HL.out
          rcases F5.out h with h | h
          · exact .inl (H3f.out h)
          · right; rw [runC, if_neg (by simp), if_neg (by omega)]
    · go_wp2_with fail
      go_meet
      exact Lib.hid ⟨_, [], 3, wl2, HG.out, fun h => ⟨(H3t.out h).1, by rw [runC, if_pos rfl]⟩, fun h => .inl (H3f.out h)⟩
  case rest =>
    have hcut0 := hcut
    have hgw : w.heap.size < wc.heap.size := by obtain ⟨_, _, _, _, hg, _⟩ := hcut.out; have := hg.rs.lt; omega
    clear HG H3t H3f hcut hz4
    go_upto_block 0 with (fail)
    go_cut [] (fun wx => Hid (∃ vc vk cs ks p wl, GS w wx (w.heap.size + 1) nb A n c lf vc vk cs ks p wl ∧ (wl = true → 3 ≤ n ∧ runC L lf m = some (cs, ks, p)) ∧ (wl = false → n < 3 ∨ runC L lf m = none)))
    case first =>
      go_wp2_with fail
      go_loopw [30] (fun idx wr => ∃ j : Nat, idx = .int .i64 j ∧ j ≤ m ∧ Hid (∃ vc vk cs ks p wl, GS w wr (w.heap.size + 1) nb A n c lf vc vk cs ks p wl ∧ (wl = true → 3 ≤ n ∧ runC L lf j = some (cs, ks, p)) ∧ (wl = false → n < 3 ∨ runC L lf m = none))) (fun idx _ => m - (intOf idx).toNat)
      case atStart =>
        refine ⟨0, rfl, Nat.zero_le _, Lib.hid ?_⟩
        obtain ⟨vk, ks, p, wl, h1, h2, h3⟩ := hcut0.out
        exact ⟨_, vk, _, ks, p, wl, h1, h2, fun h => (h3 h).imp id (fun e => by have := runC_dead e m; rwa [Nat.zero_add] at this)⟩
      case round =>
        obtain ⟨j, rfl, hj, HI⟩ := hrel
        obtain ⟨vc, vk, cs, ks, p, wl, hg, ht, hf⟩ := HI.out
        have G := Lib.hid hg
        clear hcut0 HI
        by_cases hlt : j < m
        · have r0 : wr.cell? ⟨w.heap.size + 1, 2, none⟩ = some (.bool wl) := Bk.cell hg.rd 2
          cases wl
          · have Hf := Lib.hid (hf rfl)
            clear hg ht hf
            go_wp2_with fail
            go_meet
            exact Lib.hid ⟨vc, vk, cs, ks, p, false, G.out, fun h => (by cases h), fun _ => Hf.out⟩
          · obtain ⟨h3n, hrun⟩ := ht rfl
            obtain ⟨hcsl, hpj, hpn, hksl⟩ := runC_bd (by rw [HL.out]; exact h3n) hrun
            rw [HL.out] at hpn
            have Hrun := Lib.hid hrun
            have hzr := hg.bw.size
            have Hn1 := Lib.hid (nnum_any (w.heap.size + 1) A n c p 1 true L wr hg.rd ((Hr.out.below hg.bw (Nat.le_refl _)).more hzr) hnc (by omega) (by omega) (by omega))
            have hksl' : ks.length ≤ n + 1 := by rw [hksl]; split <;> omega
            have hcsl' : cs.length ≤ 1000000 := by omega
            clear hg ht hf hrun hksl hcsl
            go_wp2_with fail
            refine Hn1.out.mono ?_
            rintro e w5 ⟨vx, wa, rfl, hx0, hx1, hta, hfa, hn5, hc5⟩
            have hx1' : vx < 256 := by have : (256 : Int) ^ 1 = 256 := by decide
                                       omega
            obtain ⟨x, hx⟩ : ∃ x : Nat, (x : Int) = vx := ⟨vx.toNat, by omega⟩
            have hg5 := G.out.ch hc5 hn5
            have hcu := ncut_any (w.heap.size + 1) A n c (p + 1) x wa L w5 hn5 ((Hr.out.below hg5.bw (Nat.le_refl _)).more hg5.bw.size) hnc (by omega) (by omega) (by omega)
            rw [hx] at hcu
            have Hcu := Lib.hid hcu
            have G5 := Lib.hid hg5
            have TA := Lib.hid hta
            have FA := Lib.hid hfa
            have HX := Lib.hid hx
            clear hcu hg5 hta hfa hn5 hc5 Hn1 hx1 r0
            go_wp2_with fail
            refine Hcu.out.mono ?_
            rintro e w6 ⟨vky, key, wb, rfl, hown6, htb, hfb, hn6, hc6⟩
            have hg6 := G5.out.ch hc6 hn6
            have hk6 : KeyR w6 w.heap.size w.heap.size vky key := .inl (own_base hown6 G5.out.bw.size)
            obtain ⟨Aky, cky, rfl, _, _⟩ := own_form hown6
            have HCB := Lib.hid (show CB w (w6.alloc (.cells #[.slice Aky key.length cky, .slice none 0 0, .int .i64 0, .int .i64 0] 42)) w6.heap.size (.slice Aky key.length cky) (.slice none 0 0) ⟨key, [], 0, 0⟩ from
              ⟨Bk.new _ _ _, hk6.k8 (K8.refl.alloc _) hg6.bw.size, .inl (own_nilB _ _ _)⟩)
            have H67 := Lib.hid ((Ch.refl (fun i => i = w.heap.size + 1) w6).alloc (.cells #[.slice Aky key.length cky, .slice none 0 0, .int .i64 0, .int .i64 0] 42))
            have HG7 := Lib.hid (hg6.alloc (.cells #[.slice Aky key.length cky, .slice none 0 0, .int .i64 0, .int .i64 0] 42))
            have G6 := Lib.hid hg6
            have K6 := Lib.hid hk6
            have hsp := Lib.hid (show (wb = true → p + 1 ≤ L.length ∧ nAt L p 1 = x ∧ p + 1 + x ≤ L.length ∧ key = (L.drop (p + 1)).take x) ∧ (wb = false → stepC L lf p = none) from by
              have hL := HL.out
              have hxx := HX.out
              refine ⟨fun h => ?_, fun h => ?_⟩
              · obtain ⟨a1, a2, a3⟩ := htb h
                obtain ⟨b1, b2, b3⟩ := TA.out a1
                exact ⟨by omega, by rw [← b3, hxx], by omega, a3⟩
              · by_cases hwa : wa = true
                · obtain ⟨b1, b2, b3⟩ := TA.out hwa
                  rcases hfb h with h | h
                  · rw [h] at hwa; cases hwa
                  · exact stepC_n2 (by omega) (by rw [← b3, hxx]) (by omega)
                · rcases FA.out (by simpa using hwa) with h | h
                  · cases h
                  · exact stepC_n1 (by omega))
            clear hg6 hk6 hown6 htb hfb hn6 hc6 Hcu TA FA
            have n0 : (w6.alloc (.cells #[.slice Aky key.length cky, .slice none 0 0, .int .i64 0, .int .i64 0] 42)).cell? ⟨nb, 0, none⟩ = some (.bool lf) := HG7.out.nd.cell 0
            go_upto_if 43 with (fail)
            generalize (w6.alloc (.cells #[.slice Aky key.length cky, .slice none 0 0, .int .i64 0, .int .i64 0] 42)) = w7 at *
            generalize hh : w6.heap.size = h at *
            go_cut [] (fun wx => Hid (∃ vk' ks' q wl' cl vv kx, GS w wx (w.heap.size + 1) nb A n c lf vc vk' cs ks' q wl' ∧ CB w wx h (.slice Aky key.length cky) vv cl ∧ (wl' = true → stepC L lf p = some (cl, kx, q) ∧ ks' = ks ++ kx) ∧ (wl' = false → stepC L lf p = none)))
            case first =>
              cases lf
              · obtain ⟨Avk, cvk, rfl, _, _⟩ := own_form HG7.out.ok
                go_upto_region 12 with (fail)
                have c2 : w7.cell? ⟨nb, 2, none⟩ = some (.slice Avk ks.length cvk) := HG7.out.nd.cell 2
                have hb7 : w.heap.size ≤ w7.heap.size := HG7.out.bw.size
                have Hn5 := Lib.hid (nnum_any (w.heap.size + 1) A n c (p + 1 + x) 3 wb L w7.drew (Bk.drew HG7.out.rd) (((Hr.out.below HG7.out.bw (Nat.le_refl _)).more hb7).drew) hnc (by omega) (by omega) (by omega))
                have HC5 := Lib.hid (show ∀ w5 v5 wl5, NR w5 (w.heap.size + 1) A n c (p + 1 + x + 3) wl5 → Ch (fun i => i = w.heap.size + 1) w7.drew w5 → GS w (w5.alloc (.cells #[.int .i64 v5] 3)) (w.heap.size + 1) nb A n c false vc (.slice Avk ks.length cvk) cs ks (p + 1 + x + 3) wl5 ∧
                    CB w (w5.alloc (.cells #[.int .i64 v5] 3)) h (.slice Aky key.length cky) (.slice none 0 0) ⟨key, [], 0, 0⟩ ∧ w5.cell? ⟨nb, 2, none⟩ = some (.slice Avk ks.length cvk) from fun w5 v5 wl5 hn hc =>
                  have hG := HG7.out.drew.ch hc hn
                  ⟨hG.alloc _, ((HCB.out.drew hb7).ch HG7.out.drew.rd (by omega) hb7 hc).alloc hG.bw.size _, hG.nd.cell 2⟩)
                go_region_law (first
                  | (go_at_call 22; refine Hn5.out.mono ?_; rintro e w5 ⟨v5, wl5, rfl, _, _, ht5, hf5, hn5, hc5⟩; obtain ⟨hg5, hcb5, k2⟩ := HC5.out w5 v5 wl5 hn5 hc5; have k3 : (w5.alloc (.cells #[.int .i64 v5] 3)).cell? ⟨nb, 2, none⟩ = some (.slice Avk ks.length cvk) := hg5.nd.cell 2)
                  | (go_simp; go_at_call 22; refine Hn5.out.mono ?_; rintro e w5 ⟨v5, wl5, rfl, _, _, ht5, hf5, hn5, hc5⟩; obtain ⟨hg5, hcb5, k2⟩ := HC5.out w5 v5 wl5 hn5 hc5; have k3 : (w5.alloc (.cells #[.int .i64 v5] 3)).cell? ⟨nb, 2, none⟩ = some (.slice Avk ks.length cvk) := hg5.nd.cell 2)
                  | (refine ap_its_step (base := w.heap.size) (v := .slice Avk ks.length cvk) (n := ks.length) (xs := ks) hg5.ok (Rd.oneI w5 3 v5) hg5.bw.size (by omega) (by rfl) (by rfl) ?_; intro v6 w6' hown6 hb6 hg6 hat6; have hfin := hg5.kid (ks' := ks ++ [v5]) hg6 (by rw [List.length_append]; exact hown6); have hcb6 := hcb5.kid (v6 := v6) hg5 hg6; obtain ⟨A6, c6, rfl, _, _⟩ := own_form hown6; obtain ⟨f6, c6', hfin⟩ := hfin))
                all_goals
                  have HF := Lib.hid (And.intro hfin hcb6)
                  have T5 := Lib.hid ht5
                  have F5 := Lib.hid hf5
                  clear ht5 hf5 hfin hcb6 hcb5 hg5 hown6 hb6 hg6 hat6 hc5 hn5 HC5 Hn5
                  go_wp2_with fail
                  go_meet
                  refine Lib.hid ⟨_, ks ++ [v5], p + 1 + x + 3, wl5, ⟨key, [], 0, 0⟩, .slice none 0 0, [v5], HF.out.1, HF.out.2, fun h => ?_, fun h => ?_⟩
                  · obtain ⟨a1, a2, a3⟩ := T5.out h
                    obtain ⟨b1, b2, b3, b4⟩ := hsp.out.1 a1
                    have := HL.out
                    rw [b4, a3]
                    exact ⟨stepC_s2 b1 b2 b3 (by omega), rfl⟩
                  · have := HL.out
                    by_cases hwb : wb = true
                    · obtain ⟨b1, b2, b3, b4⟩ := hsp.out.1 hwb
                      rcases F5.out h with h | h
                      · rw [h] at hwb; cases hwb
                      · exact stepC_n4 b1 b2 b3 (by omega)
                    · exact hsp.out.2 (by simpa using hwb)
              · have Hce := Lib.hid (ncell_any (w.heap.size + 1) h w.heap.size A n c (p + 1 + x) wb L (.slice Aky key.length cky) w7 HG7.out.rd HCB.out.bk (Hr.out.below HG7.out.bw (Nat.le_refl _)) HG7.out.bw.size (by omega) hnc (by omega) (by omega))
                go_wp2_with fail
                refine Hce.out.mono ?_
                rintro e w8 ⟨vv, l, over, long, q, wl', rfl, hbk8, hown8, ht8, hf8, hn8, hc8⟩
                have hc68 : Ch (fun i => i = w.heap.size + 1) w6 w8 := H67.out.trans hc8 (fun i hi => hi.imp id (fun e => by omega))
                have HF := Lib.hid (show GS w w8 (w.heap.size + 1) nb A n c true vc vk cs ks q wl' ∧ CB w w8 h (.slice Aky key.length cky) vv ⟨key, l, over, long⟩ from
                  ⟨G6.out.ch hc68 hn8, hbk8, K6.out.k8 (ch_k8 G6.out.rd (by omega) hc68 (by decide)) G6.out.bw.size, .inl (own_base hown8 HG7.out.bw.size)⟩)
                have T8 := Lib.hid ht8
                have F8 := Lib.hid hf8
                clear hbk8 hown8 ht8 hf8 hn8 hc8 hc68 Hce
                go_wp2_with fail
                go_meet
                refine Lib.hid ⟨vk, ks, q, wl', ⟨key, l, over, long⟩, vv, [], HF.out.1, HF.out.2, fun h => ?_, fun h => ?_⟩
                · obtain ⟨a1, a2⟩ := T8.out h
                  obtain ⟨b1, b2, b3, b4⟩ := hsp.out.1 a1
                  rw [b4]
                  exact ⟨stepC_s1 b1 b2 b3 a2, by simp⟩
                · by_cases hwb : wb = true
                  · obtain ⟨b1, b2, b3, b4⟩ := hsp.out.1 hwb
                    rcases F8.out h with h | h
                    · rw [h] at hwb; cases hwb
                    · exact stepC_n3 b1 b2 b3 h
                  · exact hsp.out.2 (by simpa using hwb)
            case rest =>
              obtain ⟨vk', ks', q, wl', cl, vv, kx, hg9, hcb9, hs9, hf9⟩ := hcut.out
              obtain ⟨Ac, cc, rfl, hcc, _⟩ := hg9.oc.form
              obtain ⟨Avv, cvv, rfl⟩ := hcb9.vl.form
              have c1 : wc.cell? ⟨nb, 1, none⟩ = some (.slice Ac cs.length cc) := hg9.nd.cell 1
              have b0 : wc.cell? ⟨h, 0, none⟩ = some (.slice Aky key.length cky) := hcb9.bk.cell 0
              have b1 : wc.cell? ⟨h, 1, none⟩ = some (.slice Avv cl.val.length cvv) := hcb9.bk.cell 1
              have b2 : wc.cell? ⟨h, 2, none⟩ = some (.int .i64 cl.over) := hcb9.bk.cell 2
              have b3 : wc.cell? ⟨h, 3, none⟩ = some (.int .i64 cl.long) := hcb9.bk.cell 3
              have G9 := Lib.hid (hg9.alloc (.cells #[.slice Aky key.length cky, .slice Avv cl.val.length cvv, .int .i64 cl.over, .int .i64 cl.long] 42))
              have C9 := Lib.hid (hcb9.alloc hg9.bw.size (.cells #[.slice Aky key.length cky, .slice Avv cl.val.length cvv, .int .i64 cl.over, .int .i64 cl.long] 42))
              have S9 := Lib.hid (And.intro hs9 hf9)
              clear hg9 hcb9 hs9 hf9 hcut hsp HG7 HCB H67 G6 K6 G5 G n0
              go_wp2_with (
                at_builtin
                refine ap_cells (base := w.heap.size) (B := w.heap.size) (w0 := w) (v := .slice Ac cs.length cc) (cl := cl) G9.out.oc (Nat.le_refl _) C9.out.ky C9.out.vl (Rd.cell wc 42 _ _ _ _) G9.out.bw G9.out.bw.size hcsl' rfl rfl rfl ?_
                intro v10 w10 hoc10 hb10 hg10
                obtain ⟨f10, k10, hG10⟩ := G9.out.cel hg10 hoc10
                obtain ⟨A10, c10, rfl, _, _⟩ := hoc10.form)
              have HF := Lib.hid (show GS w (w10.setCell ⟨nb, 1, none⟩ (.slice A10 (cs.length + 1) c10)) (w.heap.size + 1) nb A n c lf (.slice A10 (cs.length + 1) c10) vk' (cs ++ [cl]) ks' q wl' from by
                have h0 := hG10
                rw [List.length_append] at h0
                exact h0)
              go_roundw
              case rel =>
                refine ⟨j + 1, by go_num, by omega, Lib.hid ⟨_, vk', cs ++ [cl], ks', q, wl', HF.out, fun h => ⟨h3n, ?_⟩, fun h => .inr ?_⟩⟩
                · obtain ⟨a1, a2⟩ := S9.out.1 h
                  rw [a2]
                  exact runC_succ Hrun.out a1
                · have := runC_dead (runC_none Hrun.out (S9.out.2 h)) (m - (j + 1))
                  rwa [show j + 1 + (m - (j + 1)) = m by omega] at this
              case measure => simp [intOf]; omega
        · obtain rfl : j = m := by omega
          have Ht := Lib.hid (And.intro ht hf)
          clear hg ht hf
          go_wp2_with fail
          go_meet
          exact Lib.hid ⟨vc, vk, cs, ks, p, wl, G.out, Ht.out.1, Ht.out.2⟩
    case rest =>
      obtain ⟨vc, vk, cs, ks, p, wl, hg, ht, hf⟩ := hcut.out
      obtain ⟨Ac, cc, rfl, hcc, _⟩ := hg.oc.form
      obtain ⟨Ak, ck, rfl, hkc, _⟩ := own_form hg.ok
      have G := Lib.hid hg
      have HD := Lib.hid (show ∀ N, IsN L N → 3 ≤ n ∧ lf = N.leaf ∧ (nAt L 1 2).toNat = m ∧ (N.leaf = false → v1 = 2) from by
        intro N ⟨a1, a2, _⟩
        rw [HL.out] at a1
        obtain ⟨b1, b2⟩ := Hhd.out a1
        refine ⟨a1, ?_, by omega, fun h => ?_⟩
        · rcases a2 with ⟨c1, c2⟩ | ⟨c1, c2⟩
          · rw [c1, ← Hv1.out, ← b1, c2]; rfl
          · rw [c1, ← Hv1.out, ← b1, c2]; rfl
        · rcases a2 with ⟨c1, c2⟩ | ⟨c1, c2⟩
          · rw [h] at c1; cases c1
          · omega)
      have r0 : wc.cell? ⟨w.heap.size + 1, 2, none⟩ = some (.bool wl) := Bk.cell hg.rd 2
      have hzc := hg.rs.lt
      cases wl
      · have HN := Lib.hid (show ∀ N, ¬ IsN L N from by
          intro N hN
          obtain ⟨a1, a2, a3, _⟩ := HD.out N hN
          obtain ⟨_, _, p', b1, _⟩ := hN
          rw [a3, ← a2] at b1
          rcases hf rfl with h | h
          · omega
          · rw [h] at b1; cases b1)
        have s0 : wc.cell? ⟨w.heap.size, 0, none⟩ = some (.bool false) := hg.rs.cell 0
        have s1 : wc.cell? ⟨w.heap.size, 1, none⟩ = some (.slice none 0 0) := hg.rs.cell 1
        have s2 : wc.cell? ⟨w.heap.size, 2, none⟩ = some (.slice none 0 0) := hg.rs.cell 2
        have z0 : wc.frozen? ⟨w.heap.size, 0, none⟩ = false := hg.rs.free 0
        have z1 : wc.frozen? ⟨w.heap.size, 1, none⟩ = false := hg.rs.free 1
        have z2 : wc.frozen? ⟨w.heap.size, 2, none⟩ = false := hg.rs.free 2
        clear hg ht hf hcut HD
        go_wp2
        exact bodyPost_ret (v := .tuple #[.agg #[.bool false, .slice none 0 0, .slice none 0 0], .int .i64 4]) (by simp [results, Tryd.results9, go_sem, s0, s1, s2]) rfl ⟨.inr ⟨rfl, HN.out⟩, ((G.out.bw.setCell (p := ⟨w.heap.size, 0, none⟩) (Nat.le_refl _) _).setCell (p := ⟨w.heap.size, 1, none⟩) (Nat.le_refl _) _).setCell (p := ⟨w.heap.size, 2, none⟩) (Nat.le_refl _) _⟩
      · obtain ⟨h3n, hrun⟩ := ht rfl
        obtain ⟨hcsl, hpj, hpn, hksl⟩ := runC_bd (by rw [HL.out]; exact h3n) hrun
        rw [HL.out] at hpn
        have hksl' : ks.length ≤ n + 1 := by rw [hksl]; split <;> omega
        have HS := Lib.hid (show ∀ N, IsN L N → N = ⟨lf, cs, ks⟩ ∧ RightP N ∧ (∀ x ∈ L.drop p, x = 0) ∧ (lf = false → v1 = 2) from by
          intro N hN
          obtain ⟨a1, a2, a3, a4⟩ := HD.out N hN
          obtain ⟨_, _, p', b1, b2, b3⟩ := hN
          rw [a3, ← a2, hrun] at b1
          injection b1 with b1
          injection b1 with c1 b1
          injection b1 with c2 c3
          subst c3
          obtain ⟨lf', cs', ks'⟩ := N
          simp only at c1 c2 a2 a4
          subst c1 c2 a2
          exact ⟨rfl, b2, b3, a4⟩)
        have HI := Lib.hid (show (lf = false → v1 = 2) → RightP ⟨lf, cs, ks⟩ → (∀ x ∈ L.drop p, x = 0) → IsN L ⟨lf, cs, ks⟩ from by
          intro h1 h2 h3
          obtain ⟨b1, b2⟩ := Hhd.out h3n
          refine ⟨by rw [HL.out]; exact h3n, ?_, p, ?_, h2, h3⟩
          · cases hl : lf
            · exact .inr ⟨rfl, by rw [b1]; exact h1 hl⟩
            · exact .inl ⟨rfl, by rw [b1]; have hv := Hv1.out; rw [hl] at hv; simpa using hv⟩
          · show runC L lf (nAt L 1 2).toNat = some (cs, ks, p)
            rw [b2, Int.toNat_natCast]; exact hrun)
        obtain ⟨b, o, _, hA, hbb, _⟩ := Hr.out.byte (k := 0) (by omega)
        subst hA
        have HX := Lib.hid (show ∀ w5, Below wc.heap.size wc w5 → (w5.cell? ⟨w.heap.size + 1, 1, none⟩ = some (.int .i64 (p : Int)) ∧ w5.cell? ⟨w.heap.size + 1, 2, none⟩ = some (.bool true)) ∧
            (w5.cell? ⟨nb, 0, none⟩ = some (.bool lf) ∧ w5.cell? ⟨nb, 1, none⟩ = some (.slice Ac cs.length cc) ∧ w5.cell? ⟨nb, 2, none⟩ = some (.slice Ak ks.length ck)) ∧
            (w5.cell? ⟨w.heap.size, 0, none⟩ = some (.bool false) ∧ w5.cell? ⟨w.heap.size, 1, none⟩ = some (.slice none 0 0) ∧ w5.cell? ⟨w.heap.size, 2, none⟩ = some (.slice none 0 0)) ∧
            (w5.frozen? ⟨w.heap.size, 0, none⟩ = false ∧ w5.frozen? ⟨w.heap.size, 1, none⟩ = false ∧ w5.frozen? ⟨w.heap.size, 2, none⟩ = false) ∧ Below w.heap.size w w5 ∧ Rd w5 w.heap.size 1 (some ⟨b, o, none⟩) n (bys L) from by
          intro w5 hb5
          have g1 : NR w5 (w.heap.size + 1) (some ⟨b, o, none⟩) n c p true := Bk.below G.out.rd hb5 (Bk.lt G.out.rd)
          have g2 := Bk.below G.out.nd hb5 G.out.nd.lt
          have g3 := Bk.below G.out.rs hb5 G.out.rs.lt
          have g4 := G.out.bw.trans (hb5.mono G.out.bw.size)
          exact ⟨⟨Bk.cell g1 1, Bk.cell g1 2⟩, ⟨g2.cell 0, g2.cell 1, g2.cell 2⟩, ⟨g3.cell 0, g3.cell 1, g3.cell 2⟩, ⟨g3.free 0, g3.free 1, g3.free 2⟩, g4, Hr.out.below g4 (Nat.le_refl _)⟩)
        have hrn : RdN wc wc.heap.size ⟨Ac, cs.length, cc, Ak, ks.length, ck⟩ ⟨lf, cs, ks⟩ := (G.out.done (Below.refl _ _) 0 (.bool false) (.slice none 0 0) (.slice none 0 0)).1 |> fun h => ⟨G.out.oc.rdcs G.out.bw.size, Rd.of_own G.out.ok, h.nc, h.md, h.cm, h.dm⟩
        have hrt := right_any ⟨Ac, cs.length, cc, Ak, ks.length, ck⟩ ⟨lf, cs, ks⟩ wc hrn (by show cs.length ≤ _; omega) (by show ks.length ≤ _; omega)
        unfold ndC at hrt
        simp only at hrt
        have Hrt := Lib.hid hrt
        obtain ⟨A7, hA7, hA7'⟩ : ∃ A7 : Option Addr, (if c = p then some (⟨b, o, none⟩ : Addr) else some ⟨b, o + p, none⟩) = A7 ∧ (n - p = 0 ∨ A7 = some ⟨b, o + p, none⟩) := by
          refine ⟨_, rfl, ?_⟩
          by_cases h : c = p
          · left; omega
          · right; rw [if_neg h]
        have hpc : p ≤ c := by omega
        have HRd := Lib.hid (show ∀ w5, Below wc.heap.size wc w5 → Rd w5 w.heap.size 1 A7 (n - p) (bys (L.drop p)) from by
          intro w5 hb5
          have h5 := (HX.out w5 hb5).2.2.2.2.2
          have hdl : (L.drop p).length = n - p := by rw [List.length_drop, HL.out]
          rcases hA7' with h | h
          · rw [h] at hdl ⊢
            rw [List.eq_nil_of_length_eq_zero hdl]
            exact Rd.empty
          · have := h5.bcut (k := p) (m := n - p) (by omega) (A' := A7) (fun _ => by rw [h]; simp [addLit])
            rwa [List.take_of_length_le (by omega)] at this)
        obtain ⟨⟨p1, r1⟩, ⟨n0, n1, n2⟩, ⟨s0, s1, s2⟩, ⟨z0, z1, z2⟩, HB5, _⟩ := HX.out wc (Below.refl _ _)
        clear hg ht hf hcut HD hrun hrn hrt hksl hcsl hA7' r1
        have HB5' := Lib.hid HB5
        by_cases hbad : lf = false ∧ v1 ≠ 2
        · have HN := Lib.hid (show ∀ N, ¬ IsN L N from fun N hN => hbad.2 ((HS.out N hN).2.2.2 hbad.1))
          obtain ⟨hl, hv⟩ := hbad
          have hv' : (v1 != 2) = true := by simpa using hv
          subst hl
          clear hv HS HI HX Hrt HRd HB5 hA7
          have HB5 := HB5'.out
          clear HB5
          go_wp2
          have HB5 := HB5'.out
          exact bodyPost_ret (v := .tuple #[.agg #[.bool false, .slice none 0 0, .slice none 0 0], .int .i64 4]) (by simp [results, Tryd.results9, go_sem, s0, s1, s2]) rfl ⟨.inr ⟨rfl, HN.out⟩, ((HB5.setCell (p := ⟨w.heap.size, 0, none⟩) (Nat.le_refl _) _).setCell (p := ⟨w.heap.size, 1, none⟩) (Nat.le_refl _) _).setCell (p := ⟨w.heap.size, 2, none⟩) (Nat.le_refl _) _⟩
        · have Hgood := Lib.hid (show lf = false → v1 = 2 from fun h => Classical.byContradiction fun hv => hbad ⟨h, hv⟩)
          have hv' : lf = false → (v1 != 2) = false := fun h => by simpa using Hgood.out h
          clear hbad HB5
          by_cases hR : RightP ⟨lf, cs, ks⟩
          · have hrt := Hrt.out
            rw [rightB_true hR] at hrt
            have Hrt2 := Lib.hid hrt
            by_cases hz : ∀ x ∈ L.drop p, x = 0
            · have HIS := Lib.hid (HI.out Hgood.out hR hz)
              have HT := Lib.hid (show ∀ w5, Below wc.heap.size wc w5 → Calls Tryd.prog 25 #[.slice A7 (n - p) (c - p), .string ⟨#[0]⟩] w5 fun e w' => e = .returned (.slice none 0 0) ∧ ∃ q, w' = w5.drewN q from fun w5 hb5 => (trim_any A7 (n - p) (c - p) (L.drop p) w5 (HRd.out w5 hb5) (by omega) (by omega)).mono (by
                rintro e w' ⟨⟨_, rfl⟩ | ⟨h, _⟩, hq⟩
                · exact ⟨rfl, hq⟩
                · exact absurd hz h))
              clear hR hz hrt Hrt HI HS HRd
              cases lf
              · obtain rfl := Hgood.out rfl
                go_wp2_with fail
                with_reducible refine Hrt2.out.mono ?_
                rintro e w5 ⟨rfl, hb5⟩
                obtain ⟨⟨p1, r1⟩, ⟨n0, n1, n2⟩, ⟨s0, s1, s2⟩, ⟨z0, z1, z2⟩, hB5, _⟩ := HX.out w5 hb5
                have HB5 := Lib.hid hB5
                have Hb5 := Lib.hid hb5
                have hlt5 : w.heap.size < w5.heap.size := by have := hb5.size; omega
                have HT5 := Lib.hid (HT.out w5 hb5)
                clear hB5 hb5 HX HT Hrt2
                go_wp2_with fail
                with_reducible refine HT5.out.mono ?_
                rintro e w6 ⟨rfl, q, rfl⟩
                go_wp2
                exact bodyPost_ret (v := .tuple #[.agg #[.bool _, .slice Ac cs.length cc, .slice Ak ks.length ck], .int .i64 0]) (by simp [results, Tryd.results9, go_sem, s0, s1, s2]) rfl ⟨.inl ⟨⟨Ac, cs.length, cc, Ak, ks.length, ck⟩, ⟨_, cs, ks⟩, rfl, HIS.out, (G.out.done Hb5.out q _ _ _).1⟩, (G.out.done Hb5.out q _ _ _).2⟩
              · go_wp2_with fail
                with_reducible refine Hrt2.out.mono ?_
                rintro e w5 ⟨rfl, hb5⟩
                obtain ⟨⟨p1, r1⟩, ⟨n0, n1, n2⟩, ⟨s0, s1, s2⟩, ⟨z0, z1, z2⟩, hB5, _⟩ := HX.out w5 hb5
                have HB5 := Lib.hid hB5
                have Hb5 := Lib.hid hb5
                have hlt5 : w.heap.size < w5.heap.size := by have := hb5.size; omega
                have HT5 := Lib.hid (HT.out w5 hb5)
                clear hB5 hb5 HX HT Hrt2
                go_wp2_with fail
                with_reducible refine HT5.out.mono ?_
                rintro e w6 ⟨rfl, q, rfl⟩
                go_wp2
                exact bodyPost_ret (v := .tuple #[.agg #[.bool _, .slice Ac cs.length cc, .slice Ak ks.length ck], .int .i64 0]) (by simp [results, Tryd.results9, go_sem, s0, s1, s2]) rfl ⟨.inl ⟨⟨Ac, cs.length, cc, Ak, ks.length, ck⟩, ⟨_, cs, ks⟩, rfl, HIS.out, (G.out.done Hb5.out q _ _ _).1⟩, (G.out.done Hb5.out q _ _ _).2⟩
            · have HN := Lib.hid (show ∀ N, ¬ IsN L N from fun N hN => hz (HS.out N hN).2.2.1)
              have HT := Lib.hid (show ∀ w5, Below wc.heap.size wc w5 → Calls Tryd.prog 25 #[.slice A7 (n - p) (c - p), .string ⟨#[0]⟩] w5 fun e w' => (∃ b o k c', e = .returned (.slice (some ⟨b, o, none⟩) (k + 1) c')) ∧ ∃ q, w' = w5.drewN q from fun w5 hb5 => (trim_any A7 (n - p) (c - p) (L.drop p) w5 (HRd.out w5 hb5) (by omega) (by omega)).mono (by
                rintro e w' ⟨⟨h, _⟩ | ⟨_, h⟩, hq⟩
                · exact absurd h hz
                · exact ⟨h, hq⟩))
              clear hR hz hrt Hrt HI HS HRd
              cases lf
              · obtain rfl := Hgood.out rfl
                go_wp2_with fail
                with_reducible refine Hrt2.out.mono ?_
                rintro e w5 ⟨rfl, hb5⟩
                obtain ⟨⟨p1, r1⟩, ⟨n0, n1, n2⟩, ⟨s0, s1, s2⟩, ⟨z0, z1, z2⟩, hB5, _⟩ := HX.out w5 hb5
                have HB5 := Lib.hid hB5
                have hlt5 : w.heap.size < w5.heap.size := by have := hb5.size; omega
                have HT5 := Lib.hid (HT.out w5 hb5)
                have HT6 := Lib.hid (fun q => HT.out (w5.drewN q) (below_drewN hb5 q))
                clear hB5 hb5 HX HT Hrt2
                go_wp2_with fail
                with_reducible refine HT5.out.mono ?_
                rintro e w6 ⟨⟨b6, o6, k6, c6, rfl⟩, q, rfl⟩
                go_wp2_with fail
                with_reducible refine (HT6.out q).mono ?_
                rintro e w7 ⟨⟨b7, o7, k7, c7, rfl⟩, q7, rfl⟩
                have HB6 := Lib.hid (below_drewN HB5.out (q + q7))
                go_wp2
                exact bodyPost_ret (v := .tuple #[.agg #[.bool false, .slice none 0 0, .slice none 0 0], .int .i64 4]) (by simp [results, Tryd.results9, go_sem, s0, s1, s2]) rfl ⟨.inr ⟨rfl, HN.out⟩, ((HB6.out.setCell (p := ⟨w.heap.size, 0, none⟩) (Nat.le_refl _) _).setCell (p := ⟨w.heap.size, 1, none⟩) (Nat.le_refl _) _).setCell (p := ⟨w.heap.size, 2, none⟩) (Nat.le_refl _) _⟩
              · go_wp2_with fail
                with_reducible refine Hrt2.out.mono ?_
                rintro e w5 ⟨rfl, hb5⟩
                obtain ⟨⟨p1, r1⟩, ⟨n0, n1, n2⟩, ⟨s0, s1, s2⟩, ⟨z0, z1, z2⟩, hB5, _⟩ := HX.out w5 hb5
                have HB5 := Lib.hid hB5
                have hlt5 : w.heap.size < w5.heap.size := by have := hb5.size; omega
                have HT5 := Lib.hid (HT.out w5 hb5)
                have HT6 := Lib.hid (fun q => HT.out (w5.drewN q) (below_drewN hb5 q))
                clear hB5 hb5 HX HT Hrt2
                go_wp2_with fail
                with_reducible refine HT5.out.mono ?_
                rintro e w6 ⟨⟨b6, o6, k6, c6, rfl⟩, q, rfl⟩
                go_wp2_with fail
                with_reducible refine (HT6.out q).mono ?_
                rintro e w7 ⟨⟨b7, o7, k7, c7, rfl⟩, q7, rfl⟩
                have HB6 := Lib.hid (below_drewN HB5.out (q + q7))
                go_wp2
                exact bodyPost_ret (v := .tuple #[.agg #[.bool false, .slice none 0 0, .slice none 0 0], .int .i64 4]) (by simp [results, Tryd.results9, go_sem, s0, s1, s2]) rfl ⟨.inr ⟨rfl, HN.out⟩, ((HB6.out.setCell (p := ⟨w.heap.size, 0, none⟩) (Nat.le_refl _) _).setCell (p := ⟨w.heap.size, 1, none⟩) (Nat.le_refl _) _).setCell (p := ⟨w.heap.size, 2, none⟩) (Nat.le_refl _) _⟩
          · have hrt := Hrt.out
            rw [rightB_false hR] at hrt
            have Hrt2 := Lib.hid hrt
            have HN := Lib.hid (show ∀ N, ¬ IsN L N from fun N hN => by
              obtain ⟨e1, e2, _⟩ := HS.out N hN
              rw [e1] at e2
              exact hR e2)
            clear hR hrt Hrt HI HS HRd
            cases lf
            · obtain rfl := Hgood.out rfl
              go_wp2_with fail
              with_reducible refine Hrt2.out.mono ?_
              rintro e w5 ⟨rfl, hb5⟩
              obtain ⟨⟨p1, r1⟩, ⟨n0, n1, n2⟩, ⟨s0, s1, s2⟩, ⟨z0, z1, z2⟩, hB5, _⟩ := HX.out w5 hb5
              have HB5 := Lib.hid hB5
              have hlt5 : w.heap.size < w5.heap.size := by have := hb5.size; omega
              clear hB5 hb5 HX Hrt2
              go_wp2
              exact bodyPost_ret (v := .tuple #[.agg #[.bool false, .slice none 0 0, .slice none 0 0], .int .i64 4]) (by simp [results, Tryd.results9, go_sem, s0, s1, s2]) rfl ⟨.inr ⟨rfl, HN.out⟩, ((HB5.out.setCell (p := ⟨w.heap.size, 0, none⟩) (Nat.le_refl _) _).setCell (p := ⟨w.heap.size, 1, none⟩) (Nat.le_refl _) _).setCell (p := ⟨w.heap.size, 2, none⟩) (Nat.le_refl _) _⟩
            · go_wp2_with fail
              with_reducible refine Hrt2.out.mono ?_
              rintro e w5 ⟨rfl, hb5⟩
              obtain ⟨⟨p1, r1⟩, ⟨n0, n1, n2⟩, ⟨s0, s1, s2⟩, ⟨z0, z1, z2⟩, hB5, _⟩ := HX.out w5 hb5
              have HB5 := Lib.hid hB5
              have hlt5 : w.heap.size < w5.heap.size := by have := hb5.size; omega
              clear hB5 hb5 HX Hrt2
              go_wp2
              exact bodyPost_ret (v := .tuple #[.agg #[.bool false, .slice none 0 0, .slice none 0 0], .int .i64 4]) (by simp [results, Tryd.results9, go_sem, s0, s1, s2]) rfl ⟨.inr ⟨rfl, HN.out⟩, ((HB5.out.setCell (p := ⟨w.heap.size, 0, none⟩) (Nat.le_refl _) _).setCell (p := ⟨w.heap.size, 1, none⟩) (Nat.le_refl _) _).setCell (p := ⟨w.heap.size, 2, none⟩) (Nat.le_refl _) _⟩
end Go.Proofs.YtelaliokmmaopaaDoor
