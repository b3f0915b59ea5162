/- PagerActs: the walk (written by wip/pgty.py). -/
import Derived.Test.YtoadamkmabkldaaGreatDoorJn40
import Derived.Test.YtoadamkmabkldaaGreatDoorRows
import Derived.PinnedBridge
import Derived.Stop.LaidErr
set_option linter.unusedVariables false
set_option linter.unusedSimpArgs false
namespace Go.Proofs.YtoadamkmabkldaaGreatDoor
open Go.RowKit Go.Shelf
attribute [local go_sem ↓] Go.wp_at_zero Go.wp_at_succ
set_option linter.unusedVariables false
theorem pagerActs_laid (W : World) (_ : laidMet Tryz.prog Rows.pagerActsRow.laid W) : True := trivial
set_option maxHeartbeats 16000000 in
set_option maxRecDepth 100000 in
theorem pagerActs_walk (A : Option Addr) (n c : Nat) (acts : List ActV) (w : World) (hr : RdAs w w.heap.size A n acts) (hnc : n ≤ c) (hcm : c ≤ maxLen) (_ : True) :
    Calls Tryz.prog 8 #[.slice A n c] w fun e w' => e = .returned (.bool true) ∧ Below w.heap.size w w' := by
  rename_i hT
  clear hT
  have HW := Lib.hid (pwakes_any w)
  by_cases h60 : 60 < n
  · have hi : (60 : Int) < (n : Int) := by omega
    clear h60 hr hnc hcm
    go_enter Tryz.func8, Tryz.ntmps8
    go_wp2_with fail
    with_reducible refine HW.out.mono ?_
    rintro e w1 ⟨rfl, b1⟩
    have B1 := Lib.hid b1
    clear b1
    go_wp2_with fail
    go_ret
    exact ⟨rfl, B1.out⟩
  · have hi : ¬ (60 : Int) < (n : Int) := by omega
    have HR := Lib.hid hr
    have hn60 : n ≤ 60 := by omega
    clear h60 hr hnc hcm
    go_enter Tryz.func8, Tryz.ntmps8
    go_wp2_with fail
    with_reducible refine HW.out.mono ?_
    rintro e w0 ⟨rfl, b0⟩
    have B0 := Lib.hid b0
    have HN := Lib.hid (new_fs 65536 w0)
    clear b0 HW
    go_wp2_with fail
    with_reducible refine HN.out.mono ?_
    rintro e w1 ⟨f, rfl, h1, b1⟩
    have HO := Lib.hid (a0_open h1 b1)
    clear h1 b1 HN
    go_wp2_with fail
    with_reducible refine HO.out.mono ?_
    rintro e w2 ⟨p, rfl, H2⟩
    have HN1 := Lib.hid (a0_new H2.out)
    clear HO H2 hi
    go_wp2_with fail
    with_reducible refine HN1.out.mono ?_
    rintro e w3 ⟨s1, rfl, H3⟩
    have HN2 := Lib.hid (a1_new H3.out)
    clear HN1 H3
    go_wp2_with fail
    with_reducible refine HN2.out.mono ?_
    rintro e w4 ⟨s2, rfl, H4⟩
    clear HN2
    go_wp2_with fail
    go_loopw [4, 6, 7, 8, 31] (fun s4 s6 s7 s8 s31 wr => ∃ (i p s1 s2 : Nat), s31 = .int .i64 (i : Int) ∧ i ≤ n ∧ s4 = .pointer (some ⟨p, 0, none⟩) ∧ s6 = .pointer (some ⟨s1, 0, none⟩) ∧ s7 = .pointer (some ⟨s2, 0, none⟩) ∧
      ((s8 = .pointer none ∧ Hid (StA w0 wr f p s1 s2 (3 * i))) ∨ ∃ s3 : Nat, s8 = .pointer (some ⟨s3, 0, none⟩) ∧ Hid (StB w0 wr f s2 s3 (3 * i)))) (fun _ _ _ _ s31 _ => n - (intOf s31).toNat)
    case atStart => exact ⟨0, p, s1, s2, rfl, Nat.zero_le _, rfl, rfl, rfl, .inl ⟨rfl, H4⟩⟩
    case round =>
      obtain ⟨i, p, s1, s2, rfl, hin, rfl, rfl, rfl, hAB⟩ := hrel
      have hlow : Below w0.heap.size w0 wr := by
        rcases hAB with ⟨_, h⟩ | ⟨s3, _, h⟩
        · exact h.out.low
        · exact h.out.low
      have HLow := Lib.hid hlow
      by_cases hlt : i < n
      · obtain ⟨q, hq⟩ : ∃ q, acts[i]? = some q := ⟨_, List.getElem?_eq_getElem (by have := HR.out.1; omega)⟩
        have hbw : Below w.heap.size w wr := B0.out.trans (hlow.mono B0.out.size)
        obtain ⟨b, o, hA, hb, hcs⟩ := HR.out.2 (by omega)
        have hact := hcs i q hq
        subst hA
        obtain ⟨vB, d3, AB, nB, cB, hvB, hrB, hnB, hcB⟩ := hact.c3
        subst hvB
        have e0 : wr.cell? ⟨b, o + i * 5, none⟩ = some (.int .i64 q.kind) := (hbw.cell (p := ⟨b, o + i * 5, none⟩) hb).trans hact.c0
        have e1 : wr.cell? ⟨b, o + i * 5 + 1, none⟩ = some (.int .i64 q.n) := (hbw.cell (p := ⟨b, o + i * 5 + 1, none⟩) hb).trans hact.c1
        have e2 : wr.cell? ⟨b, o + i * 5 + 2, none⟩ = some (.int .i64 q.k) := (hbw.cell (p := ⟨b, o + i * 5 + 2, none⟩) hb).trans hact.c2
        have e3 : wr.cell? ⟨b, o + i * 5 + 3, none⟩ = some (.slice AB nB cB) := (hbw.cell (p := ⟨b, o + i * 5 + 3, none⟩) hb).trans d3
        have e4 : wr.cell? ⟨b, o + i * 5 + 4, none⟩ = some (.int .u64 (q.keep.toNat : Int)) := (hbw.cell (p := ⟨b, o + i * 5 + 4, none⟩) hb).trans hact.c4
        have HQ := Lib.hid (And.intro hact.i0 (And.intro hact.i1 (And.intro hact.i2 (And.intro (hrB.below B0.out (Nat.le_refl _)) hrB.blen))))
        obtain ⟨kind, no, kk, B, keep⟩ := q
        dsimp only at e0 e1 e2 e3 e4 HQ
        have hlt2 : (i : Int) < (n : Int) := by omega
        clear hq hact hcs hrB hnB hcB d3 hbw
        by_cases h6 : 600 < nB
        · have h62 : (600 : Int) < (nB : Int) := by omega
          clear hAB
          go_wp2_with fail
          go_ret
          exact ⟨rfl, B0.out.trans ((HLow.out.trans (((Below.refl _ wr).alloc (Nat.le_refl _) _).mono HLow.out.size)).mono B0.out.size)⟩
        · have h62 : ¬ (600 : Int) < (nB : Int) := by omega
          have hkc : kind < 0 ∨ (0 ≤ kind ∧ kind ≤ 3) ∨ kind = 4 ∨ kind = 5 ∨ kind = 6 ∨ kind = 7 ∨ kind = 8 ∨ 8 < kind := by omega
          rcases hAB with ⟨rfl, HA⟩ | ⟨s3, rfl, HB⟩
          · rcases hkc with hk | hk | rfl | rfl | rfl | rfl | rfl | hk
            · as_aux_lemma =>
                obtain ⟨P, S, L, nw, ls, hM0, hI⟩ := HA.out
                have hM : AcM w0 (wr.alloc (.cells #[.int .i64 kind, .int .i64 no, .int .i64 kk, .slice AB nB cB, .int .u64 (keep.toNat : Int)] 54)) (actBx wr.heap.size (actO kind no kk AB nB cB (keep.toNat : Int))) f p s1 s2 P S nw ls := hM0.box2 ((Below.refl _ wr).alloc (Nat.le_refl _) _) (by show (wr.heap.push _)[wr.heap.size]? = _; rw [Array.getElem?_push, if_pos rfl]; rfl) (Nat.le_refl _)
                clear hM0 HA
                have hk0 : ¬ 0 ≤ kind := by omega
                have hn4 : ¬ kind = 4 := by omega
                have hn5 : ¬ kind = 5 := by omega
                have hn6 : ¬ kind = 6 := by omega
                have hn7 : ¬ kind = 7 := by omega
                have hn8 : ¬ kind = 8 := by omega
                have HDn := Lib.hid (by have := ac_down hM; rewrite [hI.st.up] at this; exact this)
                have HSm := Lib.hid (ac_same hM hI (by omega))
                clear hM hI
                go_wp2_with fail
                with_reducible refine HDn.out.mono ?_
                rintro e wz ⟨rfl, hwz⟩
                replace hwz := hwz.symm
                subst hwz
                go_wp2_with fail
                with_reducible refine HSm.out.mono ?_
                rintro e w9 ⟨rfl, P9, h9, hI9⟩
                have HDn9 := Lib.hid (by have := ac_down h9; rewrite [hI9.st.up] at this; exact this)
                have H9 := Lib.hid (show StA w0 w9 f p s1 s2 (3 * (i + 1)) from ⟨P9, _, _, _, _, h9.nobox, hI9.more (by omega)⟩)
                clear h9 hI9 HDn HSm
                go_wp2_with fail
                with_reducible refine HDn9.out.mono ?_
                rintro e wz ⟨rfl, hwz⟩
                replace hwz := hwz.symm
                subst hwz
                go_wp2_with fail
                go_roundw
                case rel => first | exact ⟨i + 1, p, s1, s2, rfl, by omega, rfl, rfl, rfl, .inl ⟨rfl, H9⟩⟩ | ((repeat apply Exists.intro); exact ⟨⟨i + 1, p, s1, s2, rfl, by omega, rfl, rfl, rfl, .inl ⟨rfl, H9⟩⟩, rfl⟩)
                case measure => simp [intOf]; omega
            · as_aux_lemma =>
                obtain ⟨P, S, L, nw, ls, hM0, hI⟩ := HA.out
                have hM : AcM w0 (wr.alloc (.cells #[.int .i64 kind, .int .i64 no, .int .i64 kk, .slice AB nB cB, .int .u64 (keep.toNat : Int)] 54)) (actBx wr.heap.size (actO kind no kk AB nB cB (keep.toNat : Int))) f p s1 s2 P S nw ls := hM0.box2 ((Below.refl _ wr).alloc (Nat.le_refl _) _) (by show (wr.heap.push _)[wr.heap.size]? = _; rw [Array.getElem?_push, if_pos rfl]; rfl) (Nat.le_refl _)
                clear hM0 HA
                obtain ⟨hk0, hk3⟩ := hk
                have HCh := Lib.hid (change_any17 hM hI (by omega) kind no kk AB nB cB B (keep.toNat : Int) (by omega) HQ.out.2.1 HQ.out.2.2.1 (HQ.out.2.2.2.1.more B0.out.size) (by omega))
                clear hM hI
                go_wp2_with fail
                with_reducible refine HCh.out.mono ?_
                rintro e w5 ⟨rfl, P5, nw5, h5, hI5⟩
                clear HCh hk0 hk3
                have HDn := Lib.hid (by have := ac_down h5; rewrite [hI5.st.up] at this; exact this)
                have HSm := Lib.hid (ac_same h5 hI5 (by omega))
                clear h5 hI5
                go_wp2_with fail
                with_reducible refine HDn.out.mono ?_
                rintro e wz ⟨rfl, hwz⟩
                replace hwz := hwz.symm
                subst hwz
                go_wp2_with fail
                with_reducible refine HSm.out.mono ?_
                rintro e w9 ⟨rfl, P9, h9, hI9⟩
                have HDn9 := Lib.hid (by have := ac_down h9; rewrite [hI9.st.up] at this; exact this)
                have H9 := Lib.hid (show StA w0 w9 f p s1 s2 (3 * (i + 1)) from ⟨P9, _, _, _, _, h9.nobox, hI9.more (by omega)⟩)
                clear h9 hI9 HDn HSm
                go_wp2_with fail
                with_reducible refine HDn9.out.mono ?_
                rintro e wz ⟨rfl, hwz⟩
                replace hwz := hwz.symm
                subst hwz
                go_wp2_with fail
                go_roundw
                case rel => first | exact ⟨i + 1, p, s1, s2, rfl, by omega, rfl, rfl, rfl, .inl ⟨rfl, H9⟩⟩ | ((repeat apply Exists.intro); exact ⟨⟨i + 1, p, s1, s2, rfl, by omega, rfl, rfl, rfl, .inl ⟨rfl, H9⟩⟩, rfl⟩)
                case measure => simp [intOf]; omega
            · as_aux_lemma =>
                obtain ⟨P, S, L, nw, ls, hM0, hI⟩ := HA.out
                have hM : AcM w0 (wr.alloc (.cells #[.int .i64 4, .int .i64 no, .int .i64 kk, .slice AB nB cB, .int .u64 (keep.toNat : Int)] 54)) (actBx wr.heap.size (actO 4 no kk AB nB cB (keep.toNat : Int))) f p s1 s2 P S nw ls := hM0.box2 ((Below.refl _ wr).alloc (Nat.le_refl _) _) (by show (wr.heap.push _)[wr.heap.size]? = _; rw [Array.getElem?_push, if_pos rfl]; rfl) (Nat.le_refl _)
                clear hM0 HA
                have HC := Lib.hid (ac_commit hM hI (by omega))
                have HB4 := Lib.hid (And.intro hI.rn (And.intro hI.bm hI.bat.m1))
                clear hM hI
                go_wp2_with fail
                with_reducible refine HC.out.mono ?_
                rintro e w5 (⟨rfl, P5, S5, L5, h5, hI5⟩ | ⟨rfl, P5, S5, L5, h5, hD5, hs5, hp5, hq5⟩)
                · have HCp := Lib.hid (ac_copy_now h5 (by have := hI5.rn.many; have := hI5.bm; omega) (by have := free_lt hI5.rn; have := hI5.bm; omega) (by rw [hI5.rn.roots]; exact hI5.bat.r8))
                  have HI5 := Lib.hid hI5
                  clear HC h5 hI5
                  go_wp2_with fail
                  with_reducible refine HCp.out.mono ?_
                  rintro e w6 ⟨s4, rfl, H6⟩
                  have h6m := AcM.last H6
                  have hI6 := HI5.out
                  clear HCp H6 HI5
                  have HDn := Lib.hid (by have := ac_down h6m; rewrite [hI6.st.up] at this; exact this)
                  have HSm := Lib.hid (ac_same h6m hI6 (by omega))
                  clear h6m hI6
                  go_wp2_with fail
                  with_reducible refine HDn.out.mono ?_
                  rintro e wz ⟨rfl, hwz⟩
                  replace hwz := hwz.symm
                  subst hwz
                  go_wp2_with fail
                  with_reducible refine HSm.out.mono ?_
                  rintro e w9 ⟨rfl, P9, h9, hI9⟩
                  have HDn9 := Lib.hid (by have := ac_down h9; rewrite [hI9.st.up] at this; exact this)
                  have H9 := Lib.hid (show StA w0 w9 f p s1 s4 (3 * (i + 1)) from ⟨P9, _, _, _, _, h9.nobox, hI9.more (by omega)⟩)
                  clear h9 hI9 HDn HSm
                  go_wp2_with fail
                  with_reducible refine HDn9.out.mono ?_
                  rintro e wz ⟨rfl, hwz⟩
                  replace hwz := hwz.symm
                  subst hwz
                  go_wp2_with fail
                  go_roundw
                  case rel => first | exact ⟨i + 1, p, s1, s4, rfl, by omega, rfl, rfl, rfl, .inl ⟨rfl, H9⟩⟩ | ((repeat apply Exists.intro); exact ⟨⟨i + 1, p, s1, s4, rfl, by omega, rfl, rfl, rfl, .inl ⟨rfl, H9⟩⟩, rfl⟩)
                  case measure => simp [intOf]; omega
                · have HCp := Lib.hid (ac_copy_now h5 (by have := HB4.out.1.many; have := HB4.out.2.1; omega) (by have := free_lt HB4.out.1; have := HB4.out.2.1; omega) (by rw [HB4.out.1.roots]; exact HB4.out.1.ok.rl))
                  have HD5 := Lib.hid (And.intro hD5 (And.intro hs5 (And.intro hp5 hq5)))
                  clear HC h5 hD5 hs5 hp5 hq5
                  go_wp2_with fail
                  with_reducible refine HCp.out.mono ?_
                  rintro e w6 ⟨s4, rfl, H6⟩
                  have HB6 := Lib.hid (And.intro (AcM.ended H6) HD5.out)
                  clear HCp H6 HD5
                  have HDn := Lib.hid (by have := ab_down HB6.out.1; rewrite [HB6.out.2.1.down] at this; exact this)
                  have H9 := Lib.hid (show StB w0 w6 f s2 s4 (3 * (i + 1)) from ⟨_, _, _, _, _, _, _, HB6.out.1.nobox, HB6.out.2.1, by have := HB6.out.2.2.1; omega, HB6.out.2.2.2.1.more (by omega), HB6.out.2.2.2.2.more (by omega)⟩)
                  go_wp2_with fail
                  with_reducible refine HDn.out.mono ?_
                  rintro e wz ⟨rfl, hwz⟩
                  replace hwz := hwz.symm
                  subst hwz
                  go_wp2_with fail
                  go_roundw
                  case rel => first | exact ⟨i + 1, p, s1, s2, rfl, by omega, rfl, rfl, rfl, .inr ⟨s4, rfl, H9⟩⟩ | ((repeat apply Exists.intro); exact ⟨⟨i + 1, p, s1, s2, rfl, by omega, rfl, rfl, rfl, .inr ⟨s4, rfl, H9⟩⟩, rfl⟩)
                  case measure => simp [intOf]; omega
            · as_aux_lemma =>
                obtain ⟨P, S, L, nw, ls, hM0, hI⟩ := HA.out
                have hM : AcM w0 (wr.alloc (.cells #[.int .i64 5, .int .i64 no, .int .i64 kk, .slice AB nB cB, .int .u64 (keep.toNat : Int)] 54)) (actBx wr.heap.size (actO 5 no kk AB nB cB (keep.toNat : Int))) f p s1 s2 P S nw ls := hM0.box2 ((Below.refl _ wr).alloc (Nat.le_refl _) _) (by show (wr.heap.push _)[wr.heap.size]? = _; rw [Array.getElem?_push, if_pos rfl]; rfl) (Nat.le_refl _)
                clear hM0 HA
                have HAb := Lib.hid (ac_abort hM hI.dead)
                have HI5 := Lib.hid hI.give
                clear hM hI
                go_wp2_with fail
                with_reducible refine HAb.out.mono ?_
                rintro e w5 ⟨rfl, h5⟩
                have HCp := Lib.hid (an_copy (AcM.open_ h5) (.inl ⟨rfl, rfl⟩) (by have := HI5.out.rn.many; have := HI5.out.bm; omega) (by have := free_lt HI5.out.rn; have := HI5.out.bm; omega) (by rw [HI5.out.rn.roots]; exact HI5.out.bat.r8))
                clear HAb h5
                go_wp2_with fail
                with_reducible refine HCp.out.mono ?_
                rintro e w6 ⟨s4, rfl, H6⟩
                have h6m := H6.out
                have hI6 := HI5.out
                clear HCp H6 HI5
                have HDn := Lib.hid (by have := ac_down h6m; rewrite [hI6.st.up] at this; exact this)
                have HSm := Lib.hid (ac_same h6m hI6 (by omega))
                clear h6m hI6
                go_wp2_with fail
                with_reducible refine HDn.out.mono ?_
                rintro e wz ⟨rfl, hwz⟩
                replace hwz := hwz.symm
                subst hwz
                go_wp2_with fail
                with_reducible refine HSm.out.mono ?_
                rintro e w9 ⟨rfl, P9, h9, hI9⟩
                have HDn9 := Lib.hid (by have := ac_down h9; rewrite [hI9.st.up] at this; exact this)
                have H9 := Lib.hid (show StA w0 w9 f p s4 s2 (3 * (i + 1)) from ⟨P9, _, _, _, _, h9.nobox, hI9.more (by omega)⟩)
                clear h9 hI9 HDn HSm
                go_wp2_with fail
                with_reducible refine HDn9.out.mono ?_
                rintro e wz ⟨rfl, hwz⟩
                replace hwz := hwz.symm
                subst hwz
                go_wp2_with fail
                go_roundw
                case rel => first | exact ⟨i + 1, p, s4, s2, rfl, by omega, rfl, rfl, rfl, .inl ⟨rfl, H9⟩⟩ | ((repeat apply Exists.intro); exact ⟨⟨i + 1, p, s4, s2, rfl, by omega, rfl, rfl, rfl, .inl ⟨rfl, H9⟩⟩, rfl⟩)
                case measure => simp [intOf]; omega
            · as_aux_lemma =>
                obtain ⟨P, S, L, nw, ls, hM0, hI⟩ := HA.out
                have hM : AcM w0 (wr.alloc (.cells #[.int .i64 6, .int .i64 no, .int .i64 kk, .slice AB nB cB, .int .u64 (keep.toNat : Int)] 54)) (actBx wr.heap.size (actO 6 no kk AB nB cB (keep.toNat : Int))) f p s1 s2 P S nw ls := hM0.box2 ((Below.refl _ wr).alloc (Nat.le_refl _) _) (by show (wr.heap.push _)[wr.heap.size]? = _; rw [Array.getElem?_push, if_pos rfl]; rfl) (Nat.le_refl _)
                clear hM0 HA
                obtain ⟨u1, u2, u3, u4⟩ := hI.st.opens
                have HOp := Lib.hid (ab_open (h := P.last) hM.close u1 (by have := hI.bs; omega) u2 u3 u4 hI.st hI.l0 hI.rl.ok)
                have HV := Lib.hid (show InvA (pgO P.last) S L ls ls (3 * i) from inv_open hI.st hI.l0 hI.ll hI.rl hI.bl hI.bs)
                clear hM hI u1 u2 u3 u4
                have HI5 := Lib.hid HV.out
                go_wp2_with fail
                with_reducible refine HOp.out.mono ?_
                rintro e w6 ⟨q, rfl, H6⟩
                have HCp := Lib.hid (an_copy H6.out (.inl ⟨rfl, rfl⟩) (by have := HI5.out.rn.many; have := HI5.out.bm; omega) (by have := free_lt HI5.out.rn; have := HI5.out.bm; omega) (by rw [HI5.out.rn.roots]; exact HI5.out.bat.r8))
                clear HOp H6
                go_wp2_with fail
                with_reducible refine HCp.out.mono ?_
                rintro e w7 ⟨s4, rfl, H7⟩
                have h6m := H7.out
                have hI6 := HI5.out
                clear HCp H7 HI5
                have HDn := Lib.hid (by have := ac_down h6m; rewrite [hI6.st.up] at this; exact this)
                have HSm := Lib.hid (ac_same h6m hI6 (by omega))
                clear h6m hI6
                go_wp2_with fail
                with_reducible refine HDn.out.mono ?_
                rintro e wz ⟨rfl, hwz⟩
                replace hwz := hwz.symm
                subst hwz
                go_wp2_with fail
                with_reducible refine HSm.out.mono ?_
                rintro e w9 ⟨rfl, P9, h9, hI9⟩
                have HDn9 := Lib.hid (by have := ac_down h9; rewrite [hI9.st.up] at this; exact this)
                have H9 := Lib.hid (show StA w0 w9 f q s4 s2 (3 * (i + 1)) from ⟨P9, _, _, _, _, h9.nobox, hI9.more (by omega)⟩)
                clear h9 hI9 HDn HSm
                go_wp2_with fail
                with_reducible refine HDn9.out.mono ?_
                rintro e wz ⟨rfl, hwz⟩
                replace hwz := hwz.symm
                subst hwz
                go_wp2_with fail
                go_roundw
                case rel => first | exact ⟨i + 1, q, s4, s2, rfl, by omega, rfl, rfl, rfl, .inl ⟨rfl, H9⟩⟩ | ((repeat apply Exists.intro); exact ⟨⟨i + 1, q, s4, s2, rfl, by omega, rfl, rfl, rfl, .inl ⟨rfl, H9⟩⟩, rfl⟩)
                case measure => simp [intOf]; omega
            · as_aux_lemma =>
                obtain ⟨P, S, L, nw, ls, hM0, hI⟩ := HA.out
                have hM : AcM w0 (wr.alloc (.cells #[.int .i64 7, .int .i64 no, .int .i64 kk, .slice AB nB cB, .int .u64 (keep.toNat : Int)] 54)) (actBx wr.heap.size (actO 7 no kk AB nB cB (keep.toNat : Int))) f p s1 s2 P S nw ls := hM0.box2 ((Below.refl _ wr).alloc (Nat.le_refl _) _) (by show (wr.heap.push _)[wr.heap.size]? = _; rw [Array.getElem?_push, if_pos rfl]; rfl) (Nat.le_refl _)
                clear hM0 HA
                obtain ⟨M1, hM1⟩ : ∃ M1 : Int, M1 = if no < -1 then -1 else no := ⟨_, rfl⟩
                obtain ⟨M2, hM2⟩ : ∃ M2 : Int, M2 = if 1000 < M1 then 1000 else M1 := ⟨_, rfl⟩
                have em := fun ats ty => run_max ats ty no (-1) M1 hM1
                have em2 := fun ats ty => run_min ats ty M1 1000 M2 hM2
                have e5 : min M1 1000 = M2 := by rw [hM2]; split <;> omega
                have HFu := Lib.hid (ac_fuse hM M2 (by have := HQ.out.2.1; split at hM2 <;> split at hM1 <;> omega))
                have HI5 := Lib.hid (hI.fuse M2 (by have := HQ.out.2.1; split at hM2 <;> split at hM1 <;> omega))
                clear hM hI hM1 hM2
                go_wp2_with fail
                with_reducible refine HFu.out.mono ?_
                rintro e w5 ⟨rfl, h5⟩
                have hI5 := HI5.out
                clear HFu HI5 em em2 e5
                have HDn := Lib.hid (by have := ac_down h5; rewrite [hI5.st.up] at this; exact this)
                have HSm := Lib.hid (ac_same h5 hI5 (by omega))
                clear h5 hI5
                go_wp2_with fail
                with_reducible refine HDn.out.mono ?_
                rintro e wz ⟨rfl, hwz⟩
                replace hwz := hwz.symm
                subst hwz
                go_wp2_with fail
                with_reducible refine HSm.out.mono ?_
                rintro e w9 ⟨rfl, P9, h9, hI9⟩
                have HDn9 := Lib.hid (by have := ac_down h9; rewrite [hI9.st.up] at this; exact this)
                have H9 := Lib.hid (show StA w0 w9 f p s1 s2 (3 * (i + 1)) from ⟨P9, _, _, _, _, h9.nobox, hI9.more (by omega)⟩)
                clear h9 hI9 HDn HSm
                go_wp2_with fail
                with_reducible refine HDn9.out.mono ?_
                rintro e wz ⟨rfl, hwz⟩
                replace hwz := hwz.symm
                subst hwz
                go_wp2_with fail
                go_roundw
                case rel => first | exact ⟨i + 1, p, s1, s2, rfl, by omega, rfl, rfl, rfl, .inl ⟨rfl, H9⟩⟩ | ((repeat apply Exists.intro); exact ⟨⟨i + 1, p, s1, s2, rfl, by omega, rfl, rfl, rfl, .inl ⟨rfl, H9⟩⟩, rfl⟩)
                case measure => simp [intOf]; omega
            · as_aux_lemma =>
                obtain ⟨P, S, L, nw, ls, hM0, hI⟩ := HA.out
                have hM : AcM w0 (wr.alloc (.cells #[.int .i64 8, .int .i64 no, .int .i64 kk, .slice AB nB cB, .int .u64 (keep.toNat : Int)] 54)) (actBx wr.heap.size (actO 8 no kk AB nB cB (keep.toNat : Int))) f p s1 s2 P S nw ls := hM0.box2 ((Below.refl _ wr).alloc (Nat.le_refl _) _) (by show (wr.heap.push _)[wr.heap.size]? = _; rw [Array.getElem?_push, if_pos rfl]; rfl) (Nat.le_refl _)
                clear hM0 HA
                obtain ⟨u1, u2, u3, u4⟩ := (hI.st.crash keep).opens
                have HCr := Lib.hid (ab_crash hM.close (by have := hI.bs; omega) keep)
                have HO5 := Lib.hid (fun W (h : AcB w0 W (actBx wr.heap.size (actO 8 no kk AB nB cB (keep.toNat : Int))) f s2 s2 (crashP S keep) ls ls) => ab_open (h := P.last) h u1 (by have := hI.bs; show S.stamp ≤ _; omega) u2 u3 u4 (hI.st.crash keep) hI.l0 hI.rl.ok)
                have HV := Lib.hid (show InvA (pgO P.last) (crashP S keep) L ls ls (3 * i) from inv_open (hI.st.crash keep) hI.l0 hI.ll hI.rl hI.bl hI.bs)
                clear hM hI u1 u2 u3 u4
                go_wp2_with fail
                with_reducible refine HCr.out.mono ?_
                rintro e w5 ⟨rfl, h5⟩
                have HOp := Lib.hid (HO5.out w5 h5)
                clear h5 HCr HO5
                have HI5 := Lib.hid HV.out
                go_wp2_with fail
                with_reducible refine HOp.out.mono ?_
                rintro e w6 ⟨q, rfl, H6⟩
                have HCp := Lib.hid (an_copy H6.out (.inl ⟨rfl, rfl⟩) (by have := HI5.out.rn.many; have := HI5.out.bm; omega) (by have := free_lt HI5.out.rn; have := HI5.out.bm; omega) (by rw [HI5.out.rn.roots]; exact HI5.out.bat.r8))
                clear HOp H6
                go_wp2_with fail
                with_reducible refine HCp.out.mono ?_
                rintro e w7 ⟨s4, rfl, H7⟩
                have h6m := H7.out
                have hI6 := HI5.out
                clear HCp H7 HI5
                have HDn := Lib.hid (by have := ac_down h6m; rewrite [hI6.st.up] at this; exact this)
                have HSm := Lib.hid (ac_same h6m hI6 (by omega))
                clear h6m hI6
                go_wp2_with fail
                with_reducible refine HDn.out.mono ?_
                rintro e wz ⟨rfl, hwz⟩
                replace hwz := hwz.symm
                subst hwz
                go_wp2_with fail
                with_reducible refine HSm.out.mono ?_
                rintro e w9 ⟨rfl, P9, h9, hI9⟩
                have HDn9 := Lib.hid (by have := ac_down h9; rewrite [hI9.st.up] at this; exact this)
                have H9 := Lib.hid (show StA w0 w9 f q s4 s2 (3 * (i + 1)) from ⟨P9, _, _, _, _, h9.nobox, hI9.more (by omega)⟩)
                clear h9 hI9 HDn HSm
                go_wp2_with fail
                with_reducible refine HDn9.out.mono ?_
                rintro e wz ⟨rfl, hwz⟩
                replace hwz := hwz.symm
                subst hwz
                go_wp2_with fail
                go_roundw
                case rel => first | exact ⟨i + 1, q, s4, s2, rfl, by omega, rfl, rfl, rfl, .inl ⟨rfl, H9⟩⟩ | ((repeat apply Exists.intro); exact ⟨⟨i + 1, q, s4, s2, rfl, by omega, rfl, rfl, rfl, .inl ⟨rfl, H9⟩⟩, rfl⟩)
                case measure => simp [intOf]; omega
            · as_aux_lemma =>
                obtain ⟨P, S, L, nw, ls, hM0, hI⟩ := HA.out
                have hM : AcM w0 (wr.alloc (.cells #[.int .i64 kind, .int .i64 no, .int .i64 kk, .slice AB nB cB, .int .u64 (keep.toNat : Int)] 54)) (actBx wr.heap.size (actO kind no kk AB nB cB (keep.toNat : Int))) f p s1 s2 P S nw ls := hM0.box2 ((Below.refl _ wr).alloc (Nat.le_refl _) _) (by show (wr.heap.push _)[wr.heap.size]? = _; rw [Array.getElem?_push, if_pos rfl]; rfl) (Nat.le_refl _)
                clear hM0 HA
                have hk0 : 0 ≤ kind := by omega
                have hk3 : ¬ kind ≤ 3 := by omega
                have hn4 : ¬ kind = 4 := by omega
                have hn5 : ¬ kind = 5 := by omega
                have hn6 : ¬ kind = 6 := by omega
                have hn7 : ¬ kind = 7 := by omega
                have hn8 : ¬ kind = 8 := by omega
                have HDn := Lib.hid (by have := ac_down hM; rewrite [hI.st.up] at this; exact this)
                have HSm := Lib.hid (ac_same hM hI (by omega))
                clear hM hI
                go_wp2_with fail
                with_reducible refine HDn.out.mono ?_
                rintro e wz ⟨rfl, hwz⟩
                replace hwz := hwz.symm
                subst hwz
                go_wp2_with fail
                with_reducible refine HSm.out.mono ?_
                rintro e w9 ⟨rfl, P9, h9, hI9⟩
                have HDn9 := Lib.hid (by have := ac_down h9; rewrite [hI9.st.up] at this; exact this)
                have H9 := Lib.hid (show StA w0 w9 f p s1 s2 (3 * (i + 1)) from ⟨P9, _, _, _, _, h9.nobox, hI9.more (by omega)⟩)
                clear h9 hI9 HDn HSm
                go_wp2_with fail
                with_reducible refine HDn9.out.mono ?_
                rintro e wz ⟨rfl, hwz⟩
                replace hwz := hwz.symm
                subst hwz
                go_wp2_with fail
                go_roundw
                case rel => first | exact ⟨i + 1, p, s1, s2, rfl, by omega, rfl, rfl, rfl, .inl ⟨rfl, H9⟩⟩ | ((repeat apply Exists.intro); exact ⟨⟨i + 1, p, s1, s2, rfl, by omega, rfl, rfl, rfl, .inl ⟨rfl, H9⟩⟩, rfl⟩)
                case measure => simp [intOf]; omega
          · rcases hkc with hk | hk | rfl | rfl | rfl | rfl | rfl | hk
            · as_aux_lemma =>
                obtain ⟨S, L1, L2, h1, h2, ls, en, hM0, hD, hs, hp, hq⟩ := HB.out
                have hM : AcB w0 (wr.alloc (.cells #[.int .i64 kind, .int .i64 no, .int .i64 kk, .slice AB nB cB, .int .u64 (keep.toNat : Int)] 54)) (actBx wr.heap.size (actO kind no kk AB nB cB (keep.toNat : Int))) f s2 s3 S ls en := hM0.box2 ((Below.refl _ wr).alloc (Nat.le_refl _) _) (by show (wr.heap.push _)[wr.heap.size]? = _; rw [Array.getElem?_push, if_pos rfl]; rfl) (Nat.le_refl _)
                clear hM0 HB
                have hk0 : ¬ 0 ≤ kind := by omega
                have hn4 : ¬ kind = 4 := by omega
                have hn5 : ¬ kind = 5 := by omega
                have hn6 : ¬ kind = 6 := by omega
                have hn7 : ¬ kind = 7 := by omega
                have hn8 : ¬ kind = 8 := by omega
                have HB6 := Lib.hid (And.intro hM (And.intro hD (And.intro hs (And.intro hp hq))))
                clear hM hD hs hp hq
                have HDn := Lib.hid (by have := ab_down HB6.out.1; rewrite [HB6.out.2.1.down] at this; exact this)
                have H9 := Lib.hid (show StB w0 (wr.alloc (.cells #[.int .i64 kind, .int .i64 no, .int .i64 kk, .slice AB nB cB, .int .u64 (keep.toNat : Int)] 54)) f s2 s3 (3 * (i + 1)) from ⟨_, _, _, _, _, _, _, HB6.out.1.nobox, HB6.out.2.1, by have := HB6.out.2.2.1; omega, HB6.out.2.2.2.1.more (by omega), HB6.out.2.2.2.2.more (by omega)⟩)
                go_wp2_with fail
                with_reducible refine HDn.out.mono ?_
                rintro e wz ⟨rfl, hwz⟩
                replace hwz := hwz.symm
                subst hwz
                go_wp2_with fail
                go_roundw
                case rel => first | exact ⟨i + 1, p, s1, s2, rfl, by omega, rfl, rfl, rfl, .inr ⟨s3, rfl, H9⟩⟩ | ((repeat apply Exists.intro); exact ⟨⟨i + 1, p, s1, s2, rfl, by omega, rfl, rfl, rfl, .inr ⟨s3, rfl, H9⟩⟩, rfl⟩)
                case measure => simp [intOf]; omega
            · as_aux_lemma =>
                obtain ⟨S, L1, L2, h1, h2, ls, en, hM0, hD, hs, hp, hq⟩ := HB.out
                have hM : AcB w0 (wr.alloc (.cells #[.int .i64 kind, .int .i64 no, .int .i64 kk, .slice AB nB cB, .int .u64 (keep.toNat : Int)] 54)) (actBx wr.heap.size (actO kind no kk AB nB cB (keep.toNat : Int))) f s2 s3 S ls en := hM0.box2 ((Below.refl _ wr).alloc (Nat.le_refl _) _) (by show (wr.heap.push _)[wr.heap.size]? = _; rw [Array.getElem?_push, if_pos rfl]; rfl) (Nat.le_refl _)
                clear hM0 HB
                obtain ⟨hk0, hk3⟩ := hk
                have hn4 : ¬ kind = 4 := by omega
                have hn5 : ¬ kind = 5 := by omega
                have hn6 : ¬ kind = 6 := by omega
                have hn7 : ¬ kind = 7 := by omega
                have hn8 : ¬ kind = 8 := by omega
                have HB6 := Lib.hid (And.intro hM (And.intro hD (And.intro hs (And.intro hp hq))))
                clear hM hD hs hp hq
                have HDn := Lib.hid (by have := ab_down HB6.out.1; rewrite [HB6.out.2.1.down] at this; exact this)
                have H9 := Lib.hid (show StB w0 (wr.alloc (.cells #[.int .i64 kind, .int .i64 no, .int .i64 kk, .slice AB nB cB, .int .u64 (keep.toNat : Int)] 54)) f s2 s3 (3 * (i + 1)) from ⟨_, _, _, _, _, _, _, HB6.out.1.nobox, HB6.out.2.1, by have := HB6.out.2.2.1; omega, HB6.out.2.2.2.1.more (by omega), HB6.out.2.2.2.2.more (by omega)⟩)
                go_wp2_with fail
                with_reducible refine HDn.out.mono ?_
                rintro e wz ⟨rfl, hwz⟩
                replace hwz := hwz.symm
                subst hwz
                go_wp2_with fail
                go_roundw
                case rel => first | exact ⟨i + 1, p, s1, s2, rfl, by omega, rfl, rfl, rfl, .inr ⟨s3, rfl, H9⟩⟩ | ((repeat apply Exists.intro); exact ⟨⟨i + 1, p, s1, s2, rfl, by omega, rfl, rfl, rfl, .inr ⟨s3, rfl, H9⟩⟩, rfl⟩)
                case measure => simp [intOf]; omega
            · as_aux_lemma =>
                obtain ⟨S, L1, L2, h1, h2, ls, en, hM0, hD, hs, hp, hq⟩ := HB.out
                have hM : AcB w0 (wr.alloc (.cells #[.int .i64 4, .int .i64 no, .int .i64 kk, .slice AB nB cB, .int .u64 (keep.toNat : Int)] 54)) (actBx wr.heap.size (actO 4 no kk AB nB cB (keep.toNat : Int))) f s2 s3 S ls en := hM0.box2 ((Below.refl _ wr).alloc (Nat.le_refl _) _) (by show (wr.heap.push _)[wr.heap.size]? = _; rw [Array.getElem?_push, if_pos rfl]; rfl) (Nat.le_refl _)
                clear hM0 HB
                have HB6 := Lib.hid (And.intro hM (And.intro hD (And.intro hs (And.intro hp hq))))
                clear hM hD hs hp hq
                have HDn := Lib.hid (by have := ab_down HB6.out.1; rewrite [HB6.out.2.1.down] at this; exact this)
                have H9 := Lib.hid (show StB w0 (wr.alloc (.cells #[.int .i64 4, .int .i64 no, .int .i64 kk, .slice AB nB cB, .int .u64 (keep.toNat : Int)] 54)) f s2 s3 (3 * (i + 1)) from ⟨_, _, _, _, _, _, _, HB6.out.1.nobox, HB6.out.2.1, by have := HB6.out.2.2.1; omega, HB6.out.2.2.2.1.more (by omega), HB6.out.2.2.2.2.more (by omega)⟩)
                go_wp2_with fail
                with_reducible refine HDn.out.mono ?_
                rintro e wz ⟨rfl, hwz⟩
                replace hwz := hwz.symm
                subst hwz
                go_wp2_with fail
                go_roundw
                case rel => first | exact ⟨i + 1, p, s1, s2, rfl, by omega, rfl, rfl, rfl, .inr ⟨s3, rfl, H9⟩⟩ | ((repeat apply Exists.intro); exact ⟨⟨i + 1, p, s1, s2, rfl, by omega, rfl, rfl, rfl, .inr ⟨s3, rfl, H9⟩⟩, rfl⟩)
                case measure => simp [intOf]; omega
            · as_aux_lemma =>
                obtain ⟨S, L1, L2, h1, h2, ls, en, hM0, hD, hs, hp, hq⟩ := HB.out
                have hM : AcB w0 (wr.alloc (.cells #[.int .i64 5, .int .i64 no, .int .i64 kk, .slice AB nB cB, .int .u64 (keep.toNat : Int)] 54)) (actBx wr.heap.size (actO 5 no kk AB nB cB (keep.toNat : Int))) f s2 s3 S ls en := hM0.box2 ((Below.refl _ wr).alloc (Nat.le_refl _) _) (by show (wr.heap.push _)[wr.heap.size]? = _; rw [Array.getElem?_push, if_pos rfl]; rfl) (Nat.le_refl _)
                clear hM0 HB
                have HB6 := Lib.hid (And.intro hM (And.intro hD (And.intro hs (And.intro hp hq))))
                clear hM hD hs hp hq
                have HDn := Lib.hid (by have := ab_down HB6.out.1; rewrite [HB6.out.2.1.down] at this; exact this)
                have H9 := Lib.hid (show StB w0 (wr.alloc (.cells #[.int .i64 5, .int .i64 no, .int .i64 kk, .slice AB nB cB, .int .u64 (keep.toNat : Int)] 54)) f s2 s3 (3 * (i + 1)) from ⟨_, _, _, _, _, _, _, HB6.out.1.nobox, HB6.out.2.1, by have := HB6.out.2.2.1; omega, HB6.out.2.2.2.1.more (by omega), HB6.out.2.2.2.2.more (by omega)⟩)
                go_wp2_with fail
                with_reducible refine HDn.out.mono ?_
                rintro e wz ⟨rfl, hwz⟩
                replace hwz := hwz.symm
                subst hwz
                go_wp2_with fail
                go_roundw
                case rel => first | exact ⟨i + 1, p, s1, s2, rfl, by omega, rfl, rfl, rfl, .inr ⟨s3, rfl, H9⟩⟩ | ((repeat apply Exists.intro); exact ⟨⟨i + 1, p, s1, s2, rfl, by omega, rfl, rfl, rfl, .inr ⟨s3, rfl, H9⟩⟩, rfl⟩)
                case measure => simp [intOf]; omega
            · as_aux_lemma =>
                obtain ⟨S, L1, L2, h1, h2, ls, en, hM0, hD, hs, hp, hq⟩ := HB.out
                have hM : AcB w0 (wr.alloc (.cells #[.int .i64 6, .int .i64 no, .int .i64 kk, .slice AB nB cB, .int .u64 (keep.toNat : Int)] 54)) (actBx wr.heap.size (actO 6 no kk AB nB cB (keep.toNat : Int))) f s2 s3 S ls en := hM0.box2 ((Below.refl _ wr).alloc (Nat.le_refl _) _) (by show (wr.heap.push _)[wr.heap.size]? = _; rw [Array.getElem?_push, if_pos rfl]; rfl) (Nat.le_refl _)
                clear hM0 HB
                have HB6 := Lib.hid (And.intro hM (And.intro hD (And.intro hs (And.intro hp hq))))
                clear hM hD hs hp hq
                have HDn := Lib.hid (by have := ab_down HB6.out.1; rewrite [HB6.out.2.1.down] at this; exact this)
                have H9 := Lib.hid (show StB w0 (wr.alloc (.cells #[.int .i64 6, .int .i64 no, .int .i64 kk, .slice AB nB cB, .int .u64 (keep.toNat : Int)] 54)) f s2 s3 (3 * (i + 1)) from ⟨_, _, _, _, _, _, _, HB6.out.1.nobox, HB6.out.2.1, by have := HB6.out.2.2.1; omega, HB6.out.2.2.2.1.more (by omega), HB6.out.2.2.2.2.more (by omega)⟩)
                go_wp2_with fail
                with_reducible refine HDn.out.mono ?_
                rintro e wz ⟨rfl, hwz⟩
                replace hwz := hwz.symm
                subst hwz
                go_wp2_with fail
                go_roundw
                case rel => first | exact ⟨i + 1, p, s1, s2, rfl, by omega, rfl, rfl, rfl, .inr ⟨s3, rfl, H9⟩⟩ | ((repeat apply Exists.intro); exact ⟨⟨i + 1, p, s1, s2, rfl, by omega, rfl, rfl, rfl, .inr ⟨s3, rfl, H9⟩⟩, rfl⟩)
                case measure => simp [intOf]; omega
            · as_aux_lemma =>
                obtain ⟨S, L1, L2, h1, h2, ls, en, hM0, hD, hs, hp, hq⟩ := HB.out
                have hM : AcB w0 (wr.alloc (.cells #[.int .i64 7, .int .i64 no, .int .i64 kk, .slice AB nB cB, .int .u64 (keep.toNat : Int)] 54)) (actBx wr.heap.size (actO 7 no kk AB nB cB (keep.toNat : Int))) f s2 s3 S ls en := hM0.box2 ((Below.refl _ wr).alloc (Nat.le_refl _) _) (by show (wr.heap.push _)[wr.heap.size]? = _; rw [Array.getElem?_push, if_pos rfl]; rfl) (Nat.le_refl _)
                clear hM0 HB
                have HB6 := Lib.hid (And.intro hM (And.intro hD (And.intro hs (And.intro hp hq))))
                clear hM hD hs hp hq
                have HDn := Lib.hid (by have := ab_down HB6.out.1; rewrite [HB6.out.2.1.down] at this; exact this)
                have H9 := Lib.hid (show StB w0 (wr.alloc (.cells #[.int .i64 7, .int .i64 no, .int .i64 kk, .slice AB nB cB, .int .u64 (keep.toNat : Int)] 54)) f s2 s3 (3 * (i + 1)) from ⟨_, _, _, _, _, _, _, HB6.out.1.nobox, HB6.out.2.1, by have := HB6.out.2.2.1; omega, HB6.out.2.2.2.1.more (by omega), HB6.out.2.2.2.2.more (by omega)⟩)
                go_wp2_with fail
                with_reducible refine HDn.out.mono ?_
                rintro e wz ⟨rfl, hwz⟩
                replace hwz := hwz.symm
                subst hwz
                go_wp2_with fail
                go_roundw
                case rel => first | exact ⟨i + 1, p, s1, s2, rfl, by omega, rfl, rfl, rfl, .inr ⟨s3, rfl, H9⟩⟩ | ((repeat apply Exists.intro); exact ⟨⟨i + 1, p, s1, s2, rfl, by omega, rfl, rfl, rfl, .inr ⟨s3, rfl, H9⟩⟩, rfl⟩)
                case measure => simp [intOf]; omega
            · as_aux_lemma =>
                obtain ⟨S, L1, L2, h1, h2, ls, en, hM0, hD, hs, hp, hq⟩ := HB.out
                have hM : AcB w0 (wr.alloc (.cells #[.int .i64 8, .int .i64 no, .int .i64 kk, .slice AB nB cB, .int .u64 (keep.toNat : Int)] 54)) (actBx wr.heap.size (actO 8 no kk AB nB cB (keep.toNat : Int))) f s2 s3 S ls en := hM0.box2 ((Below.refl _ wr).alloc (Nat.le_refl _) _) (by show (wr.heap.push _)[wr.heap.size]? = _; rw [Array.getElem?_push, if_pos rfl]; rfl) (Nat.le_refl _)
                clear hM0 HB
                obtain ⟨u1, u2, u3, S4, u4, u5, hS4⟩ := hD.opens keep
                have HCr := Lib.hid (ab_crash hM (by omega) keep)
                rcases hS4 with hS4 | hS4
                · as_aux_lemma =>
                    have HO5 := Lib.hid (fun W (h0 : AcB w0 W (actBx wr.heap.size (actO 8 no kk AB nB cB (keep.toNat : Int))) f s2 s3 (crashP S keep) ls en) => ab_open (h := h1) h0 u1 (by show S.stamp ≤ _; omega) u2 u3 u4 hS4 hp.l0 hp.rel.ok)
                    have HV := Lib.hid (show InvA (pgO h1) S4 L1 ls ls (3 * i + 1) from (hp.more (by omega)).inv hS4 (by omega))
                    have HEn := Lib.hid (And.intro hq.rel (And.intro hq.b hq.rel.ok))
                    clear hM hD hs hp hq u1 u2 u3 u4 u5 hS4
                    go_wp2_with fail
                    with_reducible refine HCr.out.mono ?_
                    rintro e w5 ⟨rfl, h5⟩
                    have HOp := Lib.hid (HO5.out w5 h5)
                    clear h5 HCr HO5
                    go_wp2_with fail
                    with_reducible refine HOp.out.mono ?_
                    rintro e w6 ⟨q, rfl, H6⟩
                    have HSa := Lib.hid (an_same H6.out HV.out (by omega) (by have := HEn.out.1.many; have := HEn.out.2.2.m1; omega) (by have := HEn.out.1.many; have := HEn.out.2.1; omega) (by rw [HEn.out.1.roots]; exact HEn.out.2.2.rl) (by have := free_lt HEn.out.1; have := HEn.out.2.1; omega))
                    clear HOp H6
                    go_wp2_with fail
                    with_reducible refine HSa.out.mono ?_
                    rintro e w7 ⟨r, rfl, H7⟩
                    obtain ⟨hr, P7, h7, hI7, a1, a2, a3⟩ := H7.out
                    clear HSa H7
                    cases r with
                    | true =>
                      replace hI7 := hI7.swap a1 rfl a2 a3 rfl (hr.1 rfl)
                      clear hr a1 a2 a3 HV HEn
                      have HCp := Lib.hid (an_copy h7 (.inr ⟨rfl, rfl⟩) (by have := hI7.rn.many; have := hI7.bm; omega) (by have := free_lt hI7.rn; have := hI7.bm; omega) (by rw [hI7.rn.roots]; exact hI7.bat.r8))
                      have HI7 := Lib.hid hI7
                      clear h7 hI7
                      go_wp2_with fail
                      with_reducible refine HCp.out.mono ?_
                      rintro e w8 ⟨s4, rfl, H8⟩
                      have h6m := H8.out
                      have hI6 := HI7.out
                      clear HCp H8 HI7
                      have HDn := Lib.hid (by have := ac_down h6m; rewrite [hI6.st.up] at this; exact this)
                      have HSm := Lib.hid (ac_same h6m hI6 (by omega))
                      clear h6m hI6
                      go_wp2_with fail
                      with_reducible refine HDn.out.mono ?_
                      rintro e wz ⟨rfl, hwz⟩
                      replace hwz := hwz.symm
                      subst hwz
                      go_wp2_with fail
                      with_reducible refine HSm.out.mono ?_
                      rintro e w9 ⟨rfl, P9, h9, hI9⟩
                      have HDn9 := Lib.hid (by have := ac_down h9; rewrite [hI9.st.up] at this; exact this)
                      have H9 := Lib.hid (show StA w0 w9 f q s4 s3 (3 * (i + 1)) from ⟨P9, _, _, _, _, h9.nobox, hI9.more (by omega)⟩)
                      clear h9 hI9 HDn HSm
                      go_wp2_with fail
                      with_reducible refine HDn9.out.mono ?_
                      rintro e wz ⟨rfl, hwz⟩
                      replace hwz := hwz.symm
                      subst hwz
                      go_wp2_with fail
                      go_roundw
                      case rel => first | exact ⟨i + 1, q, s4, s3, rfl, by omega, rfl, rfl, rfl, .inl ⟨rfl, H9⟩⟩ | ((repeat apply Exists.intro); exact ⟨⟨i + 1, q, s4, s3, rfl, by omega, rfl, rfl, rfl, .inl ⟨rfl, H9⟩⟩, rfl⟩)
                      case measure => simp [intOf]; omega
                    | false =>
                      clear hr a1 a2 a3 HV HEn
                      have HCp := Lib.hid (an_copy h7 (.inl ⟨rfl, rfl⟩) (by have := hI7.rn.many; have := hI7.bm; omega) (by have := free_lt hI7.rn; have := hI7.bm; omega) (by rw [hI7.rn.roots]; exact hI7.bat.r8))
                      have HI7 := Lib.hid hI7
                      clear h7 hI7
                      go_wp2_with fail
                      with_reducible refine HCp.out.mono ?_
                      rintro e w8 ⟨s4, rfl, H8⟩
                      have h6m := H8.out
                      have hI6 := HI7.out
                      clear HCp H8 HI7
                      have HDn := Lib.hid (by have := ac_down h6m; rewrite [hI6.st.up] at this; exact this)
                      have HSm := Lib.hid (ac_same h6m hI6 (by omega))
                      clear h6m hI6
                      go_wp2_with fail
                      with_reducible refine HDn.out.mono ?_
                      rintro e wz ⟨rfl, hwz⟩
                      replace hwz := hwz.symm
                      subst hwz
                      go_wp2_with fail
                      with_reducible refine HSm.out.mono ?_
                      rintro e w9 ⟨rfl, P9, h9, hI9⟩
                      have HDn9 := Lib.hid (by have := ac_down h9; rewrite [hI9.st.up] at this; exact this)
                      have H9 := Lib.hid (show StA w0 w9 f q s4 s2 (3 * (i + 1)) from ⟨P9, _, _, _, _, h9.nobox, hI9.more (by omega)⟩)
                      clear h9 hI9 HDn HSm
                      go_wp2_with fail
                      with_reducible refine HDn9.out.mono ?_
                      rintro e wz ⟨rfl, hwz⟩
                      replace hwz := hwz.symm
                      subst hwz
                      go_wp2_with fail
                      go_roundw
                      case rel => first | exact ⟨i + 1, q, s4, s2, rfl, by omega, rfl, rfl, rfl, .inl ⟨rfl, H9⟩⟩ | ((repeat apply Exists.intro); exact ⟨⟨i + 1, q, s4, s2, rfl, by omega, rfl, rfl, rfl, .inl ⟨rfl, H9⟩⟩, rfl⟩)
                      case measure => simp [intOf]; omega
                · as_aux_lemma =>
                    have HO5 := Lib.hid (fun W (h0 : AcB w0 W (actBx wr.heap.size (actO 8 no kk AB nB cB (keep.toNat : Int))) f s2 s3 (crashP S keep) ls en) => ab_open (h := h2) h0 u1 (by show S.stamp ≤ _; omega) u2 u3 u4 hS4 hq.l0 hq.rel.ok)
                    have HV := Lib.hid (show InvA (pgO h2) S4 L2 en en (3 * i + 1) from (hq.more (by omega)).inv hS4 (by omega))
                    have HEn := Lib.hid (And.intro hq.rel (And.intro hq.b hq.rel.ok))
                    clear hM hD hs hp hq u1 u2 u3 u4 u5 hS4
                    go_wp2_with fail
                    with_reducible refine HCr.out.mono ?_
                    rintro e w5 ⟨rfl, h5⟩
                    have HOp := Lib.hid (HO5.out w5 h5)
                    clear h5 HCr HO5
                    go_wp2_with fail
                    with_reducible refine HOp.out.mono ?_
                    rintro e w6 ⟨q, rfl, H6⟩
                    have HSa := Lib.hid (an_same H6.out HV.out (by omega) (by have := HEn.out.1.many; have := HEn.out.2.2.m1; omega) (by have := HEn.out.1.many; have := HEn.out.2.1; omega) (by rw [HEn.out.1.roots]; exact HEn.out.2.2.rl) (by have := free_lt HEn.out.1; have := HEn.out.2.1; omega))
                    clear HOp H6
                    go_wp2_with fail
                    with_reducible refine HSa.out.mono ?_
                    rintro e w7 ⟨r, rfl, H7⟩
                    obtain ⟨hr, P7, h7, hI7, a1, a2, a3⟩ := H7.out
                    clear HSa H7
                    obtain rfl : r = true := hr.2 HV.out.samep
                    clear hr a1 a2 a3 HV HEn
                    have HCp := Lib.hid (an_copy h7 (.inr ⟨rfl, rfl⟩) (by have := hI7.rn.many; have := hI7.bm; omega) (by have := free_lt hI7.rn; have := hI7.bm; omega) (by rw [hI7.rn.roots]; exact hI7.bat.r8))
                    have HI7 := Lib.hid hI7
                    clear h7 hI7
                    go_wp2_with fail
                    with_reducible refine HCp.out.mono ?_
                    rintro e w8 ⟨s4, rfl, H8⟩
                    have h6m := H8.out
                    have hI6 := HI7.out
                    clear HCp H8 HI7
                    have HDn := Lib.hid (by have := ac_down h6m; rewrite [hI6.st.up] at this; exact this)
                    have HSm := Lib.hid (ac_same h6m hI6 (by omega))
                    clear h6m hI6
                    go_wp2_with fail
                    with_reducible refine HDn.out.mono ?_
                    rintro e wz ⟨rfl, hwz⟩
                    replace hwz := hwz.symm
                    subst hwz
                    go_wp2_with fail
                    with_reducible refine HSm.out.mono ?_
                    rintro e w9 ⟨rfl, P9, h9, hI9⟩
                    have HDn9 := Lib.hid (by have := ac_down h9; rewrite [hI9.st.up] at this; exact this)
                    have H9 := Lib.hid (show StA w0 w9 f q s4 s3 (3 * (i + 1)) from ⟨P9, _, _, _, _, h9.nobox, hI9.more (by omega)⟩)
                    clear h9 hI9 HDn HSm
                    go_wp2_with fail
                    with_reducible refine HDn9.out.mono ?_
                    rintro e wz ⟨rfl, hwz⟩
                    replace hwz := hwz.symm
                    subst hwz
                    go_wp2_with fail
                    go_roundw
                    case rel => first | exact ⟨i + 1, q, s4, s3, rfl, by omega, rfl, rfl, rfl, .inl ⟨rfl, H9⟩⟩ | ((repeat apply Exists.intro); exact ⟨⟨i + 1, q, s4, s3, rfl, by omega, rfl, rfl, rfl, .inl ⟨rfl, H9⟩⟩, rfl⟩)
                    case measure => simp [intOf]; omega
            · as_aux_lemma =>
                obtain ⟨S, L1, L2, h1, h2, ls, en, hM0, hD, hs, hp, hq⟩ := HB.out
                have hM : AcB w0 (wr.alloc (.cells #[.int .i64 kind, .int .i64 no, .int .i64 kk, .slice AB nB cB, .int .u64 (keep.toNat : Int)] 54)) (actBx wr.heap.size (actO kind no kk AB nB cB (keep.toNat : Int))) f s2 s3 S ls en := hM0.box2 ((Below.refl _ wr).alloc (Nat.le_refl _) _) (by show (wr.heap.push _)[wr.heap.size]? = _; rw [Array.getElem?_push, if_pos rfl]; rfl) (Nat.le_refl _)
                clear hM0 HB
                have hk0 : 0 ≤ kind := by omega
                have hk3 : ¬ kind ≤ 3 := by omega
                have hn4 : ¬ kind = 4 := by omega
                have hn5 : ¬ kind = 5 := by omega
                have hn6 : ¬ kind = 6 := by omega
                have hn7 : ¬ kind = 7 := by omega
                have hn8 : ¬ kind = 8 := by omega
                have HB6 := Lib.hid (And.intro hM (And.intro hD (And.intro hs (And.intro hp hq))))
                clear hM hD hs hp hq
                have HDn := Lib.hid (by have := ab_down HB6.out.1; rewrite [HB6.out.2.1.down] at this; exact this)
                have H9 := Lib.hid (show StB w0 (wr.alloc (.cells #[.int .i64 kind, .int .i64 no, .int .i64 kk, .slice AB nB cB, .int .u64 (keep.toNat : Int)] 54)) f s2 s3 (3 * (i + 1)) from ⟨_, _, _, _, _, _, _, HB6.out.1.nobox, HB6.out.2.1, by have := HB6.out.2.2.1; omega, HB6.out.2.2.2.1.more (by omega), HB6.out.2.2.2.2.more (by omega)⟩)
                go_wp2_with fail
                with_reducible refine HDn.out.mono ?_
                rintro e wz ⟨rfl, hwz⟩
                replace hwz := hwz.symm
                subst hwz
                go_wp2_with fail
                go_roundw
                case rel => first | exact ⟨i + 1, p, s1, s2, rfl, by omega, rfl, rfl, rfl, .inr ⟨s3, rfl, H9⟩⟩ | ((repeat apply Exists.intro); exact ⟨⟨i + 1, p, s1, s2, rfl, by omega, rfl, rfl, rfl, .inr ⟨s3, rfl, H9⟩⟩, rfl⟩)
                case measure => simp [intOf]; omega
      · obtain rfl : i = n := by omega
        clear hAB hlow
        go_wp2_with fail
        go_ret
        exact ⟨rfl, B0.out.trans (HLow.out.mono B0.out.size)⟩
end Go.Proofs.YtoadamkmabkldaaGreatDoor
