/- Contracts of package pager: again, where there is a journal: the walk. -/
import Derived.Test.YtoadamkmabkldaaGreatDoorJn36
import Derived.Test.YtoadamkmabkldaaGreatDoorJn32
set_option linter.unusedVariables false
set_option linter.unusedSimpArgs false
namespace Go.Proofs.YtoadamkmabkldaaGreatDoor
open Go.RowKit Go.Shelf
attribute [local go_sem ↓] Go.wp_at_zero Go.wp_at_succ
/-- A block that was not touched. -/
theorem ch_bk {w W : World} {O : Nat → Prop} {g : Nat} {t : TypeId} {cs : Array Value} (hc : Ch O w W) (hb : Bk w g t cs) (hg : ¬ O g) : Bk W g t cs := (hc.block g hb.lt hg).trans hb
/-- What again leaves. -/
def AgR (w w' : World) (O : Nat → Prop) (f : Nat) (R : Nat × FsP) (e : Ending) : Prop := e = .returned (.int .i64 (R.1 : Int)) ∧ FsA w' (fun i => O i ∨ w.heap.size ≤ i) f R.2 ∧ Ch O w w'
/-- Cutting the journal, at a world behind. -/
theorem ag_cut {w W : World} {O O2 : Nat → Prop} {f : Nat} {S1 : FsP} {nm : ByteArray} (hF : FsA W O2 f S1) (hO : ∀ i, O2 i → O i ∨ w.heap.size ≤ i) (hc : Ch O w W) (hs : nm.size ≤ 20) (hst : S1.stamp ≤ 1000000) :
    Calls Tryz.prog 62 #[.pointer (some ⟨f, 0, none⟩), .string (nm ++ logS), .int .i64 0] W fun e w' => AgR w w' O f (cutF S1 (logN nm.data.toList) 0) e := by
  have h := cut_any f O2 S1 (nm ++ logS) 0 W hF (by rw [log_size]; omega) hst
  rw [log_list] at h
  refine h.mono ?_
  rintro e w' ⟨rfl, k1, k2⟩
  exact ⟨rfl, k1.mono (fun i hi _ => hO i hi), hc.trans k2 hO⟩
set_option maxHeartbeats 4000000 in
set_option maxRecDepth 100000 in
theorem again_full (f p : Nat) (O : Nat → Prop) (S : FsP) (nm : ByteArray) (cs : Array Value) (N : Nat) (w : World) (hF : FsA w O f S) (b0 : Bk w p 67 cs) (hp : ¬ O p) (hO : ∀ i, O i → i < w.heap.size)
    (c0 : w.cell? ⟨p, 0, none⟩ = some (.pointer (some ⟨f, 0, none⟩))) (c1 : w.cell? ⟨p, 1, none⟩ = some (.string nm)) (hs : nm.size ≤ 20) (hst : S.stamp ≤ 900000) (hl : lenP S (logN nm.data.toList) = some N) (h4 : 4 ≤ N) (hN : N ≤ 200000) :
    Calls Tryz.prog 36 #[.pointer (some ⟨p, 0, none⟩)] w fun e w' => AgR w w' O f (againP nm.data.toList S) e := by
  obtain ⟨J, hJ, hJl⟩ := read_len hl
  obtain ⟨hY, hNo⟩ := again_eq (nm := nm.data.toList) hl h4 (by rw [hJ]) hJl
  obtain ⟨W, hW⟩ : ∃ W, N = W + 4 := ⟨N - 4, by omega⟩
  have hJW : J.length - 4 = W := by omega
  unfold JOk at hY hNo
  rw [hJW] at hY hNo
  have HDB := Lib.hid (fun q => log_any p nm (w.drewN q) c1 (by omega))
  have HDB2 := Lib.hid (fun W (hc : W.cell? ⟨p, 1, none⟩ = some (.string nm)) => log_any p nm W hc (by omega))
  have HLn := Lib.hid (fun q => by
    have := len_at f O S (nm ++ logS) (w.drewN q) (hF.heap (fun _ _ _ => rfl)) (by rw [log_size]; omega)
    unfold lenV at this
    rw [log_list, hl] at this
    exact this)
  have HRd := Lib.hid (fun q => by
    have := read_at f O S (w.drewN q) (hF.heap (fun _ _ _ => rfl)) (nm ++ logS) 0 (N : Int) (by rw [log_size]; omega) (by omega)
    rw [log_list, hJ] at this
    exact this.mono (R' := fun e w' => ∃ A c, e = .returned (.tuple #[.slice A N c, .int .i64 0]) ∧ w'.cell? ⟨p, 0, none⟩ = some (.pointer (some ⟨f, 0, none⟩)) ∧ Hid (N ≤ c ∧ c ≤ maxLen ∧ w'.ownsRow w.heap.size 5 1 (.slice A N c) N (bys J) ∧ Below w.heap.size w w')) (by
      rintro e w' ⟨A, n, c, rfl, hn1, hn2, hn3, hn4, hn5⟩
      rw [hJl] at hn1
      subst hn1
      have hb : Below w.heap.size w w' := (below_drewN (Below.refl _ w) q).trans hn5
      exact ⟨A, c, rfl, (b0.below hb b0.lt).cell 0 ▸ (b0.cell 0 ▸ c0), Lib.hid ⟨hn2, hn3, hn4, hb⟩⟩))
  have hS0 : ∀ q, (w.drewN q).cell? ⟨p, 0, none⟩ = some (.pointer (some ⟨f, 0, none⟩)) := fun q => c0
  have hn0 : ¬ (N : Int) = 0 := by omega
  have e1 : (N : Int) - 4 = (W : Int) := by omega
  have em := fun ats ty => run_max ats ty (W : Int) 0 (W : Int) (by rw [if_neg (by omega)])
  have HH := Lib.hid (And.intro hF (And.intro b0 (And.intro hp (And.intro hO (And.intro c0 (And.intro c1 (And.intro hs (And.intro hst (And.intro hJl hW)))))))))
  have HY := Lib.hid (And.intro hY hNo)
  clear hF b0 hp hO hl hJ hJl hJW hY hNo h4 hs hst hW
  go_enter Tryz.func36, Tryz.ntmps36
  go_wp2_with fail
  go_quiet (first | (go_at_call 35; exact Calls.quiet_of_same (HDB.out _)) | (go_at_call 56; exact Calls.quiet_of_same (HLn.out _)))
  go_wp2_with fail
  go_region_held3 (fun w' => w'.cell? ⟨p, 0, none⟩ = some (.pointer (some ⟨f, 0, none⟩))) (first | exact hS0 _ | exact hS5 | go_keep)
    (first
      | (go_at_call 35; with_reducible refine (HDB.out _).mono ?_; rintro e w5 ⟨rfl, hw5⟩; subst hw5)
      | (go_at_call 58; with_reducible refine (HRd.out _).mono ?_; rintro e w6 ⟨A6, C6, rfl, hS5, H6⟩))
  -- BEHIND THE READ
  have z6 := H6.out.2.2.2.size
  have hr6 : Rd w6 w6.heap.size 1 A6 N (bys J) := Rd.of_own H6.out.2.2.1
  have hWN : N = W + 4 := HH.out.2.2.2.2.2.2.2.2.2
  have hr6W : Rd w6 w6.heap.size 1 A6 W (bys (J.take W)) := by
    have := hr6.bcut (k := 0) (m := W) (by omega) (A' := A6) (fun _ => by
      obtain ⟨b, o, rfl, _⟩ := hr6.2 (by omega)
      simp [addLit])
    rwa [List.drop_zero] at this
  have hWC : W ≤ C6 := by have := H6.out.1; omega
  have hNC : N ≤ C6 := H6.out.1
  have hWN2 : W ≤ N := by omega
  have HG := wgetn_any A6 W C6 (J.take W) w6 hr6W hWC (by omega)
  have hF6 : ∀ W2, Below w6.heap.size w6 W2 → Ch O w W2 := fun W2 h => (Ch.of_below (S := O) H6.out.2.2.2 (Nat.le_refl _)).trans (Ch.of_below (S := fun _ => False) h (Nat.le_refl _)) (fun i e => e.elim)
  have hF7 : ∀ W2, Below w6.heap.size w6 W2 → FsA W2 O f S := fun W2 h => HH.out.1.ch ((Ch.of_below (S := fun _ => False) H6.out.2.2.2 (Nat.le_refl _)).trans (Ch.of_below (S := fun _ => False) h (Nat.le_refl _)) (fun i e => e.elim)) (fun i _ e => e)
  have HF6 := Lib.hid hF6
  have HF7 := Lib.hid hF7
  have HR6 := Lib.hid hr6
  obtain ⟨b6, o6, hA6, _⟩ := hr6.2 (by omega)
  subst hA6
  by_cases hz : (WE (J.take W)).1 = 0
  · obtain ⟨hp1, hp2⟩ := we_parts hz
    obtain ⟨K, hK⟩ : ∃ K, K = (WE (J.take W)).2.length := ⟨_, rfl⟩
    obtain ⟨M, hM⟩ : ∃ M, M = 12 + 516 * K := ⟨_, rfl⟩
    have HG2 := Lib.hid (HG.mono (R' := fun e w' => ∃ A c, e = .returned (.tuple #[.slice A K c, .int .i64 0]) ∧ Hid (PO w' w6.heap.size (.slice A K c) (WE (J.take W)).2 ∧ K ≤ c ∧ Below w6.heap.size w6 w')) (by
      rintro e w' ⟨⟨h1, _⟩ | ⟨_, A, n, c, rfl, h3, h4⟩, h2⟩
      · exact absurd hz h1
      · obtain ⟨vs, hv⟩ := h4.own
        obtain ⟨A2, c2, he, _, _⟩ := own_form hv
        injection he with _ he _
        rw [← hK] at he
        subst he
        exact ⟨A, c, rfl, Lib.hid ⟨h4, h3, h2⟩⟩))
    have HZ := Lib.hid (fun W => by
      have := wsize_any (K : Int) W
      rw [show wsz (K : Int) = (M : Int) by unfold wsz; rw [if_neg (by omega)]; omega] at this
      exact this)
    have HP := Lib.hid (And.intro hp2 (And.intro hK (And.intro hM (And.intro hz hp1))))
    have hcw : ¬ C6 = W := by omega
    have hlay := Lib.hid (fun W2 A7 c7 (hb : Below w6.heap.size w6 W2) (hpo : PO W2 w6.heap.size (.slice A7 K c7) (WE (J.take W)).2) => lay_any f p O (fun i => w6.heap.size ≤ i) S nm A7 K c7 (nosP (WE (J.take W)).2) W2 cs (HF7.out W2 hb) (ch_bk (HF6.out W2 hb) HH.out.2.1 HH.out.2.2.1) HH.out.2.2.1
      (((ch_bk (HF6.out W2 hb) HH.out.2.1 HH.out.2.2.1).cell 0).trans ((HH.out.2.1.cell 0).symm.trans HH.out.2.2.2.2.1)) (((ch_bk (HF6.out W2 hb) HH.out.2.1 HH.out.2.2.1).cell 1).trans ((HH.out.2.1.cell 1).symm.trans HH.out.2.2.2.2.2.1)) (by have := HH.out.2.2.2.2.2.2.1; omega) (by have := HH.out.2.2.2.2.2.2.2.1; omega)
      (hpo.wr hK.symm hp2) (fun i hi ho => by have := HH.out.2.2.2.1 i ho; omega) (fun q hq => (nos_mem hz q hq).1) (fun q hq => (nos_mem hz q hq).2) (by omega))
    have HPJ := Lib.hid (show W = M → J.drop W = doneD → againP nm.data.toList S = if (layP nm.data.toList (nosP (WE (J.take W)).2) S).1 = 0 then cutF (layP nm.data.toList (nosP (WE (J.take W)).2) S).2 (logN nm.data.toList) 0 else layP nm.data.toList (nosP (WE (J.take W)).2) S from fun e1 e2 => HY.out.1 ⟨hz, by omega, e2⟩)
    have HPN := Lib.hid (show (¬ M = W ∨ ¬ J.drop W = doneD) → againP nm.data.toList S = cutF S (logN nm.data.toList) 0 from fun h => HY.out.2 (fun ⟨_, e1, e2⟩ => by
      rcases h with h | h
      · omega
      · exact h e2))
    have HST := Lib.hid (show (layP nm.data.toList (nosP (WE (J.take W)).2) S).2.stamp ≤ 1000000 by
      have h1 := layP_stamp nm.data.toList (nosP (WE (J.take W)).2) S
      rw [nos_len] at h1
      have := HH.out.2.2.2.2.2.2.2.1
      omega)
    have hcv0 : ∀ W2, Below w6.heap.size w6 W2 → (convert 22 9 (.slice (some ⟨b6, o6 + W, none⟩) (N - W) (C6 - W))).run Tryz.prog W2 = .ok (.string ⟨(J.drop W).toArray⟩) W2 := fun W2 hb => by
      have h1 := (HR6.out.below hb (Nat.le_refl _)).bcut (k := W) (m := N - W) (by omega) (A' := some ⟨b6, o6 + W, none⟩) (fun _ => by simp [addLit])
      rw [List.take_of_length_le (by rw [List.length_drop, HH.out.2.2.2.2.2.2.2.2.1]; exact Nat.le_refl _)] at h1
      exact conv_bys h1
    have HCV := Lib.hid hcv0
    clear HG hr6 hWN hr6W z6 hF6 hF7 hz hp1 hp2 hK hM hcv0
    generalize hRR : layP nm.data.toList (nosP (WE (J.take W)).2) S = RR at *
    obtain ⟨rc, S8⟩ := RR
    have HRR := Lib.hid hRR
    clear hRR
    by_cases hm : M = W
    · subst hm
      by_cases hd : J.drop M = doneD
      · have HE := Lib.hid (HPJ.out rfl hd)
        have hdq : (J.drop M == [100, 111, 110, 101]) = true := by rw [hd]; decide
        clear hd HPN HPJ
        go_wp2_with fail
        with_reducible refine HG2.out.mono ?_
        rintro e w7 ⟨A7, c7, rfl, H7⟩
        have hcv := HCV.out w7 H7.out.2.2
        have HLy := Lib.hid (hlay.out w7 A7 c7 H7.out.2.2 H7.out.1)
        go_wp2_with (first | (go_at_call 60; with_reducible refine (HZ.out _).mono ?_; rintro e w8 ⟨rfl, hw8⟩; subst hw8))
        with_reducible refine HLy.out.mono ?_
        rintro e w8 ⟨rfl, k81, k82⟩
        have hz67 := H7.out.2.2.size
        have hz06 := H6.out.2.2.2.size
        have hch8 : Ch O w w8 := (HF6.out w7 H7.out.2.2).trans k82 (fun i e => .inl e)
        have H8 := Lib.hid (And.intro (show FsA w8 (fun i => O i ∨ w.heap.size ≤ i) f S8 from k81.mono (fun i hi _ => by
          rcases hi with e | e
          · exact .inl e
          · exact .inr (by omega))) hch8)
        clear k81 k82 hch8 hcv hdq hz67 hz06 HLy
        by_cases hrc : rc = 0
        · subst hrc
          have bkw8 : Bk w8 p 67 cs := ch_bk H8.out.2 HH.out.2.1 HH.out.2.2.1
          have d0w8 : w8.drew.cell? ⟨p, 0, none⟩ = some (.pointer (some ⟨f, 0, none⟩)) := (bkw8.cell 0).trans ((HH.out.2.1.cell 0).symm.trans HH.out.2.2.2.2.1)
          have HLw8 := Lib.hid (log_any p nm w8.drew ((bkw8.cell 1).trans ((HH.out.2.1.cell 1).symm.trans HH.out.2.2.2.2.2.1)) (by have := HH.out.2.2.2.2.2.2.1; omega))
          have HCw8 := Lib.hid (ag_cut (w := w) (O := O) (O2 := (fun i => O i ∨ w.heap.size ≤ i)) (S1 := S8) (nm := nm) (W := w8.drew) (FsA.heap H8.out.1 (W' := w8.drew) (fun _ _ _ => rfl)) (fun i h => h) (Ch.drew H8.out.2) HH.out.2.2.2.2.2.2.1 HST.out)
          have HEw8 := Lib.hid (HE.out.trans (if_pos rfl))
          clear bkw8
          go_wp2_with fail
          go_region_held3 (fun w' => w'.cell? ⟨p, 0, none⟩ = some (.pointer (some ⟨f, 0, none⟩))) (first | exact d0w8 | exact d9 | go_keep)
            (first
              | (go_at_call 35; with_reducible refine HLw8.out.mono ?_; rintro e w5 ⟨rfl, hw5⟩; subst hw5)
              | (go_at_call 62; with_reducible refine HCw8.out.mono ?_; intro e w9 h9; unfold AgR at h9; obtain ⟨rfl, k91, k92⟩ := h9; have d9 : w9.cell? ⟨p, 0, none⟩ = some (.pointer (some ⟨f, 0, none⟩)) := ((ch_bk k92 HH.out.2.1 HH.out.2.2.1).cell 0).trans ((HH.out.2.1.cell 0).symm.trans HH.out.2.2.2.2.1); replace k91 := Lib.hid k91; replace k92 := Lib.hid k92))
          go_wp2_with fail
          go_ret
          have e9 := HEw8.out
          refine ⟨?_, ?_, k92.out⟩
          · rw [e9]; rfl
          · rw [e9]; exact k91.out
        · have hrc2 : ¬ (rc : Int) = 0 := by omega
          have HE2 := Lib.hid (HE.out.trans (if_neg hrc))
          clear hrc HE
          go_wp2_with fail
          go_ret
          have e9 := HE2.out
          refine ⟨?_, ?_, H8.out.2⟩
          · rw [e9]; rfl
          · rw [e9]; exact H8.out.1
      · have HE := Lib.hid (HPN.out (.inr hd))
        have hdq : (J.drop M == [100, 111, 110, 101]) = false := by rw [beq_eq_false_iff_ne]; exact hd
        clear hd HPN HPJ hlay
        go_wp2_with fail
        with_reducible refine HG2.out.mono ?_
        rintro e w7 ⟨A7, c7, rfl, H7⟩
        have hcv := HCV.out w7 H7.out.2.2
        go_wp2_with (first | (go_at_call 60; with_reducible refine (HZ.out _).mono ?_; rintro e w8 ⟨rfl, hw8⟩; subst hw8))
        clear hcv hdq
        have bkw7 : Bk w7 p 67 cs := ch_bk (HF6.out w7 H7.out.2.2) HH.out.2.1 HH.out.2.2.1
        have d0w7 : w7.drew.cell? ⟨p, 0, none⟩ = some (.pointer (some ⟨f, 0, none⟩)) := (bkw7.cell 0).trans ((HH.out.2.1.cell 0).symm.trans HH.out.2.2.2.2.1)
        have HLw7 := Lib.hid (log_any p nm w7.drew ((bkw7.cell 1).trans ((HH.out.2.1.cell 1).symm.trans HH.out.2.2.2.2.2.1)) (by have := HH.out.2.2.2.2.2.2.1; omega))
        have HCw7 := Lib.hid (ag_cut (w := w) (O := O) (O2 := O) (S1 := S) (nm := nm) (W := w7.drew) (FsA.heap (HF7.out w7 H7.out.2.2) (W' := w7.drew) (fun _ _ _ => rfl)) (fun i h => .inl h) (Ch.drew (HF6.out w7 H7.out.2.2)) HH.out.2.2.2.2.2.2.1 (by have := HH.out.2.2.2.2.2.2.2.1; omega))
        have HEw7 := Lib.hid HE.out
        clear bkw7
        go_wp2_with fail
        go_region_held3 (fun w' => w'.cell? ⟨p, 0, none⟩ = some (.pointer (some ⟨f, 0, none⟩))) (first | exact d0w7 | exact d9 | go_keep)
          (first
            | (go_at_call 35; with_reducible refine HLw7.out.mono ?_; rintro e w5 ⟨rfl, hw5⟩; subst hw5)
            | (go_at_call 62; with_reducible refine HCw7.out.mono ?_; intro e w9 h9; unfold AgR at h9; obtain ⟨rfl, k91, k92⟩ := h9; have d9 : w9.cell? ⟨p, 0, none⟩ = some (.pointer (some ⟨f, 0, none⟩)) := ((ch_bk k92 HH.out.2.1 HH.out.2.2.1).cell 0).trans ((HH.out.2.1.cell 0).symm.trans HH.out.2.2.2.2.1); replace k91 := Lib.hid k91; replace k92 := Lib.hid k92))
        go_wp2_with fail
        go_ret
        have e9 := HEw7.out
        refine ⟨?_, ?_, k92.out⟩
        · rw [e9]; rfl
        · rw [e9]; exact k91.out
    · have HE := Lib.hid (HPN.out (.inl hm))
      clear HPN HPJ hlay HCV
      go_wp2_with fail
      with_reducible refine HG2.out.mono ?_
      rintro e w7 ⟨A7, c7, rfl, H7⟩
      go_wp2_with (first | (go_at_call 60; with_reducible refine (HZ.out _).mono ?_; rintro e w8 ⟨rfl, hw8⟩; subst hw8))
      clear hm
      have bkw7 : Bk w7 p 67 cs := ch_bk (HF6.out w7 H7.out.2.2) HH.out.2.1 HH.out.2.2.1
      have d0w7 : w7.drew.cell? ⟨p, 0, none⟩ = some (.pointer (some ⟨f, 0, none⟩)) := (bkw7.cell 0).trans ((HH.out.2.1.cell 0).symm.trans HH.out.2.2.2.2.1)
      have HLw7 := Lib.hid (log_any p nm w7.drew ((bkw7.cell 1).trans ((HH.out.2.1.cell 1).symm.trans HH.out.2.2.2.2.2.1)) (by have := HH.out.2.2.2.2.2.2.1; omega))
      have HCw7 := Lib.hid (ag_cut (w := w) (O := O) (O2 := O) (S1 := S) (nm := nm) (W := w7.drew) (FsA.heap (HF7.out w7 H7.out.2.2) (W' := w7.drew) (fun _ _ _ => rfl)) (fun i h => .inl h) (Ch.drew (HF6.out w7 H7.out.2.2)) HH.out.2.2.2.2.2.2.1 (by have := HH.out.2.2.2.2.2.2.2.1; omega))
      have HEw7 := Lib.hid HE.out
      clear bkw7
      go_wp2_with fail
      go_region_held3 (fun w' => w'.cell? ⟨p, 0, none⟩ = some (.pointer (some ⟨f, 0, none⟩))) (first | exact d0w7 | exact d9 | go_keep)
        (first
          | (go_at_call 35; with_reducible refine HLw7.out.mono ?_; rintro e w5 ⟨rfl, hw5⟩; subst hw5)
          | (go_at_call 62; with_reducible refine HCw7.out.mono ?_; intro e w9 h9; unfold AgR at h9; obtain ⟨rfl, k91, k92⟩ := h9; have d9 : w9.cell? ⟨p, 0, none⟩ = some (.pointer (some ⟨f, 0, none⟩)) := ((ch_bk k92 HH.out.2.1 HH.out.2.2.1).cell 0).trans ((HH.out.2.1.cell 0).symm.trans HH.out.2.2.2.2.1); replace k91 := Lib.hid k91; replace k92 := Lib.hid k92))
      go_wp2_with fail
      go_ret
      have e9 := HEw7.out
      refine ⟨?_, ?_, k92.out⟩
      · rw [e9]; rfl
      · rw [e9]; exact k91.out
  · have HG2 := Lib.hid (HG.mono (R' := fun e w' => ∃ k : Nat, e = .returned (.tuple #[.slice none 0 0, .int .i64 (k : Int)]) ∧ ¬ (k : Int) = 0 ∧ Hid (Below w6.heap.size w6 w')) (by
      rintro e w' ⟨⟨h1, rfl⟩ | ⟨h1, _⟩, h2⟩
      · exact ⟨_, rfl, by omega, Lib.hid h2⟩
      · exact absurd h1 hz))
    have HE := Lib.hid (HY.out.2 (fun h => hz h.1))
    clear HG hr6 hWN hr6W z6 hF6 hF7 hz
    go_wp2_with fail
    with_reducible refine HG2.out.mono ?_
    rintro e w7 ⟨k, rfl, hk, B7⟩
    have bkw7 : Bk w7 p 67 cs := ch_bk (HF6.out w7 B7.out) HH.out.2.1 HH.out.2.2.1
    have d0w7 : w7.drew.cell? ⟨p, 0, none⟩ = some (.pointer (some ⟨f, 0, none⟩)) := (bkw7.cell 0).trans ((HH.out.2.1.cell 0).symm.trans HH.out.2.2.2.2.1)
    have HLw7 := Lib.hid (log_any p nm w7.drew ((bkw7.cell 1).trans ((HH.out.2.1.cell 1).symm.trans HH.out.2.2.2.2.2.1)) (by have := HH.out.2.2.2.2.2.2.1; omega))
    have HCw7 := Lib.hid (ag_cut (w := w) (O := O) (O2 := O) (S1 := S) (nm := nm) (W := w7.drew) (FsA.heap (HF7.out w7 B7.out) (W' := w7.drew) (fun _ _ _ => rfl)) (fun i h => .inl h) (Ch.drew (HF6.out w7 B7.out)) HH.out.2.2.2.2.2.2.1 (by have := HH.out.2.2.2.2.2.2.2.1; omega))
    have HEw7 := Lib.hid HE.out
    clear bkw7
    go_wp2_with fail
    go_region_held3 (fun w' => w'.cell? ⟨p, 0, none⟩ = some (.pointer (some ⟨f, 0, none⟩))) (first | exact d0w7 | exact d9 | go_keep)
      (first
        | (go_at_call 35; with_reducible refine HLw7.out.mono ?_; rintro e w5 ⟨rfl, hw5⟩; subst hw5)
        | (go_at_call 62; with_reducible refine HCw7.out.mono ?_; intro e w9 h9; unfold AgR at h9; obtain ⟨rfl, k91, k92⟩ := h9; have d9 : w9.cell? ⟨p, 0, none⟩ = some (.pointer (some ⟨f, 0, none⟩)) := ((ch_bk k92 HH.out.2.1 HH.out.2.2.1).cell 0).trans ((HH.out.2.1.cell 0).symm.trans HH.out.2.2.2.2.1); replace k91 := Lib.hid k91; replace k92 := Lib.hid k92))
    go_wp2_with fail
    go_ret
    have e9 := HEw7.out
    refine ⟨?_, ?_, k92.out⟩
    · rw [e9]; rfl
    · rw [e9]; exact k91.out
end Go.Proofs.YtoadamkmabkldaaGreatDoor
/- A pager opened on a store that has pages, whatever its journal tells. -/
namespace Go.Proofs.YtoadamkmabkldaaGreatDoor
open Go.RowKit Go.Shelf
attribute [local go_sem ↓] Go.wp_at_zero Go.wp_at_succ
set_option maxHeartbeats 2000000 in
theorem open_gen (f M : Nat) (O : Nat → Prop) (S0 S : FsP) (L : List (List UInt8)) (h : HdP) (w W : World) (hF : FsA W O f S0) (hO : ∀ i, O i → w.heap.size ≤ i ∧ i < W.heap.size) (hb : Below w.heap.size w W) (hup : S0.down = false) (hst0 : S0.stamp ≤ 900000) (hdb : ∃ n, lenP S0 (dbN xN) = some n) (hlg : ∃ n, lenP S0 (logN xN) = some n ∧ (n = 0 ∨ 4 ≤ n) ∧ n ≤ 200000) (hag : againP xN S0 = (0, S))
    (hSt : St S xN L M) (hL : L[0]? = some (padB (hdB h))) (hok : h.Ok) :
    Calls Tryz.prog 11 #[.pointer (some ⟨f, 0, none⟩), .string xS] W fun e w' => OoR w W w' O f h S e := by
  obtain ⟨nd, hnd⟩ := hdb
  obtain ⟨nl, hnl, hnl4, hnl2⟩ := hlg
  have hlen := hSt.len
  have hL1 : 1 ≤ L.length := by have := (List.getElem?_eq_some_iff.1 hL).1; omega
  have t1 : thereP S0 (dbN xN) = (0, S0) := by unfold thereP; rw [hnd]; rfl
  have t2 : thereP S0 (logN xN) = (0, S0) := by unfold thereP; rw [hnl]; rfl
  obtain ⟨n, hn⟩ : ∃ n, 512 * L.length = n + 1 := ⟨512 * L.length - 1, by omega⟩
  refine (open_run f O S0 S0 S0 S 0 0 0 xS W (fun p m1 m2 O1 W1 k w' => k = 0 ∧ PgA w' (fun i => (i = p ∨ i = m1 ∨ i = m2) ∨ W1.heap.size ≤ i) f p xS (pgO h) ∧ FsA w' (fun i => O1 i ∧ i < W1.heap.size) f S ∧ (∀ i, O1 i → i ≠ p ∧ i ≠ m1 ∧ i ≠ m2) ∧ p < W1.heap.size ∧ m1 < W1.heap.size ∧ m2 < W1.heap.size ∧ W1.heap.size ≤ w'.heap.size) hF hup (by decide) (by decide) (by omega) (by omega) t1 (fun _ => t2) ?_ ?_).mono ?_
  · intro _ _ W1 O1 p bp cs hF1 hK hbk
    rcases hnl4 with hz | h4
    · subst hz
      have e0 : againP xN S0 = (0, S0) := by unfold againP; rw [hnl]
      have e1 : S0 = S := congrArg (·.2) (e0.symm.trans hag)
      subst e1
      refine (again_zero f p O1 S0 xS W1 hF1 hK.p0 hK.p1 (by decide) hnl).mono ?_
      rintro e w' ⟨rfl, q, rfl⟩
      exact ⟨rfl, (hF1.heap (W' := W1.drewN q) (fun _ _ _ => rfl)).mono (fun i hi _ => .inl hi), (Ch.refl _ _).drewN q⟩
    · refine (again_full f p (fun i => O1 i ∧ i < W1.heap.size) S0 xS cs nl W1 (hF1.mono (fun i hi hl => ⟨hi, hl⟩)) hbk (fun e => hK.pn e.1) (fun i hi => hi.2) hK.p0 hK.p1 (by decide) hst0 hnl h4 hnl2).mono ?_
      intro e w' hR
      unfold AgR at hR
      rw [show xS.data.toList = xN from rfl, hag] at hR
      obtain ⟨k1, k2, k3⟩ := hR
      refine ⟨k1, k2.mono (fun i hi _ => ?_), k3.mono (fun i hi => hi.1)⟩
      rcases hi with e | e
      · exact .inl e.1
      · exact .inr e
  · intro _ _ _ W1 O1 p m1 m2 hM1 hF1 hne
    have hA : PgA W1 (fun i => i = p ∨ i = m1 ∨ i = m2) f p xS pg0 := ⟨m1, m2, _, _, _, hM1, fun i hi => by
      rcases hi with h | h | h | h | ⟨k, c, hk, _⟩ | ⟨k, hk, _⟩
      · exact .inl h
      · exact .inr (.inl h)
      · exact .inr (.inr h)
      · cases h
      · cases hk
      · cases hk⟩
    have hF2 := hF1.mono (O' := fun i => O1 i ∧ i < W1.heap.size) (fun i hi hl => ⟨hi, hl⟩)
    refine (first_old f p O1 _ S xS h n W1 hA hF1 (by decide) (by have := hlen.1; rw [hn] at this; exact this) hok (hSt.hold hL)).mono ?_
    rintro e w' ⟨rfl, h1, h2⟩
    refine ⟨0, rfl, ⟨rfl, h1, hF2.ch h2 (fun i hi e => ?_), hne, hM1.hd.lt, hM1.ch.lt, hM1.cl.lt, h2.size⟩, h2.mono (fun i e => .inr e)⟩
    obtain ⟨n1, n2, n3⟩ := hne i hi.1
    rcases e with e | e | e
    · exact n1 e
    · exact n2 e
    · exact n3 e
  · rintro e w' hR
    rcases hR with ⟨h, _⟩ | ⟨_, h, _⟩ | ⟨_, _, h, _⟩ | ⟨_, _, _, p, m1, m2, O1, W1, k, h1, h2, h3, h4, h5, rfl, ⟨hk, q1, q2, hne, z1, z2, z3, z4⟩, h6⟩
    · exact absurd rfl h
    · exact absurd rfl h
    · exact absurd rfl h
    subst hk
    have hzW := h5.size
    have hbW := hb.size
    refine ⟨p, fun i => O1 i ∧ i < W1.heap.size, fun i => ((i = p ∨ i = m1 ∨ i = m2) ∨ W1.heap.size ≤ i) ∧ i < w'.heap.size, by rw [if_pos rfl]; rfl, ⟨q2, q1.mono (fun i hi hl => ⟨hi, hl⟩), fun i hi => ⟨?_, by have := hi.2; omega⟩, fun i hi => ⟨?_, hi.2⟩, fun i hi e => ?_, hb.trans (h6.below hbW (fun i hi => (hO i hi).1))⟩, fun i hi => ?_, fun i hi => ?_, h6⟩
    · rcases h1 i hi.1 with h | h
      · exact (hO i h).1
      · omega
    · rcases hi.1 with (h | h | h) | h <;> omega
    · obtain ⟨n1, n2, n3⟩ := hne i hi.1
      rcases e.1 with (e | e | e) | e
      · exact n1 e
      · exact n2 e
      · exact n3 e
      · have := hi.2; omega
    · rcases h1 i hi.1 with h | h
      · exact .inl h
      · exact .inr h.1
    · rcases hi.1 with (h | h | h) | h <;> omega
end Go.Proofs.YtoadamkmabkldaaGreatDoor
/- PagerReuses: a map of marks, and pages freed and taken again, plain. -/
namespace Go.Proofs.YtoadamkmabkldaaGreatDoor
open Go.RowKit Go.Shelf
open Go.Maps (Keyed)
open Go.Sort
/-- How a mark reads. -/
def blR (v : Value) : Option (DataW Unit × List MemPlace) :=
  match v with
  | .bool b => some (.lit (.bool b), [])
  | _ => none
theorem blR_inv {v : Value} {b : Bool} {ps : List MemPlace} (h : blR v = some (.lit (.bool b), ps)) : v = .bool b := by
  unfold blR at h
  split at h
  · simp at h; rw [h.1]
  · cases h
theorem zeroBl (w : World) : (zeroValue 4).run Tryz.prog w = .ok (.bool false) w := by kernel_rfl
/-- A map of marks. -/
def MapM (W : World) (m n : Nat) (f : Nat → Bool) : Prop :=
  ∃ D : DataW Unit, W.ownsMap Tryz.prog 3 blR m n D ∧ (∀ k : Nat, Maps.has D (.int .i64 (k : Int)) = f k) ∧ ∀ k : Nat, f k = true → ∀ z, D.atKey (.int .i64 (k : Int)) z = .lit (.bool true)
section
variable {w w' : World} {m n : Nat} {f : Nat → Bool}
theorem MapM.new (w : World) : MapM (w.alloc (.map #[] 0)) w.heap.size 0 (fun _ => false) := ⟨.map [], World.ownsMap_made _ _ _ _, fun _ => rfl, fun _ h => (by cases h)⟩
theorem MapM.lt (h : MapM w m n f) : m < w.heap.size := by obtain ⟨D, h1, _⟩ := h; exact h1.lt
theorem MapM.heap (h : MapM w m n f) (hw : w'.heap[m]? = w.heap[m]?) : MapM w' m n f := by
  obtain ⟨D, ⟨es, cl, hb, r⟩, h2⟩ := h; exact ⟨D, ⟨es, cl, hw.trans hb, r⟩, h2⟩
theorem MapM.ne {b : Nat} {cs : Array Value} {t : TypeId} (h : MapM w m n f) (hg : Bk w b t cs) : m ≠ b := by
  obtain ⟨D, ⟨es, cl, hb, _⟩, _⟩ := h
  rintro rfl
  unfold Bk at hg
  rw [hb] at hg; cases hg
theorem MapM.look (h : MapM w m n f) {k : Nat} (hk : k ≤ 9223372036854775807) :
    (Instr.lookup 34 (.map (some m)) (.int .i64 (k : Int)) false).run Tryz.prog w = .ok (.bool (f k)) w := by
  obtain ⟨D, h1, h2, h3⟩ := h
  obtain ⟨v, ps, hrun, hv⟩ := h1.lookup lawI Tryz.underlying34 (zeroBl w) (zd := .lit (.bool false)) (zp := []) rfl (wfI hk)
  rw [hrun]
  cases hf : f k with
  | false =>
    have h4 := h2 k
    rw [hf] at h4
    rw [Maps.atKey_of_not_has h4] at hv
    rw [blR_inv hv]
  | true =>
    rw [h3 _ hf] at hv
    rw [blR_inv hv]
theorem MapM.put (h : MapM w m n f) {k : Nat} (hk : k ≤ 9223372036854775807) (hn : n ≤ 1000000) :
    ∃ w', (Instr.mapUpdate 34 (.map (some m)) (.int .i64 (k : Int)) (.bool true)).run Tryz.prog w = .ok () w' ∧ MapM w' m (n + 1) (fun x => if x = k then true else f x) ∧ w.grownBy w' (some m) := by
  obtain ⟨D, h1, h2, h3⟩ := h
  obtain ⟨w', hrun, h5, h6⟩ := h1.update lawI Tryz.underlying34 (Nat.lt_of_le_of_lt hn (by unfold maxLen; decide)) (wfI hk) (show blR (.bool true) = some (.lit (.bool true), []) from rfl)
  have hlit := lawI.key (wfI hk)
  have hM : Maps.IsMap D := h1.isMap
  refine ⟨w', hrun, ⟨_, h5, fun x => ?_, fun x hv z => ?_⟩, h6⟩
  · dsimp only
    by_cases hx : x = k
    · rw [if_pos hx, hx]; exact Maps.has_put_same hM hlit _
    · rw [if_neg hx, Maps.has_put_other (lit_ne hx)]; exact h2 x
  · dsimp only at hv
    by_cases hx : x = k
    · rw [hx]; exact Maps.atKey_put_same hM hlit _ _
    · rw [if_neg hx] at hv; rw [Maps.atKey_put_other (lit_ne hx)]; exact h3 x hv z
end
/-- Free pages, each of them among the changed ones. -/
def Chn (ch : List (Nat × List UInt8)) : Nat → List Nat → Prop
  | x, [] => x = 0
  | x, y :: r => x = y ∧ 1 ≤ y ∧ y < 65536 ∧ ∃ n, ch.lookup y = some (frB n) ∧ n ≤ 65536 ∧ Chn ch n r
theorem Chn.put {ch : List (Nat × List UInt8)} (hs : ch.Pairwise fun p q => p.1 < q.1) {k : Nat} {b : List UInt8} : ∀ {F : List Nat} {x : Nat}, Chn ch x F → k ∉ F → Chn (putK k b ch) x F
  | [], _, h, _ => h
  | y :: r, _, ⟨h1, h2, h3, n, h4, h5, h6⟩, hk => ⟨h1, h2, h3, n, by
      rw [lookup_putK _ _ _ _ hs, if_neg (show ¬ y = k from fun e => hk (by rw [e]; exact List.mem_cons_self ..))]; exact h4, h5, h6.put hs (fun e => hk (List.mem_cons_of_mem _ e))⟩
theorem Chn.le {ch : List (Nat × List UInt8)} {x : Nat} {F : List Nat} (h : Chn ch x F) : x ≤ 65536 := by
  cases F with
  | nil => have : x = 0 := h; omega
  | cons y r => have := h.1; have := h.2.2.1; omega
structure RuI (P : PgP) (m : Nat) (F : List Nat) : Prop where
  ok : P.Ok
  dead : P.dead = false
  many : P.now.many = m
  reads : P.reads ≤ 0
  chn : Chn P.ch P.now.free F
  nd : F.Nodup
theorem RuI.new {P : PgP} {m : Nat} (h : RuI P m []) (h1 : 1 ≤ m) (hm : m < 65536) : RuI { P with now := { P.now with many := P.now.many + 1 }, ch := putK P.now.many (List.replicate 508 0) P.ch } (m + 1) [] :=
  ⟨h.ok.put (by rw [h.many]; exact h1) (by rw [h.many]; exact hm) List.length_replicate _, h.dead, by show P.now.many + 1 = _; rw [h.many], h.reads, h.chn, List.nodup_nil⟩
theorem RuI.free {P : PgP} {m no : Nat} {F : List Nat} (h : RuI P m F) (h1 : 1 ≤ no) (h2 : no < m) (hm : m ≤ 65536) (hn : no ∉ F) : RuI { P with now := { P.now with free := no }, ch := putK no (frB P.now.free) P.ch } m (no :: F) :=
  ⟨h.ok.put h1 (by omega) (frB_len _) _, h.dead, h.many, h.reads, ⟨rfl, h1, by omega, P.now.free, by rw [lookup_putK _ _ _ _ h.ok.srt, if_pos rfl], h.chn.le, h.chn.put h.ok.srt hn⟩, List.nodup_cons.2 ⟨hn, h.nd⟩⟩
theorem RuI.take {P : PgP} {m x n : Nat} {F : List Nat} (h : RuI P m (x :: F)) (hl : P.ch.lookup x = some (frB n)) (hc : Chn P.ch n F) : RuI { P with now := { P.now with free := n }, ch := putK x (List.replicate 508 0) P.ch } m F := by
  obtain ⟨_, h1, h2, _⟩ := h.chn
  exact ⟨h.ok.put h1 h2 List.length_replicate _, h.dead, h.many, h.reads, hc.put h.ok.srt (List.nodup_cons.1 h.nd).1, (List.nodup_cons.1 h.nd).2⟩
theorem RuI.fst : RuI pgN 1 [] := ⟨pgN_ok, rfl, rfl, Nat.le_refl _, rfl, List.nodup_nil⟩
section
variable {w W : World} {O1 O2 : Nat → Prop} {f p : Nat} {S : FsP} {P : PgP} {m : Nat} {F : List Nat}
/-- .. after a call of the pager. -/
def RuX (w W w' : World) (O1 O2 : Nat → Prop) (f p m : Nat) (F : List Nat) (S : FsP) : Prop := ∃ P, PwX w W w' O1 O2 f p xS P S ∧ RuI P m F
theorem ru_new (h : Pw w W O1 O2 f p xS P S) (hI : RuI P m []) (h1 : 1 ≤ m) (hm : m < 65536) : Calls Tryz.prog 12 #[.pointer (some ⟨p, 0, none⟩)] W fun e w' => e = .returned (.tuple #[.int .i64 (m : Int), .int .i64 0]) ∧ RuX w W w' O1 O2 f p (m + 1) [] S := by
  refine (alloc_at0 f p O2 xS P W h.pg hI.ok hI.dead hI.chn (by rw [hI.many]; exact hm)).mono ?_
  rintro e w' ⟨rfl, k1, k2⟩
  exact ⟨by rw [hI.many], _, h.pager k1 k2, hI.new h1 hm⟩
theorem ru_free (h : Pw w W O1 O2 f p xS P S) (hI : RuI P m F) {no : Nat} (h1 : 1 ≤ no) (h2 : no < m) (hm : m ≤ 65536) (hn : no ∉ F) : Calls Tryz.prog 17 #[.pointer (some ⟨p, 0, none⟩), .int .i64 (no : Int)] W fun e w' => e = .returned (.int .i64 0) ∧ RuX w W w' O1 O2 f p m (no :: F) S := by
  refine (free_any f p no O2 xS P W h.pg hI.ok hI.dead h1 (by rw [hI.many]; exact h2) (by rw [hI.many]; exact hm)).mono ?_
  rintro e w' ⟨rfl, k1, k2⟩
  exact ⟨rfl, _, h.pager k1 k2, hI.free h1 h2 hm hn⟩
theorem ru_take {x : Nat} (h : Pw w W O1 O2 f p xS P S) (hI : RuI P m (x :: F)) : Calls Tryz.prog 12 #[.pointer (some ⟨p, 0, none⟩)] W fun e w' => e = .returned (.tuple #[.int .i64 (x : Int), .int .i64 0]) ∧ RuX w W w' O1 O2 f p m F S := by
  obtain ⟨c1, c2, c3, n, c4, c5, c6⟩ := hI.chn
  have hR : pgR P x [] = P := by unfold pgR; rw [c4]; rfl
  have := alloc_at f p x n O1 O2 S xS P [] W h.pg h.fs (by decide) hI.ok hI.dead c1 c2 c3 (by have := hI.reads; omega) (fun e => by rw [c4] at e; cases e) (by unfold contB; rw [c4]) c5
  rw [hR] at this
  refine this.mono ?_
  rintro e w' ⟨rfl, k1, k2⟩
  exact ⟨rfl, _, h.pager k1 k2, hI.take c4 c6⟩
end
end Go.Proofs.YtoadamkmabkldaaGreatDoor
