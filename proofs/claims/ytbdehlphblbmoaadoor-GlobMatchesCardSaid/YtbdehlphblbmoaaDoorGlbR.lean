/- The document's reader of runes: its walks. -/
import Derived.Test.YtbdehlphblbmoaaDoorGlbV
import Derived.Test.YtbdehlphblbmoaaDoorMem
import Derived.Test.YtbdehlphblbmoaaDoorInts
import Derived.Test.YtbdehlphblbmoaaDoorCh
namespace Go.Proofs.YtbdehlphblbmoaaDoor
open Go.RowKit Go.Lib
attribute [local go_sem ↓] Go.wp_at_zero Go.wp_at_succ

theorem utf_any (r : Nat) (w : World) (h : r ≤ 100000000) :
    Calls Tryd.prog 28 #[.int .i64 (r : Int)] w fun e w' => (∃ A c, e = .returned (.slice A (utfLen r) c)) ∧ Below w.heap.size w w' := by
  have h0 : (0 : Int) ≤ (r : Int) := by omega
  have h9 : (r : Int) ≤ 100000000 := by omega
  have HL := Lib.hid (show (r < 128 → utfLen r = 1) ∧ (¬ r < 128 → r < 2048 → utfLen r = 2) ∧ (¬ r < 2048 → r < 65536 → utfLen r = 3) ∧ (¬ r < 65536 → utfLen r = 4) from by
    unfold utfLen
    refine ⟨fun h => if_pos h, fun h1 h2 => ?_, fun h1 h2 => ?_, fun h1 => ?_⟩ <;> (repeat' split) <;> omega)
  by_cases h1 : r < 128
  · have t1 : (r : Int) < 128 := by omega
    rw [HL.out.1 h1]
    clear HL
    go_enter Tryd.func28, Tryd.ntmps28
    go_wp2_with fail
    go_ret
    exact ⟨⟨_, _, rfl⟩, (Below.refl _ _).alloc (Nat.le_refl _) _⟩
  have t1 : ¬ (r : Int) < 128 := by omega
  by_cases h2 : r < 2048
  · have t2 : (r : Int) < 2048 := by omega
    rw [HL.out.2.1 h1 h2]
    clear HL
    go_enter Tryd.func28, Tryd.ntmps28
    go_wp2_with fail
    go_ret
    exact ⟨⟨_, _, rfl⟩, (Below.refl _ _).alloc (Nat.le_refl _) _⟩
  have t2 : ¬ (r : Int) < 2048 := by omega
  by_cases h3 : r < 65536
  · have t3 : ¬ (65536 : Int) ≤ (r : Int) := by omega
    have t4 : (r : Int) < 65536 := by omega
    rw [HL.out.2.2.1 h2 h3]
    clear HL h3 t3
    go_enter Tryd.func28, Tryd.ntmps28
    go_wp2_with fail
    go_ret
    exact ⟨⟨_, _, rfl⟩, (Below.refl _ _).alloc (Nat.le_refl _) _⟩
  · have t3 : ¬ (r : Int) < 65536 := by omega
    rw [HL.out.2.2.2 h3]
    clear HL h3
    go_enter Tryd.func28, Tryd.ntmps28
    go_wp2_with fail
    go_ret
    exact ⟨⟨_, _, rfl⟩, (Below.refl _ _).alloc (Nat.le_refl _) _⟩
/-- What next gives. -/
def nextV (l : List UInt8) : Int := if (decodeL l).1 = 65533 ∧ (decodeL l).2 = 1 then -1 else ((decodeL l).1 : Nat)
theorem nextV_bad {l : List UInt8} (h : decodeL l = (65533, 1)) : nextV l = -1 := by unfold nextV; rw [h]; rfl
theorem accV_bd (l : List UInt8) (v : Nat) (hv : v < 32) : ∀ i, contsTo l (i + 1) → accV l v i < 32 * 64 ^ i
  | 0, _ => by show v < 32 * 64 ^ 0; rw [Nat.pow_zero]; omega
  | i + 1, h => by
    have ih := accV_bd l v hv i (fun j h1 h2 => h j h1 (by omega))
    have := h (i + 1) (by omega) (by omega)
    show 64 * accV l v i + (l.getD (i + 1) 0).toNat - 128 < 32 * 64 ^ (i + 1)
    rw [Nat.pow_succ]
    omega
theorem next_low {l : List UInt8} (hb : (l.getD 0 0).toNat < 128) : nextV l = ((l.getD 0 0).toNat : Nat) := by
  have e : decodeL l = ((l.getD 0 0).toNat, 1) := by
    rw [decodeL_N]
    unfold decodeN
    rw [if_pos hb]
  unfold nextV
  rw [e]
  simp only
  rw [if_neg (by omega)]
theorem next_all (l : List UInt8) (hl : leadSz (l.getD 0 0).toNat ≤ l.length) (hz : leadSz (l.getD 0 0).toNat ≠ 0) (hc : contsTo l (leadSz (l.getD 0 0).toNat)) :
    let v := accV l (leadV (l.getD 0 0).toNat) (leadSz (l.getD 0 0).toNat - 1)
    (utfLen v = leadSz (l.getD 0 0).toNat ∧ ¬ (55296 ≤ v ∧ v ≤ 57343) ∧ v ≤ 1114111 → nextV l = (v : Nat)) ∧
    (utfLen v ≠ leadSz (l.getD 0 0).toNat ∨ (55296 ≤ v ∧ v ≤ 57343) ∨ 1114111 < v → nextV l = -1) := by
  have h := accV_all l hl hz hc
  simp only at h ⊢
  refine ⟨fun h1 => ?_, fun h1 => nextV_bad (h.2 h1)⟩
  have e := h.1 h1
  unfold nextV
  rw [e]
  simp only
  rw [if_neg]
  rintro ⟨_, h2⟩
  rw [h1.1] at h2
  unfold leadSz at h2
  repeat' split at h2
  all_goals omega
set_option maxHeartbeats 4000000 in
set_option maxRecDepth 100000 in
theorem next_any (A : Option Addr) (n c B : Nat) (l : List UInt8) (w : World) (hr : Rd w B 1 A n (bys l)) (hn : 0 < n) (hB : B ≤ w.heap.size) (hn2 : n ≤ 1000000) :
    Calls Tryd.prog 27 #[.slice A n c] w fun e w' => e = .returned (.int .i64 (nextV l)) ∧ Below w.heap.size w w' := by
  have hlen := hr.blen
  obtain ⟨b, o, u0, rfl, hb, hu0, _, hc0⟩ := hr.byte hn
  have hne : l ≠ [] := by rintro rfl; simp at hu0
  have hg0 : l.getD 0 0 = u0 := by rw [List.getD_eq_getElem?_getD, hu0]; rfl
  have Hr := Lib.hid hr
  have Hl := Lib.hid hlen
  have hlow := fun h => next_low (by rw [hg0]; exact h)
  have hlead := fun h1 h2 => nextV_bad (bad_lead l (by rw [hg0]; exact h1) (by rw [hg0]; exact h2))
  have hshort := fun h => nextV_bad (bad_short l (by rw [hg0]; exact h))
  have hcont := fun j h1 h2 h3 => nextV_bad (bad_cont l j h1 (by rw [hg0]; exact h2) h3)
  have hall := next_all l
  have hnc : 128 ≤ u0.toNat → True := fun _ => trivial
  rw [hg0] at hlow hall
  clear hr hlen hu0 hne hg0 hnc
  have hu := u0.toNat_lt
  generalize u0.toNat = x at *
  have hx : ((x : Nat) : Int) < 256 := by omega
  have HLow := Lib.hid hlow
  have HLead := Lib.hid hlead
  have HShort := Lib.hid hshort
  have HCont := Lib.hid hcont
  have HAll := Lib.hid hall
  clear hlow hlead hshort hcont hall
  rw [Nat.add_zero] at hc0
  by_cases hx1 : x < 128
  · have t1 : (x : Int) < 128 := by omega
    go_enter Tryd.func27, Tryd.ntmps27
    go_wp2_with fail
    go_ret
    exact ⟨show Ending.returned (.int .i64 (x : Int)) = _ from by rw [HLow.out hx1], Below.refl _ _⟩
  have t1 : ¬ (x : Int) < 128 := by omega
  go_enter Tryd.func27, Tryd.ntmps27
  go_upto_region 6 with (fail)
  go_cut [20] (fun v20 wx => wx = w ∧ ∃ t, v20 = .bool t ∧ Hid (t = true ↔ 194 ≤ x ∧ x ≤ 223))
  case first =>
    by_cases h1 : (194 : Int) ≤ (x : Int)
    · by_cases h2 : (x : Int) ≤ 223
      · go_wp2_with fail
        go_meet
        exact ⟨rfl, true, rfl, Lib.hid (by simp; omega)⟩
      · go_wp2_with fail
        go_meet
        exact ⟨rfl, false, rfl, Lib.hid (by simp; omega)⟩
    · go_wp2_with fail
      go_meet
      exact ⟨rfl, false, rfl, Lib.hid (by simp; omega)⟩
  case rest =>
    obtain ⟨rfl, tt, rfl, HT⟩ := hcut
    go_upto_if 20 with (fail)
    go_cut [4, 5] (fun v4 v5 wx => wx = wc ∧ v4 = .int .i64 (leadSz x : Int) ∧ v5 = .int .i64 (leadV x : Int))
    case first =>
      cases tt with
      | true =>
        have h1 := HT.out.1 rfl
        have e2 : leadSz x = 2 ∧ leadV x = x - 192 := by unfold leadSz leadV; rw [if_pos h1, if_pos h1]; exact ⟨rfl, rfl⟩
        have b1 : (194 : Int) ≤ (x : Int) := by omega
        have HE := Lib.hid e2
        clear e2 h1
        go_wp2_with fail
        go_meet
        exact ⟨rfl, by rw [HE.out.1]; rfl, by rw [HE.out.2]; congr 1; omega⟩
      | false =>
        have h1 : ¬ (194 ≤ x ∧ x ≤ 223) := fun h => by have := HT.out.2 h; cases this
        by_cases h2 : 224 ≤ x ∧ x ≤ 239
        · have b1 : (224 : Int) ≤ (x : Int) := by omega
          have b2 : (x : Int) ≤ 239 := by omega
          have HE := Lib.hid (show leadSz x = 3 ∧ leadV x = x - 224 from by unfold leadSz leadV; rw [if_neg h1, if_neg h1, if_pos h2, if_pos h2]; exact ⟨rfl, rfl⟩)
          clear h1 h2
          go_wp2_with fail
          go_meet
          exact ⟨rfl, by rw [HE.out.1]; rfl, by rw [HE.out.2]; congr 1; omega⟩
        · by_cases h3 : 240 ≤ x ∧ x ≤ 244
          · have b1 : (240 : Int) ≤ (x : Int) := by omega
            have b2 : (x : Int) ≤ 244 := by omega
            have b3 : ¬ (x : Int) ≤ 239 := by omega
            have b4 : (224 : Int) ≤ (x : Int) := by omega
            have HE := Lib.hid (show leadSz x = 4 ∧ leadV x = x - 240 from by unfold leadSz leadV; rw [if_neg h1, if_neg h1, if_neg h2, if_neg h2, if_pos h3, if_pos h3]; exact ⟨rfl, rfl⟩)
            clear h1 h2 h3
            go_wp2_with fail
            go_meet
            exact ⟨rfl, by rw [HE.out.1]; rfl, by rw [HE.out.2]; congr 1; omega⟩
          · have HE := Lib.hid (show leadSz x = 0 ∧ leadV x = 0 from by unfold leadSz leadV; rw [if_neg h1, if_neg h1, if_neg h2, if_neg h2, if_neg h3, if_neg h3]; exact ⟨rfl, rfl⟩)
            by_cases h4 : 240 ≤ x
            · have b1 : (240 : Int) ≤ (x : Int) := by omega
              have b2 : ¬ (x : Int) ≤ 244 := by omega
              have b3 : ¬ (x : Int) ≤ 239 := by omega
              have b4 : (224 : Int) ≤ (x : Int) := by omega
              clear h1 h2 h3
              go_wp2_with fail
              go_meet
              exact ⟨rfl, by rw [HE.out.1]; rfl, by rw [HE.out.2]; rfl⟩
            · have b1 : ¬ (240 : Int) ≤ (x : Int) := by omega
              have b4 : ¬ (224 : Int) ≤ (x : Int) := by omega
              clear h1 h2 h3
              go_wp2_with fail
              go_meet
              exact ⟨rfl, by rw [HE.out.1]; rfl, by rw [HE.out.2]; rfl⟩
    case rest =>
      obtain ⟨rfl, rfl, rfl⟩ := hcut
      clear HT
      have hz4 := leadSz_le x
      have hv32 := leadV_lt x
      generalize leadSz x = z at *
      generalize leadV x = lv at *
      by_cases hz : z = 0
      · have HE := Lib.hid (HLead.out (by omega) hz)
        subst hz
        go_wp2_with fail
        go_ret
        exact ⟨show Ending.returned (.int .i64 (-1)) = _ from by rw [HE.out], Below.refl _ _⟩
      have hz1 : ((z : Int) == 0) = false := by simp; omega
      by_cases hsh : n < z
      · have HE := Lib.hid (HShort.out (by rw [Hl.out]; exact hsh))
        have hd : (n : Int) < (z : Int) := by omega
        clear hz
        go_wp2_with fail
        go_ret
        exact ⟨show Ending.returned (.int .i64 (-1)) = _ from by rw [HE.out], Below.refl _ _⟩
      have Hz := Lib.hid hz
      clear hz
      go_wp2_with fail
      go_loop [5, 6] (fun v5 v6 => ∃ j : Nat, v6 = .int .i64 (j : Int) ∧ 1 ≤ j ∧ j ≤ z ∧ v5 = .int .i64 (accV l lv (j - 1) : Int) ∧ Hid (contsTo l j)) (fun _ v6 => z - (intOf v6).toNat)
      case atStart => exact ⟨1, rfl, Nat.le_refl _, by have := Hz.out; omega, rfl, Lib.hid (fun j h1 h2 => by omega)⟩
      case round =>
        obtain ⟨j, rfl, hj1, hj, rfl, HC⟩ := hrel
        have hbd := accV_bd l lv hv32 (j - 1) (by rw [Nat.sub_add_cancel hj1]; exact HC.out)
        have hbd2 : accV l lv (j - 1) < 32 * 64 ^ 3 := Nat.lt_of_lt_of_le hbd (Nat.mul_le_mul_left _ (Nat.pow_le_pow_right (by omega) (by omega)))
        rw [show 32 * 64 ^ 3 = 8388608 from rfl] at hbd2
        clear hbd
        by_cases hlt : j < z
        · obtain ⟨b', o', u, hA, hb', hu, hul, hcj⟩ := Hr.out.byte (k := j) (by omega)
          injection hA with hA
          injection hA with h1 h2 _
          subst h1 h2
          have hgj : (l.getD j 0).toNat = u.toNat := by rw [List.getD_eq_getElem?_getD, hu]; rfl
          have hacc : accV l lv (j - 1 + 1) = 64 * accV l lv (j - 1) + (l.getD (j - 1 + 1) 0).toNat - 128 := rfl
          rw [Nat.sub_add_cancel hj1, hgj] at hacc
          have hco := HCont.out j hj1 hlt
          rw [hgj] at hco
          have HN : Hid (128 ≤ u.toNat → u.toNat ≤ 191 → contsTo l (j + 1)) := Lib.hid (fun h1 h2 k hk1 hk2 => by
            rcases Nat.lt_or_ge k j with h | h
            · exact HC.out k hk1 h
            · obtain rfl : k = j := by omega
              rw [hgj]; exact ⟨h1, h2⟩)
          have HCo := Lib.hid hco
          have q1 : IntKind.i64.wrap ((j : Int) + 1) = (j : Int) + 1 := IntWalk.i64_in _ (by omega)
          clear hgj hu hco
          generalize u.toNat = y at *
          generalize accV l lv (j - 1) = a at *
          have HA := Lib.hid hacc
          clear hacc
          by_cases hy : y < 128
          · have t2 : (y : Int) < 128 := by omega
            have HE := Lib.hid (HCo.out (.inl hy))
            go_wp2_with fail
            go_ret
            exact ⟨show Ending.returned (.int .i64 (-1)) = _ from by rw [HE.out], Below.refl _ _⟩
          · have t2 : ¬ (y : Int) < 128 := by omega
            by_cases hy2 : 191 < y
            · have t3 : (191 : Int) < (y : Int) := by omega
              have HE := Lib.hid (HCo.out (.inr hy2))
              go_wp2_with fail
              go_ret
              exact ⟨show Ending.returned (.int .i64 (-1)) = _ from by rw [HE.out], Below.refl _ _⟩
            · have t3 : ¬ (191 : Int) < (y : Int) := by omega
              go_wp2_with fail
              go_round
              case rel => exact ⟨j + 1, by go_num, by omega, by omega, by rw [Nat.add_sub_cancel, HA.out]; congr 1; omega, Lib.hid (HN.out (by omega) (by omega))⟩
              case measure => simp [intOf]; omega
        · have hjz : j = z := by omega
          have hAll := HAll.out (by rw [Hl.out]; omega) Hz.out (by rw [← hjz]; exact HC.out)
          rw [← hjz] at hAll
          generalize accV l lv (j - 1) = v at *
          have hu4 := Lib.hid (utf_any v wc (by omega))
          have hul : 1 ≤ utfLen v ∧ utfLen v ≤ 4 := by unfold utfLen; (repeat' split) <;> omega
          generalize utfLen v = ul at *
          have HX := Lib.hid hAll
          clear hAll
          subst hjz
          clear HC HAll HCont HShort HLead HLow hj hz1 Hz
          go_wp2_with fail
          with_reducible refine hu4.out.mono ?_
          rintro e w5 ⟨⟨A5, c5, rfl⟩, hb5⟩
          have HB := Lib.hid hb5
          clear hb5 hu4
          by_cases h1 : ul = j
          · have g1 : ((ul : Int) != (j : Int)) = false := by simp; omega
            by_cases h2 : 55296 ≤ v
            · have g2 : (55296 : Int) ≤ (v : Int) := by omega
              by_cases h3 : v ≤ 57343
              · have g3 : (v : Int) ≤ 57343 := by omega
                have HE := Lib.hid (HX.out.2 (.inr (.inl ⟨h2, h3⟩)))
                clear h1 HX
                go_wp2_with fail
                go_ret
                exact ⟨show Ending.returned (.int .i64 (-1)) = _ from by rw [HE.out], HB.out⟩
              · have g3 : ¬ (v : Int) ≤ 57343 := by omega
                by_cases h4 : 1114111 < v
                · have g4 : (1114111 : Int) < (v : Int) := by omega
                  have HE := Lib.hid (HX.out.2 (.inr (.inr h4)))
                  clear h1 HX
                  go_wp2_with fail
                  go_ret
                  exact ⟨show Ending.returned (.int .i64 (-1)) = _ from by rw [HE.out], HB.out⟩
                · have g4 : ¬ (1114111 : Int) < (v : Int) := by omega
                  have HE := Lib.hid (HX.out.1 ⟨h1, fun h => h3 h.2, by omega⟩)
                  clear h1 HX
                  go_wp2_with fail
                  go_ret
                  exact ⟨show Ending.returned (.int .i64 (v : Int)) = _ from by rw [HE.out], HB.out⟩
            · have g2 : decide ((55296 : Int) ≤ (v : Int)) = false := by simp; omega
              have g4 : ¬ (1114111 : Int) < (v : Int) := by omega
              have HE := Lib.hid (HX.out.1 ⟨h1, fun h => h2 h.1, by omega⟩)
              clear h1 HX h2 hbd2
              go_wp2_with fail
              go_ret
              exact ⟨show Ending.returned (.int .i64 (v : Int)) = _ from by rw [HE.out], HB.out⟩
          · have g1 : ((ul : Int) != (j : Int)) = true := by simp; omega
            have HE := Lib.hid (HX.out.2 (.inl h1))
            clear h1 HX
            go_wp2_with fail
            go_ret
            exact ⟨show Ending.returned (.int .i64 (-1)) = _ from by rw [HE.out], HB.out⟩
end Go.Proofs.YtbdehlphblbmoaaDoor
