/- AhoSame, walked. -/
import Derived.Test.YthfpdiaobkccbaaAhoS2
import Derived.Deep.Cut
namespace Go.Proofs.Ythfpdiaobkccbaa
open Go.RowKit
attribute [local go_sem ↓] Go.wp_at_zero Go.wp_at_succ

theorem errW_zero {ws : List (List UInt8)} (he0 : errW ws = 0) : ws.length ≤ 8 ∧ 0 < ws.length ∧ ∀ x ∈ ws, x ≠ [] := by
  have h1 : ¬ (ws.length = 0 ∨ 8 < ws.length) := by
    intro h; unfold errW at he0; rw [if_pos h] at he0; cases he0
  refine ⟨by omega, by omega, fun x hx e => ?_⟩
  unfold errW at he0
  rw [if_neg h1] at he0
  split at he0
  · cases he0
  · unfold empW at he0
    split at he0
    · cases he0
    · rename_i h3
      exact h3 (List.any_eq_true.2 ⟨x, hx, by rw [e]; rfl⟩)
set_option maxHeartbeats 16000000 in
set_option maxRecDepth 100000 in
theorem ahoSame_walk (A : Option Addr) (n c : Nat) (ws : List (List UInt8)) (A2 : Option Addr) (n2 c2 : Nat) (b : List UInt8) (a : Int) (w : World) (hr : RdRows w w.heap.size A n ws) (_hnc : n ≤ c) (hcm : c ≤ maxLen) (hr2 : Rd w w.heap.size 1 A2 n2 (bys b)) (_hnc2 : n2 ≤ c2) (_hcm2 : c2 ≤ maxLen) (ha : 0 ≤ a ∧ a ≤ 65535) :
    Calls Try.prog 5 #[.slice A n c, .slice A2 n2 c2, .int .u16 a] w fun e w' => e = .returned (.bool true) ∧ Below w.heap.size w w' := by
  unfold maxLen at hcm
  obtain ⟨a, rfl⟩ : ∃ k : Nat, a = k := ⟨a.toNat, by omega⟩
  have Hl := Lib.hid hr.len
  have Hl2 := Lib.hid hr2.blen
  have Hr := Lib.hid hr
  have Hr2 := Lib.hid hr2
  clear hr hr2
  go_enter Try.func5, Try.ntmps5
  go_wp2_with fail
  refine (aho_wakes _).mono ?_
  rintro e w1 ⟨rfl, hb1⟩
  have hz1 := hb1.size
  have hlg := long_any A n c 100 ws w1 ((Hr.out.below hb1 (Nat.le_refl _)).more hz1) (by omega) (by omega)
  rcases Bool.eq_false_or_eq_true (longB ws 100) with hb | hb
  · rw [hb] at hlg
    have Hlg := Lib.hid hlg
    clear hlg hb
    go_wp2_with fail
    refine Hlg.out.mono ?_
    rintro e w2 ⟨rfl, rfl⟩
    go_wp2
    go_ret
    exact ⟨rfl, hb1⟩
  obtain ⟨hw40, hw100⟩ := longB_no hb
  rw [hb] at hlg
  have Hlg := Lib.hid hlg
  clear hlg hb hw100
  have hn40 : n ≤ 40 := by have := Hl.out; omega
  go_wp2_with fail
  refine Hlg.out.mono ?_
  rintro e w2 ⟨rfl, rfl⟩
  by_cases h300 : 300 < n2
  · go_wp2
    go_ret
    exact ⟨rfl, hb1⟩
  have hre := referr_any A n c ws w1 ((Hr.out.below hb1 (Nat.le_refl _)).more hz1) (by omega)
  by_cases he0 : ¬ errW ws = 0
  · have hne2 : (errW ws != 0) = true := by rw [bne_iff_ne]; exact he0
    have Hre := Lib.hid hre
    clear hre he0
    go_wp2_with fail
    refine Hre.out.mono ?_
    rintro e w3 ⟨rfl, rfl⟩
    go_wp2
    go_ret
    exact ⟨rfl, hb1⟩
  have he0 : errW ws = 0 := by omega
  rw [he0] at hre
  have Hre := Lib.hid hre
  have hnw := new_any A n c ws w1 ((Hr.out.below hb1 (Nat.le_refl _)).more hz1) (by omega)
  have Hnw := Lib.hid hnw
  have He0 := Lib.hid he0
  obtain ⟨hw8, hwp, hwne⟩ := errW_zero he0
  have Hwne := Lib.hid hwne
  clear hre hnw Hlg he0 hwne
  go_wp2_with fail
  refine Hre.out.mono ?_
  rintro e w2 ⟨rfl, rfl⟩
  clear Hre
  go_wp2_with fail
  refine Hnw.out.mono ?_
  rintro e w2 ⟨hN, hb2⟩
  have hb2' := hb1.trans (hb2.mono hz1)
  have hz2 := hb2'.size
  rcases hN with ⟨hne, _⟩ | ⟨_, W0, rfl, T, hA, hF⟩
  · exact absurd He0.out hne
  have hsc := scan_so _ W0 T ws w2 hA hF Hwne.out hw8
  have Hsc := Lib.hid hsc
  have HF := Lib.hid hF
  have Hb2 := Lib.hid hb2'
  clear Hnw He0 hb2 hsc hA hF hb2' hb1 hz1
  go_wp2_with fail
  refine Hsc.out.mono ?_
  rintro e w3 ⟨S0, g0, rfl, hA3, hs0, hb3⟩
  have hz3 := hb3.size
  have Hb3 := Lib.hid (Hb2.out.trans (hb3.mono hz2))
  have hsc := scan_so _ W0 T ws w3 hA3 HF.out Hwne.out hw8
  have Hsc := Lib.hid hsc
  have Hs0 := Lib.hid hs0
  clear hsc hs0 hA3 hb3 Hb2
  go_wp2_with fail
  refine Hsc.out.mono ?_
  rintro e w4 ⟨S1, g1, rfl, hA4, hs1, hb4⟩
  have hz4 := hb4.size
  have Hb4 := Lib.hid (Hb3.out.trans (hb4.mono (by omega)))
  have hsc := scan_so _ W0 T ws w4 hA4 HF.out Hwne.out hw8
  have Hsc := Lib.hid hsc
  have Hs0 := Lib.hid (Hs0.out.below hb4)
  have Hs1 := Lib.hid hs1
  clear hsc hs1 hA4 hb4 Hb3
  go_wp2_with fail
  refine Hsc.out.mono ?_
  rintro e w5 ⟨S2, g2, rfl, hA5, hs2, hb5⟩
  have hz5 := hb5.size
  have Hb5 := Lib.hid (Hb4.out.trans (hb5.mono (by omega)))
  have Hs0 := Lib.hid (Hs0.out.below hb5)
  have Hs1 := Lib.hid (Hs1.out.below hb5)
  have Hs2 := Lib.hid hs2
  have hpt := put_so c2 hA5 HF.out Hs0.out (Hr2.out.below Hb5.out (Nat.le_refl _)) hz2 (by omega) (by omega) (by simp) hw8
  have hc0 : cntF (firsts ws []) = 0 := by rw [firsts_nil Hwne.out, cntF_neg]
  have hc0v : ∀ l : List UInt8, ((cntF (firsts ws ([] ++ l)) : Int) - (cntF (firsts ws []) : Int)) = (cntF (firsts ws l) : Int) := fun l => by rw [hc0]; simp
  have Hc0v := Lib.hid hc0v
  rw [hc0v] at hpt
  simp only [List.nil_append] at hpt
  have Hpt := Lib.hid hpt
  clear hs2 hpt hA5 hb5 hc0 hc0v Hb4 Hsc
  go_wp2_with fail
  refine Hpt.out.mono ?_
  rintro e w6 ⟨rfl, hA6, hs6, hc6⟩
  have hz6 := hc6.size
  have Hb6 := Lib.hid (Hb5.out.trans (hc6.below (B := w.heap.size) (by omega) (fun i hi => by omega)))
  have Hs0 := Lib.hid hs6
  have Hs1 := Lib.hid (Hs1.out.apart hc6 (by omega))
  have Hs2 := Lib.hid (Hs2.out.apart hc6 (by omega))
  have HA6 := Lib.hid hA6
  clear hs6 hA6 hc6 Hpt Hb5
  have hk0 : 0 ≤ (a : Int) % ((n2 : Int) + 1) ∧ (a : Int) % ((n2 : Int) + 1) ≤ n2 := ⟨Int.emod_nonneg _ (by omega), by have := Int.emod_lt_of_pos (a : Int) (show 0 < (n2 : Int) + 1 by omega); omega⟩
  generalize (a : Int) % ((n2 : Int) + 1) = kk at *
  obtain ⟨k, rfl⟩ : ∃ k : Nat, kk = k := ⟨kk.toNat, by omega⟩
  have hkn : k ≤ n2 := by omega
  clear hk0 ha
  go_wp2_with fail
  have hr6 : Rd w6 w.heap.size 1 A2 n2 (bys b) := Hr2.out.below Hb6.out (Nat.le_refl _)
  have hra : Rd w6 w.heap.size 1 A2 k (bys (b.take k)) := by
    have := hr6.bcut (k := 0) (m := k) (by omega) (A' := A2) (fun _ => by cases A2 <;> simp [Addr.add])
    rwa [List.drop_zero] at this
  have hrb : ∀ A', (0 < n2 - k → A' = A2.map (·.add k)) → Rd w6 w.heap.size 1 A' (n2 - k) (bys (b.drop k)) := fun A' hA' => by
    have := hr6.bcut (k := k) (m := n2 - k) (by omega) (A' := A') hA'
    rwa [List.take_of_length_le (by rw [List.length_drop, Hl2.out]; omega)] at this
  have hp1 := fun (c' : Nat) => Calls.mono (put_so (w := w6.drew) c' (HA6.out.frame (fun k _ _ => rfl)) HF.out (Hs1.out.heap (fun k _ _ => rfl)) (Rd.drew hra) (by omega) (by show w.heap.size ≤ w6.heap.size; omega) (by omega) (by simp) hw8) (fun e w' h => (⟨h.1.trans (ret_int (Hc0v.out (b.take k))), h.2⟩ : _ ∧ _))
  simp only [List.nil_append] at hp1
  have hp2 := fun (W' : World) (hA : AT W' w1.heap.size W0 (ws.length : Int) T) (hs : SO W' w3.heap.size w4.heap.size W0 S1 g1 T ws (b.take k)) (hc : Ch (fun i => w3.heap.size ≤ i ∧ i < w4.heap.size) w6.drew W') (A' : Option Addr) (m c' : Nat) (hm : m = n2 - k) (hA' : 0 < n2 - k → A' = A2.map (·.add k)) =>
    put_so (w := W') c' hA HF.out hs ((Rd.drew (hrb A' hA')).ch hc (by show w.heap.size ≤ w6.heap.size; omega) (fun i hi => by omega)) (by omega) (by have h0 := hc.size; have h1 : w6.drew.heap.size = w6.heap.size := rfl; omega) (by omega) (by rw [List.length_take]; omega) hw8
  simp only [List.take_append_drop] at hp2
  have hM := cnt_le (firsts ws (b.take k))
  have hN := cnt_le (firsts ws b)
  rw [firsts_len] at hM hN
  have hsum : IntKind.i64.wrap ((cntF (firsts ws (b.take k)) : Int) + ((cntF (firsts ws b) : Int) - (cntF (firsts ws (b.take k)) : Int))) = (cntF (firsts ws b) : Int) := by rw [IntWalk.i64_in _ (by omega)]; omega
  have Hp1 := Lib.hid hp1
  have Hp2 := Lib.hid hp2
  have k0 : (0 : Int) ≤ (k : Int) := by omega
  have k1 : (k : Int) ≤ (c2 : Int) := by omega
  have k2 : (k : Int) ≤ (n2 : Int) := by omega
  clear hp1 hp2 hr6 hra hrb hM hN
  have hkn2 : c2 = k → n2 - k = 0 := by omega
  have Hz := Lib.hid (show w.heap.size ≤ w3.heap.size ∧ w3.heap.size ≤ w4.heap.size ∧ w4.heap.size ≤ w5.heap.size ∧ w5.heap.size ≤ w6.heap.size by omega)
  obtain ⟨A3, hA3⟩ : ∃ A3, (if c2 = k then A2 else Option.map (fun x => x.add k) A2) = A3 := ⟨_, rfl⟩
  have hA3' : 0 < n2 - k → A3 = A2.map (·.add k) := fun h => by rw [← hA3, if_neg (by omega)]
  have HA3 := Lib.hid hA3'
  clear hA3'
  go_region_with (first
    | (go_at_call 12; (with_reducible refine (Hp1.out c2).mono ?_); rintro e w7 ⟨rfl, hA7, hs7, hc7⟩)
    | (go_at_call 12; (with_reducible refine (Hp2.out w7 hA7 hs7 hc7 _ _ _ rfl HA3.out).mono ?_); rintro e w8 ⟨rfl, hA8, hs8, hc8⟩))
  all_goals
    have hcc : Ch (fun i => w3.heap.size ≤ i ∧ i < w4.heap.size) w6.drew w8 := hc7.trans hc8 (fun i hi => .inl hi)
    have hs0 : SO w8 w2.heap.size w3.heap.size W0 S0 g0 T ws b := (Hs0.out.drewN 1).apart hcc (by omega)
    have hs2 : SO w8 w4.heap.size w5.heap.size W0 S2 g2 T ws [] := (Hs2.out.drewN 1).apart hcc (by omega)
    have hbw : Below w.heap.size w w8 := Hb6.out.drew.trans (hcc.below (by have := Hz.out; show _ ≤ w6.heap.size; omega) (fun i hi => by have := Hz.out; omega))
    have Hs := Lib.hid (show AT w8 w1.heap.size W0 (ws.length : Int) T ∧ SO w8 w2.heap.size w3.heap.size W0 S0 g0 T ws b ∧ SO w8 w3.heap.size w4.heap.size W0 S1 g1 T ws b ∧ SO w8 w4.heap.size w5.heap.size W0 S2 g2 T ws [] ∧ Below w.heap.size w w8 ∧ w6.heap.size ≤ w8.heap.size from ⟨hA8, hs0, hs8, hs2, hbw, hcc.size⟩)
    clear hcc hs0 hs2 hbw hA8 hs8 hc8 hA7 hs7 hc7 Hs0 Hs1 Hs2 HA6 Hp1 Hp2 Hb6 k0 k1 k2 hsum hkn2 hA3 HA3
    have hz12 := hz2
    clear hz2 hz3 hz4 hz5 hz6
    have Hc0 := Lib.hid (show (0 : Int) = (cntF (firsts ws (b.take 0)) : Int) by rw [List.take_zero, firsts_nil Hwne.out, cntF_neg]; rfl)
    go_wp2_with fail
    go_loopw [15, 66] (fun o i wr => ∃ (j : Nat) (x : Int), o = .int .i64 x ∧ i = .int .i64 j ∧ j ≤ n2 ∧ Hid (x = (cntF (firsts ws (b.take j)) : Int)) ∧ Hid (AT wr w1.heap.size W0 (ws.length : Int) T ∧ SO wr w2.heap.size w3.heap.size W0 S0 g0 T ws b ∧ SO wr w3.heap.size w4.heap.size W0 S1 g1 T ws b ∧ SO wr w4.heap.size w5.heap.size W0 S2 g2 T ws (b.take j) ∧ Below w.heap.size w wr ∧ w6.heap.size ≤ wr.heap.size)) (fun _ i _ => n2 - (intOf i).toNat)
    case atStart => exact ⟨0, 0, rfl, rfl, Nat.zero_le _, Lib.hid Hc0.out, Lib.hid (by rw [List.take_zero]; exact Hs.out)⟩
    case round =>
      obtain ⟨j, x, rfl, rfl, hj, hx, hs⟩ := hrel
      clear Hs Hc0
      by_cases hlt : j < n2
      · obtain ⟨h1, h2, h3, h4, h5, h6⟩ := hs.out
        obtain ⟨bb, o, u, rfl, hbB, hu, hcu⟩ := Hr2.out.byte hlt
        have hbt := take_step hu
        have hrd : Rd w w.heap.size 1 (some ⟨bb, o + j, none⟩) 1 (bys [u]) := by
          have := Hr2.out.bcut (k := j) (m := 1) (by omega) (A' := some ⟨bb, o + j, none⟩) (fun _ => by rw [Option.map_some, addLit])
          rwa [show (b.drop j).take 1 = [u] from by rw [List.take_one, List.head?_drop, hu]; rfl] at this
        have hp3 := fun (c' : Nat) => put_so (w := wr) c' h1 HF.out h4 (hrd.below h5 (Nat.le_refl _)) (by have := Hz.out; have := hz12; omega) h5.size (by omega) (by rw [List.length_take]; omega) hw8
        rw [← hbt] at hp3
        have Hp3 := Lib.hid hp3
        have hxo := hx.out
        subst hxo
        have hM := cnt_le (firsts ws (b.take j))
        have hN := cnt_le (firsts ws (b.take (j + 1)))
        rw [firsts_len] at hM hN
        clear hp3 hbt hrd hu hcu h1 h2 h3 h4 h5 h6 hx
        go_wp2_with fail
        refine (Hp3.out _).mono ?_
        rintro e w9 ⟨rfl, hA9, hs9, hc9⟩
        obtain ⟨h1, h2, h3, h4, h5, h6⟩ := hs.out
        have hnx := Lib.hid (show AT w9 w1.heap.size W0 (ws.length : Int) T ∧ SO w9 w2.heap.size w3.heap.size W0 S0 g0 T ws b ∧ SO w9 w3.heap.size w4.heap.size W0 S1 g1 T ws b ∧ SO w9 w4.heap.size w5.heap.size W0 S2 g2 T ws (b.take (j + 1)) ∧ Below w.heap.size w w9 ∧ w6.heap.size ≤ w9.heap.size from
          ⟨hA9, h2.apart hc9 (by have := Hz.out; omega), h3.apart hc9 (by have := Hz.out; omega), hs9, h5.trans (hc9.below h5.size (fun i hi => by have := Hz.out; omega)), by have := hc9.size; omega⟩)
        clear h1 h2 h3 h4 h5 h6 hA9 hs9 hc9 hs Hp3
        go_wp2_with fail
        go_roundw
        case rel => exact ⟨j + 1, _, rfl, by go_num, by omega, Lib.hid (by omega), hnx⟩
        case measure => simp [intOf]; omega
      · obtain rfl : n2 = j := by omega
        have htk : b.take n2 = b := List.take_of_length_le (by rw [Hl2.out]; omega)
        rw [htk] at hx hs
        have hxo := hx.out
        subst hxo
        clear htk hx
        obtain ⟨h1, h2, h3, h4, h5, h6⟩ := hs.out
        have hf1 := first_any W0 S0 g0 T.S ws b wr h2.sc hw8
        have Hf1 := Lib.hid hf1
        have Hw := Lib.hid h5
        have Hs1 := Lib.hid h3
        have Hs2 := Lib.hid h4
        have Hs0 := Lib.hid h2
        clear hf1 h1 h2 h3 h4 h5 h6 hs
        go_wp2_with fail
        refine Hf1.out.mono ?_
        rintro e w9 ⟨v9, rfl, hv9, hb9⟩
        obtain ⟨A9, c9, rfl, _, _⟩ := own_form hv9
        have hz9 := hb9.size
        have hf2 := first_any W0 S1 g1 T.S ws b w9 (Hs1.out.sc.below hb9) hw8
        have Hf2 := Lib.hid hf2
        have Hv9 := Lib.hid hv9
        have Hb9 := Lib.hid hb9
        clear hf2 hv9 hb9 Hf1
        go_wp2_with fail
        refine Hf2.out.mono ?_
        rintro e wA ⟨vA, rfl, hvA, hbA⟩
        obtain ⟨AA, cA, rfl, _, _⟩ := own_form hvA
        have hzA := hbA.size
        have hin := ints_eq (c := c9) (d := cA) (Rd.of_own (own_below Hv9.out hbA (Nat.le_refl _))) (Rd.of_own hvA) (by omega) (by omega) rfl
        have Hin := Lib.hid hin
        have HbA := Lib.hid (Hb9.out.trans (hbA.mono hz9))
        clear hin hvA hbA Hf2 Hv9 Hb9
        go_wp2_with fail
        refine Hin.out.mono ?_
        rintro e wB ⟨rfl, qB, rfl⟩
        have hbwA : Below wr.heap.size wr (wA.drewN qB) := below_drewN HbA.out qB
        have hzB := hbwA.size
        have hf3 := first_any W0 S0 g0 T.S ws b (wA.drewN qB) (Hs0.out.sc.below hbwA) hw8
        have Hf3 := Lib.hid hf3
        have HbB := Lib.hid hbwA
        clear hf3 hbwA HbA Hin
        go_wp2_with fail
        refine Hf3.out.mono ?_
        rintro e wC ⟨vC, rfl, hvC, hbC⟩
        obtain ⟨AC, cC, rfl, _, _⟩ := own_form hvC
        have hzC := hbC.size
        have hbwC := HbB.out.trans (hbC.mono hzB)
        have hf4 := first_any W0 S2 g2 T.S ws b wC (Hs2.out.sc.below hbwC) hw8
        have Hf4 := Lib.hid hf4
        have HvC := Lib.hid hvC
        have HbC := Lib.hid hbwC
        clear hf4 hvC hbC hbwC Hf3 HbB
        go_wp2_with fail
        refine Hf4.out.mono ?_
        rintro e wD ⟨vD, rfl, hvD, hbD⟩
        obtain ⟨AD, cD, rfl, _, _⟩ := own_form hvD
        have hzD := hbD.size
        have hin := ints_eq (c := cC) (d := cD) (Rd.of_own (own_below HvC.out hbD (Nat.le_refl _))) (Rd.of_own hvD) (by omega) (by omega) rfl
        have Hin := Lib.hid hin
        have hcz := HbC.out.size
        have HbD := Lib.hid (HbC.out.trans (hbD.mono hcz))
        clear hin hvD hbD Hf4 HvC HbC
        go_wp2_with fail
        refine Hin.out.mono ?_
        rintro e wE ⟨rfl, qE, rfl⟩
        go_wp2
        go_ret
        exact ⟨rfl, below_drewN (Hw.out.trans (HbD.out.mono Hw.out.size)) _⟩
end Go.Proofs.Ythfpdiaobkccbaa
