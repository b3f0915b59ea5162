/- AhoOrder, walked. -/
import Derived.Test.YthfpdiaobkccbaaAhoT
import Derived.Test.YthfpdiaobkccbaaAhoV
import Derived.Deep.RegionLaw
namespace Go.Proofs.Ythfpdiaobkccbaa
open Go.RowKit
attribute [local go_sem ↓] Go.wp_at_zero Go.wp_at_succ

/-- First, one place of it. -/
theorem first_at {W0 S0 g n j : Nat} {S ws : List (List UInt8)} {t : List UInt8} {y : Int} {w : World} (h : SC w W0 S0 g S ws t) (hn8 : ws.length ≤ 8) (hn : ws.length = n) (hy : (firsts ws t)[j]? = some y) :
    Calls Try.prog 13 #[.pointer (some ⟨S0, 0, none⟩)] w fun e w' => ∃ G C, e = .returned (.slice (some ⟨G, 0, none⟩) n C) ∧ (w'.cell? ⟨G, j, none⟩ = some (.int .i64 y) ∧ G < w'.heap.size) ∧ Below w.heap.size w w' := by
  refine (first_any W0 S0 g S ws t w h hn8).mono ?_
  rintro e w' ⟨v, rfl, ho, hb⟩
  have hj : j < ws.length := by
    have := (List.getElem?_eq_some_iff.1 hy).1
    rwa [firsts_len] at this
  obtain ⟨G, C, rfl, _, hG, _⟩ := own_pos ho (by omega)
  refine ⟨G, C, by rw [hn], ⟨?_, hG⟩, hb⟩
  obtain ⟨bb, o, u, e1, _, hu, hc⟩ := (Rd.of_own ho).num hj
  injection e1 with e1
  injection e1 with e1 e2
  subst e1 e2
  rw [hy] at hu
  injection hu with hu
  subst hu
  simpa using hc
set_option maxHeartbeats 16000000 in
set_option maxRecDepth 100000 in
theorem ahoOrder_walk (A : Option Addr) (n c : Nat) (ws : List (List UInt8)) (A2 : Option Addr) (n2 c2 : Nat) (b : List UInt8) (a : Int) (w : World) (hr : RdRows w w.heap.size A n ws) (hnc : n ≤ c) (hcm : c ≤ maxLen) (hr2 : Rd w w.heap.size 1 A2 n2 (bys b)) (_hnc2 : n2 ≤ c2) (_hcm2 : c2 ≤ maxLen) (ha : 0 ≤ a ∧ a ≤ 255) :
    Calls Try.prog 4 #[.slice A n c, .slice A2 n2 c2, .int .u8 a] w fun e w' => e = .returned (.bool true) ∧ Below w.heap.size w w' := by
  unfold maxLen at hcm
  obtain ⟨a, rfl⟩ : ∃ k : Nat, a = k := ⟨a.toNat, by omega⟩
  have Hl := Lib.hid hr.len
  have Hl2 := Lib.hid hr2.blen
  have Hr := Lib.hid hr
  have Hr2 := Lib.hid hr2
  clear hr hr2
  go_enter Try.func4, Try.ntmps4
  go_wp2_with fail
  refine (aho_wakes _).mono ?_
  rintro e w1 ⟨rfl, hb1⟩
  have hz1 := hb1.size
  have hlg := long_any A n c 100 ws w1 ((Hr.out.below hb1 (Nat.le_refl _)).more hz1) (by omega) (by omega)
  rcases Bool.eq_false_or_eq_true (longB ws 100) with hb | hb
  · rw [hb] at hlg
    have Hlg := Lib.hid hlg
    clear hlg hb
    go_wp2_with fail
    refine Hlg.out.mono ?_
    rintro e w2 ⟨rfl, rfl⟩
    go_wp2
    go_ret
    exact ⟨rfl, hb1⟩
  obtain ⟨hw40, hw100⟩ := longB_no hb
  rw [hb] at hlg
  have Hlg := Lib.hid hlg
  clear hlg hb hw100
  have hn40 : n ≤ 40 := by have := Hl.out; omega
  go_wp2_with fail
  refine Hlg.out.mono ?_
  rintro e w2 ⟨rfl, rfl⟩
  by_cases h300 : 300 < n2
  · go_wp2
    go_ret
    exact ⟨rfl, hb1⟩
  have hre := referr_any A n c ws w1 ((Hr.out.below hb1 (Nat.le_refl _)).more hz1) (by omega)
  by_cases he0 : ¬ errW ws = 0
  · have hne2 : (errW ws != 0) = true := by rw [bne_iff_ne]; exact he0
    have Hre := Lib.hid hre
    clear hre he0
    go_wp2_with fail
    refine Hre.out.mono ?_
    rintro e w3 ⟨rfl, rfl⟩
    go_wp2
    go_ret
    exact ⟨rfl, hb1⟩
  have he0 : errW ws = 0 := by omega
  rw [he0] at hre
  have Hre := Lib.hid hre
  have He0 := Lib.hid he0
  obtain ⟨hw8, hwp, hwne⟩ := errW_zero he0
  have Hwne := Lib.hid hwne
  have hn8 : n ≤ 8 := by have := Hl.out; omega
  have hnp : 0 < n := by have := Hl.out; omega
  clear hre Hlg he0 hwne
  go_wp2_with fail
  refine Hre.out.mono ?_
  rintro e w2 ⟨rfl, rfl⟩
  clear Hre
  have hn0 : ¬ (n : Int) = 0 := by omega
  go_wp2_with fail
  have hk0 : 0 ≤ (a : Int) % (n : Int) ∧ (a : Int) % (n : Int) < n := ⟨Int.emod_nonneg _ (by omega), Int.emod_lt_of_pos (a : Int) (show 0 < (n : Int) by omega)⟩
  generalize (a : Int) % (n : Int) = kk at *
  obtain ⟨k, rfl⟩ : ∃ k : Nat, kk = k := ⟨kk.toNat, by omega⟩
  have hkn : k < n := by omega
  clear hk0 ha
  have hr1 : RdRows w1 w.heap.size A n ws := Hr.out.below hb1 (Nat.le_refl _)
  have hR1 : ∀ W : World, W.heap = (w1.alloc (.cells #[] 23)).heap → RdRows W w.heap.size (Option.map (fun x => x.add k) A) (n - k) (ws.drop k) := fun W hW => by
    have h := (hr1.alloc hz1 (.cells #[] 23)).cut (k := k) (m := n - k) (by omega) (A' := Option.map (fun x => x.add k) A) (fun _ => rfl)
    rw [List.take_of_length_le (by rw [List.length_drop, Hl.out]; omega)] at h
    exact h.keep fun p _ => by simp only [World.cell?, hW]
  have hR2 : ∀ W : World, Below w1.heap.size w1 W → RdRows W w.heap.size A k (ws.take k) := fun W hW => by
    have h := (hr1.below hW hz1).cut (k := 0) (m := k) (by omega) (A' := A) (fun _ => by cases A <;> simp [Addr.add])
    rwa [List.drop_zero] at h
  have hO : ∀ W : World, W.heap = (w1.alloc (.cells #[] 23)).heap → OwR W w1.heap.size w.heap.size (.slice (some ⟨w1.heap.size, 0, none⟩) 0 0) 0 [] := fun W hW => by
    obtain ⟨vs, h1, h2, h3⟩ := OwR.lit0 w1 w.heap.size
    exact ⟨[], ⟨rfl, by rcases (own_lit0 w1 23).2 with h | ⟨g, cap, cur, e1, e2, e3, e4⟩; exact .inl h; exact .inr ⟨g, cap, cur, e1, e2, by rw [hW]; exact e3, e4⟩⟩, rfl, fun i u l hu => by cases hu⟩
  have hB : ∀ W : World, W.heap = (w1.alloc (.cells #[] 23)).heap → True := fun _ _ => trivial
  have HR1 := Lib.hid hR1
  have HR2 := Lib.hid hR2
  have HO := Lib.hid hO
  have hck : ¬ c = k := by omega
  have hck2 : ¬ k = c := by omega
  have k0 : (0 : Int) ≤ (k : Int) := by omega
  have k1 : (k : Int) ≤ (n : Int) := by omega
  have k2 : (k : Int) ≤ (c : Int) := by omega
  clear hr1 hR1 hR2 hO hB
  go_region_law (first
    | (refine ap_rows_step (w0 := w1) (v := .slice (some ⟨w1.heap.size, 0, none⟩) 0 0) (n := 0) (ls := []) (ms := ws.drop k) (A := Option.map (fun x => x.add k) A) (m := n - k) (B := w.heap.size) (base := w1.heap.size) (by exact HO.out _ rfl) (by exact HR1.out _ rfl) (by first | exact ((Below.refl _ _).alloc (Nat.le_refl _) _).drew | exact ((Below.refl _ _).alloc (Nat.le_refl _) _)) (by simp) hz1 (by omega) (by rfl) (by rfl) ?_; intro v7 w7 hown7 hb7 hg7 hv7)
    | (refine ap_rows_step (w0 := w1) (v := v7) (n := 0 + (n - k)) (ls := [] ++ ws.drop k) (ms := ws.take k) (A := A) (m := k) (B := w.heap.size) (base := w1.heap.size) hown7 (by exact HR2.out _ hb7) hb7 hb7.size hz1 (by omega) (by rfl) (by rfl) ?_; intro v8 w8 hown8 hb8 hg8 hv8))
  rw [show 0 + (n - k) + k = n by omega, List.nil_append] at hown8
  obtain ⟨A8, c8, rfl⟩ : ∃ A8 c8, v8 = .slice A8 n c8 := by obtain ⟨_, o8, _⟩ := hown8; obtain ⟨A8, c8, e, _, _⟩ := own_form o8; exact ⟨A8, c8, e⟩
  have hz8 := hb8.size
  have hbw8 : Below w.heap.size w w8 := hb1.trans (hb8.mono hz1)
  have hrot := hown8.rows (by omega)
  have hnw := new_any A n c ws w8 ((Hr.out.below hbw8 (Nat.le_refl _)).more (by omega)) (by omega)
  have Hnw := Lib.hid hnw
  have Hrot := Lib.hid hrot
  have Hb8 := Lib.hid hbw8
  have hzw8 : w.heap.size ≤ w8.heap.size := by omega
  clear HO HR1 HR2 hown7 hb7 hg7 hv7 hown8 hb8 hg8 hv8 hnw hrot hbw8 hck hck2 k0 k1 k2 hz8 hb1 hz1
  go_wp2_with fail
  refine Hnw.out.mono ?_
  rintro e w9 ⟨hN, hb9⟩
  have hz9 := hb9.size
  rcases hN with ⟨hne, _⟩ | ⟨_, W0, rfl, T, hA, hF⟩
  · exact absurd He0.out hne
  have hnw := new_any A8 n c8 (ws.drop k ++ ws.take k) w9 ((Hrot.out.below hb9 (Nat.le_refl _)).more hz9) (by omega)
  have Hnw := Lib.hid hnw
  have HA := Lib.hid hA
  have HF := Lib.hid hF
  have Hb9 := Lib.hid (Hb8.out.trans (hb9.mono hzw8))
  clear hnw hA hF hb9 Hb8
  go_wp2_with fail
  refine Hnw.out.mono ?_
  rintro e w10 ⟨hN, hb10⟩
  have hz10 := hb10.size
  rcases hN with ⟨hne, _⟩ | ⟨_, W1, rfl, T1, hA1, hF1⟩
  · exact absurd (by rw [errW_rot]; exact He0.out) hne
  have hA := HA.out.below hb10
  have hlr : (ws.drop k ++ ws.take k).length = ws.length := by rw [List.length_append, Nat.add_comm, ← List.length_append, List.take_append_drop]
  have hner : ∀ x ∈ ws.drop k ++ ws.take k, x ≠ [] := fun x hx => by
    rcases List.mem_append.1 hx with h | h
    · exact Hwne.out x (List.mem_of_mem_drop h)
    · exact Hwne.out x (List.mem_of_mem_take h)
  have hsc := scan_so _ W0 T ws w10 hA HF.out Hwne.out hw8
  have Hsc := Lib.hid hsc
  have HA1 := Lib.hid hA1
  have HF1 := Lib.hid hF1
  have Hlr := Lib.hid hlr
  have Hner := Lib.hid hner
  have Hb10 := Lib.hid (Hb9.out.trans (hb10.mono (by omega)))
  clear hsc hA1 hF1 hlr hner hb10 hA Hb9 HA Hnw
  go_wp2_with fail
  refine Hsc.out.mono ?_
  rintro e w11 ⟨S0, g0, rfl, hA11, hs11, hb11⟩
  have hz11 := hb11.size
  have hB11 := HA1.out.below hb11
  have hsc := scan_so _ W1 T1 (ws.drop k ++ ws.take k) w11 hB11 HF1.out Hner.out (by rw [Hlr.out]; exact hw8)
  have Hsc := Lib.hid hsc
  have HA11 := Lib.hid hA11
  have Hs11 := Lib.hid hs11
  have Hb11 := Lib.hid (Hb10.out.trans (hb11.mono (by omega)))
  have Hb1a := Lib.hid hb11
  clear hsc hB11 hA11 hs11 hb11 Hb10
  go_wp2_with fail
  refine Hsc.out.mono ?_
  rintro e w12 ⟨S1, g1, rfl, hB12, hs12, hb12⟩
  have hz12 := hb12.size
  have hA12 := HA11.out.below hb12
  have Hs0 := Lib.hid (Hs11.out.below hb12)
  have hbw12 := Hb11.out.trans (hb12.mono (by omega))
  have hc0v : ∀ (ls : List (List UInt8)) (l : List UInt8), (∀ x ∈ ls, x ≠ []) → ((cntF (firsts ls ([] ++ l)) : Int) - (cntF (firsts ls []) : Int)) = (cntF (firsts ls l) : Int) := fun ls l h => by rw [firsts_nil h, cntF_neg]; simp
  have Hc0v := Lib.hid hc0v
  have Hb1b := Lib.hid (Hb1a.out.trans (hb12.mono hz11))
  have hpt := Calls.mono (put_so c2 hA12 HF.out Hs0.out (Hr2.out.below hbw12 (Nat.le_refl _)) (by omega) (by omega) (by omega) (by simp) hw8) (fun e w' h => (⟨h.1.trans (ret_int (Hc0v.out ws b Hwne.out)), h.2.2⟩ : _ ∧ _))
  simp only [List.nil_append] at hpt
  have Hpt := Lib.hid hpt
  have HB12 := Lib.hid hB12
  have Hs12 := Lib.hid hs12
  have Hb12 := Lib.hid hbw12
  clear hpt hA12 hB12 hs12 hb12 hbw12 hc0v HA11 Hs11 Hb11
  go_wp2_with fail
  refine Hpt.out.mono ?_
  rintro e w13 ⟨rfl, hs13, hc13⟩
  have hz13 := hc13.size
  have hb1c : Below w10.heap.size w10 w13 := Hb1b.out.trans (hc13.below (by omega) (fun i hi => hi.1))
  have hB13 := HA1.out.frame (fun k _ hk => hb1c.block k hk)
  have hbw13 := Hb12.out.trans (hc13.below (B := w.heap.size) (by omega) (fun i hi => by omega))
  have hs1 : SO w13 w11.heap.size w12.heap.size W1 S1 g1 T1 (ws.drop k ++ ws.take k) [] := Hs12.out.apart hc13 (by omega)
  have hpt := Calls.mono (put_so c2 hB13 HF1.out hs1 (Hr2.out.below hbw13 (Nat.le_refl _)) (by omega) (by omega) (by omega) (by simp) (by rw [Hlr.out]; exact hw8)) (fun e w' h => (⟨h.1.trans (ret_int ((Hc0v.out _ b Hner.out).trans (by rw [cntF_rot]))), h.2.2⟩ : _ ∧ _))
  simp only [List.nil_append] at hpt
  have Hpt := Lib.hid hpt
  have Hs13 := Lib.hid hs13
  have Hb13 := Lib.hid hbw13
  clear hpt hs13 hbw13 hs1 hB13 hb1c hc13 Hb1b Hb1a Hb12 HB12 Hs12 HA1 Hs0
  go_wp2_with fail
  refine Hpt.out.mono ?_
  rintro e w14 ⟨rfl, hs14, hc14⟩
  have hz14 := hc14.size
  have Hs0 := Lib.hid (Hs13.out.apart hc14 (by omega))
  have Hs1 := Lib.hid hs14
  have Hb14 := Lib.hid (Hb13.out.trans (hc14.below (B := w.heap.size) (by omega) (fun i hi => by omega)))
  have hbq : ((cntF (firsts ws b) : Int) != (cntF (firsts ws b) : Int)) = false := by simp
  clear hs14 hc14 Hpt Hb13 Hs13
  go_wp2_with fail
  clear hbq
  go_loopw [73] (fun i wr => ∃ (j : Nat), i = .int .i64 j ∧ j ≤ n ∧ Hid (Below w14.heap.size w14 wr)) (fun i _ => n - (intOf i).toNat)
  case atStart => exact ⟨0, rfl, Nat.zero_le _, Below.refl _ _⟩
  case round =>
    obtain ⟨j, rfl, hj, hbl⟩ := hrel
    have hzl := hbl.out.size
    by_cases hlt : j < n
    · have hjn : j < ws.length := by have := Hl.out; omega
      obtain ⟨y, hy⟩ : ∃ y, (firsts ws b)[j]? = some y := ⟨_, List.getElem?_eq_getElem (by rw [firsts_len]; exact hjn)⟩
      have hy2 := firsts_rot ws k j b (by have := Hl.out; omega) hjn
      rw [hy, Hl.out] at hy2
      have hrl : (j + n - k) % n < n := Nat.mod_lt _ (by omega)
      have hrm : ((j : Int) + (n : Int) - (k : Int)).tmod (n : Int) = (((j + n - k) % n : Nat) : Int) := by
        rw [show (j : Int) + (n : Int) - (k : Int) = ((j + n - k : Nat) : Int) by omega]; rfl
      generalize (j + n - k) % n = r at *
      have f1 := first_at (j := j) (y := y) (n := n) (w := wr.drew) ((Hs0.out.below hbl.out).sc.heap rfl rfl) hw8 Hl.out hy
      have f2 := fun (W : World) (hW : Below wr.drew.heap.size wr.drew W) => first_at (j := r) (y := y) (n := n) (w := W) ((Hs1.out.below (hbl.out.trans ((show Below wr.heap.size wr W from ⟨hW.os, hW.tape, hW.output, hW.size, hW.block⟩).mono hzl))).sc) (by rw [Hlr.out]; exact hw8) (by rw [Hlr.out]; exact Hl.out) hy2
      have F1 := Lib.hid f1
      have F2 := Lib.hid f2
      have hr0 : (0 : Int) ≤ (r : Int) := by omega
      have hr1 : (r : Int) < (n : Int) := by omega
      have hj0 : (0 : Int) ≤ (j : Int) := by omega
      have hj1 : (j : Int) < (n : Int) := by omega
      have e1 : IntKind.i64.wrap ((j : Int) + (n : Int)) = (j : Int) + (n : Int) := IntWalk.i64_in _ (by omega)
      have e2 : IntKind.i64.wrap ((j : Int) + (n : Int) - (k : Int)) = (j : Int) + (n : Int) - (k : Int) := IntWalk.i64_in _ (by omega)
      have hn0 : ¬ (n : Int) = 0 := by omega
      clear f1 f2 hy hy2
      go_wp2_with fail
      go_region_with (first
        | (go_at_call 13; (with_reducible refine F1.out.mono ?_); rintro e w15 ⟨G1, C1, rfl, ⟨hc15, hg15⟩, hb15⟩)
        | (go_at_call 13; (with_reducible refine (F2.out w15 hb15).mono ?_); rintro e w16 ⟨G2, C2, rfl, ⟨hc16, hg16⟩, hb16⟩; have hc15b := (hb16.cell (p := ⟨G1, j, none⟩) hg15).trans hc15))
      all_goals
        have hbn : Below w14.heap.size w14 w16 := hbl.out.drew.trans ((hb15.trans (hb16.mono hb15.size)).mono hzl)
        have Hbn := Lib.hid hbn
        clear hb15 hb16 hbn F1 F2 hrm e1 e2 hc15 hc16 hc15b hbl
        go_wp2_with fail
        go_roundw
        case rel => exact ⟨j + 1, by go_num, by omega, Hbn⟩
        case measure => simp [intOf]; omega
    · go_wp2
      go_ret
      exact ⟨rfl, Hb14.out.trans (hbl.out.mono Hb14.out.size)⟩
end Go.Proofs.Ythfpdiaobkccbaa
