/- The walk of BitsBack. -/
import Derived.Test.YtnedboomhbdecaaBit5
namespace Go.Proofs.Ytnedboomhbdecaa
open Go.RowKit

set_option maxHeartbeats 1000000 in
theorem bitsBack_walk (A1 : Option Addr) (n1 c1 : Nat) (l1 : List UInt8) (A2 : Option Addr) (n2 c2 : Nat) (l2 : List UInt8) (w : World)
    (hr1 : Rd w w.heap.size 1 A1 n1 (bys l1)) (hnc1 : n1 ≤ c1) (_hcm1 : c1 ≤ maxLen) (hr2 : Rd w w.heap.size 1 A2 n2 (bys l2)) (hnc2 : n2 ≤ c2) (_hcm2 : c2 ≤ maxLen) :
    Calls Try.prog 7 #[.slice A1 n1 c1, .slice A2 n2 c2] w fun e w' => e = .returned (.bool true) ∧ Below w.heap.size w w' := by
  have hcm1 := _hcm1
  have hcm2 := _hcm2
  unfold maxLen at hcm1 hcm2
  clear _hcm1 _hcm2
  by_cases h1 : 200 < n1
  · go_enter Try.func7, Try.ntmps7
    go_wp2_with fail
    refine (bitwakes_any w).mono ?_
    rintro e w1 ⟨rfl, hb1⟩
    go_wp2
    go_ret
    exact ⟨rfl, hb1⟩
  by_cases h2 : 50 < n2
  · go_enter Try.func7, Try.ntmps7
    go_wp2_with fail
    refine (bitwakes_any w).mono ?_
    rintro e w1 ⟨rfl, hb1⟩
    go_wp2
    go_ret
    exact ⟨rfl, hb1⟩
  have hl1 := hr1.blen
  have Hl1 := Lib.hid hl1
  clear hl1
  go_enter Try.func7, Try.ntmps7
  go_wp2_with fail
  refine (bitwakes_any w).mono ?_
  rintro e w1 ⟨rfl, hb1⟩
  go_wp2_with fail
  refine (rread_any _ 1 1 [l1] _ ((RdRows.one w1 _ (RdB.mk ((hr1.below hb1 (Nat.le_refl _)).more hb1.size) hnc1) (Nat.le_refl _)).more (by simp)) (by omega) (by have := Hl1.out; simp; omega)).mono ?_
  rintro e w2 ⟨rfl, S0, hrd0, hS0, hb2⟩
  have hb3 := below_new hb1 (by simpa using hb2)
  simp only [List.flatten_cons, List.flatten_nil, List.append_nil] at hrd0
  have hS0' : ∀ k, S0 k → w.heap.size ≤ k := fun k hk => Nat.le_trans hb1.size (Nat.le_trans (by simp) (hS0 k hk))
  clear hS0 hb2
  generalize (w1.alloc (.cells #[.slice A1 n1 c1] 28)).heap.size = g at *
  go_wp2_with fail
  go_loopw [29] (fun i wr => ∃ j : Nat, j ≤ n2 ∧ i = .int .i64 j ∧ ∃ S a, RdS wr S g l1 a ∧ (∀ k, S k → w.heap.size ≤ k) ∧ Below w.heap.size w wr) (fun i _ => n2 - (intOf i).toNat)
  case atStart => exact ⟨0, Nat.zero_le _, rfl, S0, 0, hrd0, hS0', hb3⟩
  case round =>
    obtain ⟨j, hj, rfl, S, a, hrd, hS, hbw⟩ := hrel
    clear hrd0 hS0' hb3 hb1
    by_cases hlt : j < n2
    · obtain ⟨b, o, u, rfl, hbb, hx, hu, hc⟩ := hr2.byte hlt
      have hc' := (hbw.cell (p := ⟨b, o + j, none⟩) hbb).trans hc
      obtain ⟨k, hk⟩ : ∃ k : Nat, (u.toNat : Int) % 25 = k := ⟨u.toNat % 25, by omega⟩
      have hk25 : k < 25 := by omega
      have hhel : hel (k : Int) = k := by unfold hel; omega
      have hhn : (hel (k : Int)).toNat = k := by omega
      clear hc hx
      go_wp2_with fail
      refine (rmark_any g S l1 a wr hrd).mono ?_
      rintro e w2 ⟨rfl, rfl⟩
      go_wp2_with fail
      refine (rleft_any g S l1 a wr hrd).mono ?_
      rintro e w2 ⟨rfl, q, rfl⟩
      have hrd1 := hrd.ch ((Ch.refl (fun _ => False) wr).drewN q) (fun _ _ h => h)
      have hbw1 := below_drewN hbw q
      have hif1 : (if 0 ≤ (a : Int) ∧ (a : Int) ≤ ((a + k : Nat) : Int) then (a : Int).toNat else a + k) = a := by rw [if_pos (by omega)]; omega
      have hif2 : (if 0 ≤ (a : Int) ∧ (a : Int) ≤ (a : Int) then (a : Int).toNat else a) = a := by rw [if_pos (by omega)]; omega
      have Hif1 := Lib.hid hif1
      have Hif2 := Lib.hid hif2
      have Hk := Lib.hid hk
      have Hhn := Lib.hid hhn
      clear hif1 hif2 hk hhn hhel hk25
      clear hrd hbw hc'
      generalize wr.drewN q = W1 at *
      by_cases hle : hel (k : Int) ≤ 8 * (l1.length : Int) - a
      · have Hb := Lib.hid fun W (h : RdS W S g l1 a) => rbits_yes g S l1 a k W h hle
        clear hle
        go_wp2_with fail
        rw [Hk.out]
        refine (Hb.out W1 hrd1).mono ?_
        rintro e w3 ⟨rfl, hrd3, hch3⟩
        have hbw3 := hbw1.trans (hch3.below hbw1.size hS)
        rw [Hhn.out] at hrd3
        clear hbw1 hrd1 hch3
        go_wp2_with fail
        refine (rback_any g S l1 (a + k) w3 (a : Int) hrd3).mono ?_
        rintro e w4 ⟨rfl, hrd4, hch4⟩
        rw [Hif1.out] at hrd4
        have hbw4 := hbw3.trans (hch4.below hbw3.size hS)
        clear hbw3 hrd3 hch4
        go_wp2_with fail
        refine (rleft_any g S l1 a w4 hrd4).mono ?_
        rintro e w5 ⟨rfl, q5, rfl⟩
        have hrd5 := hrd4.ch ((Ch.refl (fun _ => False) w4).drewN q5) (fun _ _ h => h)
        have hbw5 := below_drewN hbw4 q5
        clear hbw4 hrd4
        generalize w4.drewN q5 = W5 at *
        go_wp2_with fail
        rw [Hk.out]
        refine (Hb.out W5 hrd5).mono ?_
        rintro e w6 ⟨rfl, hrd6, hch6⟩
        have hbw6 := hbw5.trans (hch6.below hbw5.size hS)
        clear hbw5 hrd5 hch6
        go_wp2_with fail
        go_roundw
        case rel => exact ⟨j + 1, by omega, by go_num, S, _, hrd6, hS, hbw6⟩
        case measure => simp [intOf]; omega
      · have Hb := Lib.hid fun W (h : RdS W S g l1 a) => rbits_no g S l1 a k W h hle
        clear hle
        go_wp2_with fail
        rw [Hk.out]
        refine (Hb.out W1 hrd1).mono ?_
        rintro e w3 ⟨rfl, q3, rfl⟩
        have hrd3 := hrd1.ch ((Ch.refl (fun _ => False) W1).drewN q3) (fun _ _ h => h)
        have hbw3 := below_drewN hbw1 q3
        clear hbw1 hrd1
        generalize W1.drewN q3 = W3 at *
        go_wp2_with fail
        refine (rback_any g S l1 a W3 (a : Int) hrd3).mono ?_
        rintro e w4 ⟨rfl, hrd4, hch4⟩
        rw [Hif2.out] at hrd4
        have hbw4 := hbw3.trans (hch4.below hbw3.size hS)
        clear hbw3 hrd3 hch4
        go_wp2_with fail
        refine (rleft_any g S l1 a w4 hrd4).mono ?_
        rintro e w5 ⟨rfl, q5, rfl⟩
        have hrd5 := hrd4.ch ((Ch.refl (fun _ => False) w4).drewN q5) (fun _ _ h => h)
        have hbw5 := below_drewN hbw4 q5
        clear hbw4 hrd4
        generalize w4.drewN q5 = W5 at *
        go_wp2_with fail
        rw [Hk.out]
        refine (Hb.out W5 hrd5).mono ?_
        rintro e w6 ⟨rfl, q6, rfl⟩
        have hrd6 := hrd5.ch ((Ch.refl (fun _ => False) W5).drewN q6) (fun _ _ h => h)
        have hbw6 := below_drewN hbw5 q6
        clear hbw5 hrd5
        go_wp2_with fail
        go_roundw
        case rel => exact ⟨j + 1, by omega, by go_num, S, _, hrd6, hS, hbw6⟩
        case measure => simp [intOf]; omega
    · have : j = n2 := by omega
      subst this
      go_wp2_with fail
      go_ret
      exact ⟨rfl, hbw⟩
end Go.Proofs.Ytnedboomhbdecaa
