/- The walk of HuffOrder. -/
import Derived.Test.YtnedboomhbdecaaHuf6
namespace Go.Proofs.Ytnedboomhbdecaa
open Go.RowKit
attribute [local go_sem ↓] Go.wp_at_zero Go.wp_at_succ

theorem endC_up (l : List Int) (n : Nat) : ∀ d : Nat, 2 ^ (d + 1) * endC l n ≤ firstC l (n + d + 1)
  | 0 => by show 2 ^ 1 * endC l n ≤ 2 * endC l n; omega
  | d + 1 => by
    have h := endC_up l n d
    have h2 := endC_first l (n + d)
    show 2 ^ (d + 1 + 1) * endC l n ≤ 2 * endC l (n + d + 1)
    have h3 : 2 ^ (d + 1 + 1) * endC l n = 2 * (2 ^ (d + 1) * endC l n) := by rw [Nat.pow_succ, Nat.mul_comm (2 ^ (d + 1)) 2, Nat.mul_assoc]
    rw [h3]
    omega
/-- Of codes of unlike lengths the shorter one doesn't begin the longer one. -/
theorem code_apart {l : List Int} {a b n m : Nat} (ha : l[a]? = some (n : Int)) (_hb : l[b]? = some (m : Int)) (hn : 1 ≤ n) (h : n < m) : codeS l b m / 2 ^ (m - n) ≠ codeS l a n := by
  have h1 := codeS_lt ha hn
  obtain ⟨d, rfl⟩ : ∃ d, m = n + d + 1 := ⟨m - n - 1, by omega⟩
  have h2 := endC_up l n d
  have h3 : n + d + 1 - n = d + 1 := by omega
  rw [h3]
  have h4 : 2 ^ (d + 1) * endC l n ≤ codeS l b (n + d + 1) := by unfold codeS; omega
  have h5 : endC l n ≤ codeS l b (n + d + 1) / 2 ^ (d + 1) := by
    rw [Nat.le_div_iff_mul_le (Nat.pow_pos (by omega)), Nat.mul_comm]; exact h4
  omega
/-- Of codes of one length the later symbol's is the greater one. -/
theorem code_rise {l : List Int} {a b n : Nat} (ha : l[a]? = some (n : Int)) (h : a < b) : codeS l a n < codeS l b n := by
  have h1 := cntTo_yes ha
  have h2 := cntTo_mono l (n : Int) (a + 1) b (by omega)
  unfold codeS
  omega
theorem code_order {l : List Int} {a b n : Nat} (ha : l[a]? = some (n : Int)) (hb : l[b]? = some (n : Int)) (h : a ≠ b) : (codeS l a n < codeS l b n ↔ a < b) ∧ codeS l b n ≠ codeS l a n := by
  rcases Nat.lt_or_gt_of_ne h with h1 | h1
  · have := code_rise ha h1; omega
  · have := code_rise hb h1; omega
/-- A symbol's length and code, where it has one. -/
def codR (l : List Int) (k : Nat) : Nat × Nat := match l[k]? with
  | some x => if x = 0 then (0, 0) else (x.toNat, codeS l k x.toNat)
  | none => (0, 0)
theorem hcode_any (l : List Int) (g k : Nat) (w : World) (h : HCode w l g) (hl : l.length ≤ 320) (hk : k < l.length) (hall : ∀ x ∈ l, 0 ≤ x ∧ x ≤ 15) (hov : overTo l 15 = false) :
    Calls Try.prog 27 #[.pointer (some ⟨g, 0, none⟩), .int .i64 k] w fun e w' => e = .returned (.tuple #[.int .i64 (codR l k).1, .int .i64 (codR l k).2]) ∧ ∃ q, w' = w.drewN q := by
  have hx : l[k]? = some l[k] := List.getElem?_eq_getElem hk
  have hb := hall _ (List.mem_of_getElem? hx)
  by_cases h0 : l[k] = 0
  · have hr : codR l k = (0, 0) := by unfold codR; rw [hx]; exact if_pos h0
    rw [hr]
    exact (hcode_no l g (k : Int) w h (.inr (.inr ⟨by omega, by rw [Int.toNat_natCast, hx, h0]⟩))).mono fun e w' ⟨h1, h2⟩ => ⟨h1, 0, h2⟩
  · obtain ⟨n, hn⟩ : ∃ n : Nat, l[k] = n := ⟨l[k].toNat, by omega⟩
    have hr : codR l k = (n, codeS l k n) := by unfold codR; rw [hx]; show (if l[k] = 0 then _ else _) = _; rw [if_neg h0, hn, Int.toNat_natCast]
    rw [hr]
    rw [hn] at hx
    exact hcode_yes l g k n w h hl hx (by omega) (by omega) hov
theorem codR_law {l : List Int} {a b : Nat} (hall : ∀ x ∈ l, 0 ≤ x ∧ x ≤ 15) (hov : overTo l 15 = false) (ha : a < l.length) (hb : b < l.length) (hab : a ≠ b) (h1 : (codR l a).1 ≠ 0) (h2 : (codR l b).1 ≠ 0) (h3 : (codR l a).1 ≤ (codR l b).1) :
    (codR l b).1 ≤ 15 ∧ (codR l b).2 ≤ 32768 ∧ (codR l b).2 / 2 ^ ((codR l b).1 - (codR l a).1) ≠ (codR l a).2 ∧ ((codR l a).1 = (codR l b).1 → ((codR l a).2 < (codR l b).2 ↔ a < b)) := by
  have part : ∀ k, k < l.length → (codR l k).1 ≠ 0 → ∃ n : Nat, l[k]? = some (n : Int) ∧ 1 ≤ n ∧ n ≤ 15 ∧ codR l k = (n, codeS l k n) := by
    intro k hk hne
    have hx : l[k]? = some l[k] := List.getElem?_eq_getElem hk
    have hb := hall _ (List.mem_of_getElem? hx)
    by_cases h0 : l[k] = 0
    · exact absurd (show (codR l k).1 = 0 by unfold codR; rw [hx]; show (if l[k] = 0 then ((0 : Nat), (0 : Nat)) else _).1 = 0; rw [if_pos h0]) hne
    · obtain ⟨n, hn⟩ : ∃ n : Nat, l[k] = n := ⟨l[k].toNat, by omega⟩
      refine ⟨n, by rw [hx, hn], by omega, by omega, ?_⟩
      unfold codR; rw [hx]; show (if l[k] = 0 then _ else _) = _; rw [if_neg h0, hn, Int.toNat_natCast]
  obtain ⟨n, hn1, hn2, hn3, hn4⟩ := part a ha h1
  obtain ⟨m, hm1, hm2, hm3, hm4⟩ := part b hb h2
  rw [hn4, hm4] at h3 ⊢
  have hbd := codeS_bd hm1 hm2 hm3 hov
  have hp : 2 ^ m ≤ 32768 := Nat.pow_le_pow_right (show 0 < 2 by omega) hm3
  refine ⟨hm3, by show codeS l b m ≤ 32768; omega, ?_, fun e => ?_⟩
  · show codeS l b m / 2 ^ (m - n) ≠ codeS l a n
    rcases Nat.lt_or_ge n m with h | h
    · exact code_apart hn1 hm1 hn2 h
    · obtain rfl : n = m := by have : n ≤ m := h3; omega
      rw [Nat.sub_self, Nat.pow_zero, Nat.div_one]
      exact (code_order hn1 hm1 hab).2
  · obtain rfl : n = m := e
    exact (code_order hn1 hm1 hab).1
set_option maxHeartbeats 4000000 in
set_option maxRecDepth 100000 in
theorem huffOrder_walk (A : Option Addr) (n c : Nat) (l : List Int) (w : World) (hr : Rd w w.heap.size 1 A n (its l)) (hnc : n ≤ c) (hcm : c ≤ maxLen) (_hwf : ∀ z ∈ l, -9223372036854775808 ≤ z ∧ z ≤ 9223372036854775807) :
    Calls Try.prog 5 #[.slice A n c] w fun e w' => e = .returned (.bool true) ∧ Below w.heap.size w w' := by
  unfold maxLen at hcm
  have Hl := Lib.hid hr.ilen
  by_cases h60 : 60 < n
  · have g1 : decide ((60 : Int) < (n : Int)) = true := decide_eq_true (by omega)
    go_enter Try.func5, Try.ntmps5
    go_wp2_with fail
    refine (huffwakes_any w).mono ?_
    rintro e w1 ⟨rfl, hb1⟩
    go_wp2
    go_ret
    exact ⟨rfl, hb1⟩
  have g1 : decide ((60 : Int) < (n : Int)) = false := decide_eq_false (by omega)
  have hrW := fun (W : World) (hb : Below w.heap.size w W) => (hr.below hb (Nat.le_refl _)).more hb.size
  have HrW := Lib.hid hrW
  clear hrW
  cases hm : mayB l with
  | false =>
    have Hm := Lib.hid hm
    clear hm
    go_enter Try.func5, Try.ntmps5
    go_wp2_with fail
    refine (huffwakes_any w).mono ?_
    rintro e w1 ⟨rfl, hb1⟩
    have hmy := hmay_any A n c l w1 (HrW.out w1 hb1) (by omega)
    rw [Hm.out] at hmy
    go_wp2_with fail
    refine hmy.mono ?_
    rintro e w3 ⟨rfl, hw3⟩
    subst hw3
    go_wp2
    go_ret
    exact ⟨rfl, hb1⟩
  | true =>
    have hm2 := hm
    unfold mayB at hm2
    simp only [Bool.and_eq_true, decide_eq_true_eq, List.all_eq_true] at hm2
    have Hall := Lib.hid hm2.1
    have Hm := Lib.hid hm
    clear hm hm2
    go_enter Try.func5, Try.ntmps5
    go_wp2_with fail
    refine (huffwakes_any w).mono ?_
    rintro e w1 ⟨rfl, hb1⟩
    have hmy := hmay_any A n c l w1 (HrW.out w1 hb1) (by omega)
    rw [Hm.out] at hmy
    go_wp2_with fail
    refine hmy.mono ?_
    rintro e w3 ⟨rfl, hw3⟩
    subst hw3
    have hnw := hnew_any A n c l w3 (HrW.out w3 hb1)
    clear hmy
    go_wp2_with fail
    refine hnw.mono ?_
    rintro e w2 ⟨hnw, hb2⟩
    have hbe2 := hb1.trans (hb2.mono hb1.size)
    clear hb1 hb2
    rcases hnw with ⟨h, _⟩ | ⟨_, ho, rfl⟩ | ⟨_, ho, g, rfl, hc⟩
    · rw [Hm.out] at h; cases h
    · clear ho
      go_wp2
      go_ret
      exact ⟨rfl, hbe2⟩
    · have Ho := Lib.hid ho
      have Hst := Lib.hid (And.intro hc hbe2)
      clear ho hc hbe2
      go_wp2_with fail
      go_loopw [30] (fun i wr => ∃ a : Nat, a ≤ n ∧ i = .int .i64 a ∧ ∃ q, wr = w2.drewN q) (fun i _ => n - (intOf i).toNat)
      case atStart => exact ⟨0, Nat.zero_le _, rfl, 0, rfl⟩
      case round =>
        obtain ⟨a, ha, rfl, q, rfl⟩ := hrel
        by_cases han : a < n
        · go_wp2_with fail
          go_loopw [35] (fun i wr => ∃ b : Nat, b ≤ n ∧ i = .int .i64 b ∧ ∃ q, wr = w2.drewN q) (fun i _ => n - (intOf i).toNat)
          case atStart => exact ⟨0, Nat.zero_le _, rfl, q, rfl⟩
          case round =>
            obtain ⟨b, hb, rfl, q2, rfl⟩ := hrel
            by_cases hbn : b < n
            · have hca := hcode_any l g a (w2.drewN q2) (Hst.out.1.drewN q2) (by have := Hl.out; omega) (by rw [Hl.out]; exact han) Hall.out Ho.out
              have hcb := fun q3 => hcode_any l g b (w2.drewN q3) (Hst.out.1.drewN q3) (by have := Hl.out; omega) (by rw [Hl.out]; exact hbn) Hall.out Ho.out
              have hlaw := codR_law (a := a) (b := b) Hall.out Ho.out (by rw [Hl.out]; exact han) (by rw [Hl.out]; exact hbn)
              have Hcb := Lib.hid hcb
              have Hca := Lib.hid hca
              generalize (codR l a).1 = n1 at *
              generalize (codR l a).2 = x at *
              generalize (codR l b).1 = m1 at *
              generalize (codR l b).2 = y at *
              have Hlaw := Lib.hid hlaw
              clear hcb hca hlaw
              go_wp2_with fail
              refine Hca.out.mono ?_
              rintro e w6 ⟨rfl, q6, rfl⟩
              go_wp2_with fail
              refine (Hcb.out _).mono ?_
              rintro e w7 ⟨rfl, q7, rfl⟩
              clear Hca Hcb
              by_cases hab : a = b
              · have k1 : ((a : Int) == (b : Int)) = true := by rw [hab]; simp
                clear hab Hlaw
                go_wp2_with fail
                go_roundw
                case rel => exact ⟨b + 1, by omega, by go_num, _, rfl⟩
                case measure => simp only [intOf]; omega
              have k1 : ((a : Int) == (b : Int)) = false := by rw [beq_eq_false_iff_ne]; omega
              by_cases hn1 : n1 = 0
              · have k2 : ((n1 : Int) == 0) = true := by rw [hn1]; rfl
                clear hn1 hab Hlaw
                go_wp2_with fail
                go_roundw
                case rel => exact ⟨b + 1, by omega, by go_num, _, rfl⟩
                case measure => simp only [intOf]; omega
              have k2 : ((n1 : Int) == 0) = false := by rw [beq_eq_false_iff_ne]; omega
              by_cases hm1 : m1 = 0
              · have k3 : ((m1 : Int) == 0) = true := by rw [hm1]; rfl
                clear hn1 hab Hlaw hm1
                go_wp2_with fail
                go_roundw
                case rel => exact ⟨b + 1, by omega, by go_num, _, rfl⟩
                case measure => simp only [intOf]; omega
              have k3 : ((m1 : Int) == 0) = false := by rw [beq_eq_false_iff_ne]; omega
              by_cases hgt : m1 < n1
              · have k4 : decide (m1 < n1) = true := decide_eq_true (by omega)
                clear hn1 hab Hlaw hm1 hgt
                go_wp2_with fail
                go_roundw
                case rel => exact ⟨b + 1, by omega, by go_num, _, rfl⟩
                case measure => simp only [intOf]; omega
              have k4 : decide (m1 < n1) = false := decide_eq_false (by omega)
              obtain ⟨l1, l2, l3, l4⟩ := Hlaw.out hab hn1 hm1 (by omega)
              have L3 := Lib.hid l3
              have L4 := Lib.hid l4
              clear l3 l4 Hlaw
              have e1 : (0 : Int) ≤ (m1 : Int) - (n1 : Int) := by omega
              have e3 : (n1 : Int) ≤ (m1 : Int) := by omega
              have e4 : n1 ≤ m1 := by omega
              obtain ⟨D, hD⟩ : ∃ D : Nat, m1 - n1 = D := ⟨_, rfl⟩
              have e2 : ((m1 : Int) - (n1 : Int)).toNat = D := by omega
              rw [hD] at L3
              have k5 : ((y : Int) / 2 ^ D == (x : Int)) = false := by
                rw [beq_eq_false_iff_ne]
                intro h
                apply L3.out
                have h2 : ((2 : Int) ^ D) = ((2 ^ D : Nat) : Int) := by simp
                rw [h2] at h
                omega
              by_cases hnm : n1 = m1
              · have k6 : ((n1 : Int) == (m1 : Int)) = true := by rw [hnm]; simp
                have l4 := L4.out hnm
                clear hD hnm L3 L4
                by_cases hlt : a < b
                · have k7 : decide (x < y) = true := decide_eq_true (by omega)
                  have k8 : decide (a < b) = true := decide_eq_true (by omega)
                  clear l4 hab hn1 hm1 hlt
                  go_wp2_with fail
                  go_roundw
                  case rel => exact ⟨b + 1, by omega, by go_num, _, rfl⟩
                  case measure => simp only [intOf]; omega
                · have k7 : decide (x < y) = false := decide_eq_false (by omega)
                  have k8 : decide (a < b) = false := decide_eq_false (by omega)
                  clear l4 hab hn1 hm1 hlt
                  go_wp2_with fail
                  go_roundw
                  case rel => exact ⟨b + 1, by omega, by go_num, _, rfl⟩
                  case measure => simp only [intOf]; omega
              · have k6 : ((n1 : Int) == (m1 : Int)) = false := by rw [beq_eq_false_iff_ne]; omega
                clear hD L3 L4 hab hn1 hm1 hnm
                go_wp2_with fail
                go_roundw
                case rel => exact ⟨b + 1, by omega, by go_num, _, rfl⟩
                case measure => simp only [intOf]; omega
            · go_wp2_with fail
              go_roundw
              case rel => exact ⟨a + 1, by omega, by go_num, _, rfl⟩
              case measure => simp only [intOf]; omega
        · go_wp2
          go_ret
          exact ⟨rfl, below_drewN Hst.out.2 _⟩
end Go.Proofs.Ytnedboomhbdecaa
