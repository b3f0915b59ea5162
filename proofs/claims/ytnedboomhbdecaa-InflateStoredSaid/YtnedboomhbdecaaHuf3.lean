/- Contracts of package huff: New (whole), Fill, Code. -/
import Derived.Test.YtnedboomhbdecaaHuf2
namespace Go.Proofs.Ytnedboomhbdecaa
open Go.RowKit
attribute [local go_sem ↓] Go.wp_at_zero Go.wp_at_succ

theorem hnew_any (A : Option Addr) (n c : Nat) (l : List Int) (w : World) (hr : Rd w w.heap.size 1 A n (its l)) :
    Calls Try.prog 23 #[.slice A n c] w fun e w' => HNew l e w' ∧ Below w.heap.size w w' := by
  by_cases hn : n ≤ 320
  · exact hnew_in A n c l w hr hn
  · refine (hnew_many A n c w (by omega)).mono fun e w' ⟨h1, h2⟩ => ⟨.inl ⟨?_, h1⟩, h2⟩
    have := hr.ilen
    unfold mayB
    rw [decide_eq_false (by omega), Bool.and_false]
theorem hfill_any (l : List Int) (g : Nat) (w : World) (h : HCode w l g) :
    Calls Try.prog 26 #[.pointer (some ⟨g, 0, none⟩)] w fun e w' => e = .returned (.int .i64 (fillN l)) ∧ w' = w := by
  obtain ⟨vs, A, n, c, hbk, _⟩ := h
  have c0 : w.cell? ⟨g, 33, none⟩ = some (.int .i64 (fillN l)) := hbk.cell 33
  clear hbk
  go_enter Try.func26, Try.ntmps26
  go_wp2
  go_ret
  exact ⟨rfl, rfl⟩
set_option maxHeartbeats 1000000 in
theorem hcode_no (l : List Int) (g : Nat) (s : Int) (w : World) (h : HCode w l g) (hs : s < 0 ∨ (l.length : Int) ≤ s ∨ 0 ≤ s ∧ l[s.toNat]? = some 0) :
    Calls Try.prog 27 #[.pointer (some ⟨g, 0, none⟩), .int .i64 s] w fun e w' => e = .returned (.tuple #[.int .i64 0, .int .i64 0]) ∧ w' = w := by
  obtain ⟨vs, A, n, c, hbk, hn, hnc, hr, _⟩ := h
  have c0 : w.cell? ⟨g, 32, none⟩ = some (.slice A n c) := hbk.cell 32
  clear hbk
  by_cases h0 : s < 0
  · have g1 : decide (s < 0) = true := by simpa using h0
    clear hs hr
    go_enter Try.func27, Try.ntmps27
    go_wp2
    go_ret2
    exact ⟨rfl, rfl⟩
  have g1 : decide (s < 0) = false := by simpa using h0
  by_cases h1 : (n : Int) ≤ s
  · have g2 : decide ((n : Int) ≤ s) = true := by simpa using h1
    clear hs hr
    go_enter Try.func27, Try.ntmps27
    go_wp2
    go_ret2
    exact ⟨rfl, rfl⟩
  have g2 : decide ((n : Int) ≤ s) = false := by simpa using h1
  obtain ⟨k, rfl⟩ : ∃ k : Nat, s = k := ⟨s.toNat, by omega⟩
  have hx : l[k]? = some 0 := by
    rcases hs with h | h | ⟨_, h⟩
    · omega
    · omega
    · exact h
  obtain ⟨b, o, x, rfl, hbb, hx2, hcx⟩ := hr.num (show k < n by omega)
  rw [hx] at hx2
  injection hx2 with hx2
  subst hx2
  have e1 : (k : Int) < (n : Int) := by omega
  clear hs hr hx
  go_enter Try.func27, Try.ntmps27
  go_wp2
  go_ret2
  exact ⟨rfl, rfl⟩
set_option maxHeartbeats 1000000 in
theorem hcode_yes (l : List Int) (g k n : Nat) (w : World) (h : HCode w l g) (hl : l.length ≤ 320) (hx : l[k]? = some (n : Int)) (hn1 : 1 ≤ n) (hn15 : n ≤ 15) (hov : overTo l 15 = false) :
    Calls Try.prog 27 #[.pointer (some ⟨g, 0, none⟩), .int .i64 k] w fun e w' => e = .returned (.tuple #[.int .i64 n, .int .i64 (codeS l k n)]) ∧ ∃ q, w' = w.drewN q := by
  obtain ⟨vs, A, m, c, hbk, hm, hmc, hr, hrows⟩ := h
  have c0 : w.cell? ⟨g, 32, none⟩ = some (.slice A m c) := hbk.cell 32
  have hkl : k < l.length := by
    rcases Nat.lt_or_ge k l.length with h1 | h1
    · exact h1
    · rw [List.getElem?_eq_none h1] at hx; cases hx
  obtain ⟨B, r, d, hvk, hrd, hrr⟩ := hrows n (by omega)
  have c1 := hbk.cell (n * 2)
  rw [codeC_row _ _ _ _ _ (by omega), hvk] at c1
  have c2 := hbk.cell (n * 2 + 1)
  rw [codeC_first _ _ _ _ _ (by omega)] at c2
  obtain ⟨b, o, x, rfl, hbb, hx2, hcx⟩ := hr.num (show k < m by omega)
  rw [hx] at hx2
  injection hx2 with hx2
  subst hx2
  have hlen := hrr.ilen
  have hcl : r ≤ 320 := by have := cntTo_le l (n : Int) l.length; unfold syms at hlen; unfold cntTo at this; omega
  have hsr := search_any B r d (syms l (n : Int)) (k : Int) w hrr (by omega) (symsTo_sorted l (n : Int) l.length)
  have hbef := syms_before l (n : Int) k l.length (by omega)
  have hcs : (codeS l k n : Int) = (firstC l n : Int) + (cntTo l (n : Int) k : Int) := by unfold codeS; omega
  have hbd := codeS_bd hx hn1 hn15 hov
  have hp : 2 ^ n ≤ 32768 := Nat.pow_le_pow_right (show 0 < 2 by omega) hn15
  unfold syms at hsr
  rw [hbef] at hsr
  have hfb : firstC l n ≤ 32768 ∧ cntTo l (n : Int) k ≤ 32768 := by unfold codeS at hbd; omega
  have Hsr := Lib.hid hsr
  have Hcs := Lib.hid hcs
  generalize firstC l n = F at *
  generalize cntTo l (n : Int) k = T at *
  have e1 : (k : Int) < (m : Int) := by omega
  have e2 : (0 : Int) ≤ (n : Int) := by omega
  have e3 : (n : Int) < 16 := by omega
  have e4 : ((n : Int) == 0) = false := by rw [beq_eq_false_iff_ne]; omega
  have g1 : decide ((k : Int) < 0) = false := decide_eq_false (by omega)
  have g2 : decide ((m : Int) ≤ (k : Int)) = false := decide_eq_false (by omega)
  have e5 : IntKind.i64.wrap ((F : Int) + (T : Int)) = (F : Int) + (T : Int) := IntWalk.i64_in _ (by omega)
  clear hbef hcs hbd hp hrows hr hrr hsr hx hvk hbk hlen hm
  go_enter Try.func27, Try.ntmps27
  go_wp2_with fail
  refine Hsr.out.mono ?_
  rintro e w1 ⟨rfl, q1, rfl⟩
  go_wp2_with fail
  go_quiet (fail)
  go_wp2
  go_ret2
  exact ⟨by rw [Hcs.out]; rfl, by first | exact ⟨_, rfl⟩ | exact ⟨_, World.drewN_drewN _ _ _⟩⟩
end Go.Proofs.Ytnedboomhbdecaa
