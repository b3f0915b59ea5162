/- The document's answer for record: first, core. -/
import Derived.Test.YtbdehlphblbmoaaRecO
import Derived.Test.YtbdehlphblbmoaaRecL
namespace Go.Proofs.Ytbdehlphblbmoaa
open Go.RowKit
attribute [local go_sem ↓] Go.wp_at_zero Go.wp_at_succ

set_option maxHeartbeats 1000000 in
theorem rfirst_any (A : Option Addr) (n c : Nat) (a : Int) (x y : UInt8) (L : List UInt8) (w : World) (hr : Rd w w.heap.size 1 A n (bys L)) (hnc : n ≤ c) (hn : n ≤ 1000000000) (ha : -9223372036854775808 ≤ a ∧ a ≤ 9223372036854775807) :
    Calls Try.prog 26 #[.slice A n c, .int .i64 a, .int .u8 (x.toNat : Int), .int .u8 (y.toNat : Int)] w fun e w' => e = .returned (.int .i64 (frG L a x y)) ∧ w = w' := by
  have hll := hr.blen
  by_cases h0 : a < 0
  · have Hf := Lib.hid (show frG L a x y = 1 by unfold frG; rw [if_pos h0])
    clear hr hll
    go_enter Try.func26, Try.ntmps26
    go_wp2
    go_ret
    exact ⟨ret_int Hf.out.symm, rfl⟩
  · obtain ⟨p, rfl⟩ : ∃ p : Nat, a = p := ⟨a.toNat, by omega⟩
    have hx := x.toNat_lt
    have hy := y.toNat_lt
    by_cases h1 : n < p
    · have Hf := Lib.hid (show frG L (p : Int) x y = 3 by unfold frG; rw [if_neg h0, Int.toNat_natCast, if_pos (by omega)])
      clear hr hll ha
      go_enter Try.func26, Try.ntmps26
      go_wp2
      go_ret
      exact ⟨ret_int Hf.out.symm, rfl⟩
    · by_cases h2 : n < p + 4
      · have Hf := Lib.hid (show frG L (p : Int) x y = 3 by unfold frG; rw [if_neg h0, Int.toNat_natCast, if_pos (by omega)])
        have h3 : (n : Int) - (p : Int) < 4 := by omega
        clear hr hll ha
        go_enter Try.func26, Try.ntmps26
        go_wp2
        go_ret
        exact ⟨ret_int Hf.out.symm, rfl⟩
      · have h3 : ¬ (n : Int) - (p : Int) < 4 := by omega
        have hs := signed_any A n c p x y L w hr hnc hn (by omega)
        have Hf0 := Lib.hid (show frG L (p : Int) x y = if sgnB L p x y = false then 4 else 0 by unfold frG; rw [if_neg h0, Int.toNat_natCast, if_neg (by omega)])
        clear hr hll ha
        rcases Bool.eq_false_or_eq_true (sgnB L p x y) with hsg | hsg
        · rw [hsg] at hs Hf0
          have Hs := Lib.hid hs
          clear hs hsg
          go_enter Try.func26, Try.ntmps26
          go_wp2_with fail
          refine Hs.out.mono ?_
          rintro e w1 ⟨rfl, rfl⟩
          go_wp2
          go_ret
          exact ⟨ret_int (by rw [Hf0.out]; rfl), rfl⟩
        · rw [hsg] at hs Hf0
          have Hs := Lib.hid hs
          clear hs hsg
          go_enter Try.func26, Try.ntmps26
          go_wp2_with fail
          refine Hs.out.mono ?_
          rintro e w1 ⟨rfl, rfl⟩
          go_wp2
          go_ret
          exact ⟨ret_int (by rw [Hf0.out]; rfl), rfl⟩
set_option maxHeartbeats 2000000 in
theorem rcore_any (A : Option Addr) (n c p : Nat) (z : Int) (L : List UInt8) (w : World) (hr : Rd w w.heap.size 1 A n (bys L)) (hnc : n ≤ c) (hn : n ≤ 1000000000) (hp : p + 20 ≤ n) (hz : z = (p : Int)) :
    Calls Try.prog 27 #[.slice A n c, .int .i64 z] w fun e w' => e = .returned (.agg (hdC (nAt L p 2) (nAt L (p + 2) 2) (nAt L (p + 4) 4) (nAt L (p + 8) 4) (nAt L (p + 12) 4) (nAt L (p + 16) 4) 0 (.slice none 0 0) false)) ∧ Below w.heap.size w w' := by
  subst hz
  have hat : ∀ (W : World) (q x : Nat) (z y : Int), Below w.heap.size w W → q + x ≤ n → x ≤ 6 → 0 < x → z = (q : Int) → y = (x : Int) → Calls Try.prog 20 #[.slice A n c, .int .i64 z, .int .i64 y] W fun e w' => e = .returned (.int .i64 (nAt L q x)) ∧ W = w' :=
    fun W q x z y hb h1 h2 h3 h4 h5 => at_numI A n c q x z y L W ((hr.below hb (Nat.le_refl _)).more hb.size) hnc hn h1 h2 h3 h4 h5
  have H0 := Lib.hid (fun W hb => hat W p 2 p 2 hb (by omega) (by omega) (by omega) rfl rfl)
  have H1 := Lib.hid (fun W hb => hat W (p + 2) 2 ((p : Int) + 2) 2 hb (by omega) (by omega) (by omega) (by omega) rfl)
  have H2 := Lib.hid (fun W hb => hat W (p + 4) 4 ((p : Int) + 4) 4 hb (by omega) (by omega) (by omega) (by omega) rfl)
  have H3 := Lib.hid (fun W hb => hat W (p + 8) 4 ((p : Int) + 8) 4 hb (by omega) (by omega) (by omega) (by omega) rfl)
  have H4 := Lib.hid (fun W hb => hat W (p + 12) 4 ((p : Int) + 12) 4 hb (by omega) (by omega) (by omega) (by omega) rfl)
  have H5 := Lib.hid (fun W hb => hat W (p + 16) 4 ((p : Int) + 16) 4 hb (by omega) (by omega) (by omega) (by omega) rfl)
  have b3 := nAt_4 L (p + 8)
  clear hat hr
  generalize nAt L p 2 = f0 at *
  generalize nAt L (p + 2) 2 = f1 at *
  generalize nAt L (p + 4) 4 = f2 at *
  generalize nAt L (p + 8) 4 = f3 at *
  generalize nAt L (p + 12) 4 = f4 at *
  generalize nAt L (p + 16) 4 = f5 at *
  have hw3 : IntKind.u32.wrap f3 = f3 := by rw [IntKind.wrap_u32]; omega
  go_enter Try.func27, Try.ntmps27
  go_wp2_with fail
  refine (H0.out _ ((Below.refl _ _).alloc (Nat.le_refl _) _)).mono ?_
  rintro e w1 ⟨rfl, rfl⟩
  go_wp2_with fail
  refine (H1.out _ ((Below.refl _ _).alloc (Nat.le_refl _) _)).mono ?_
  rintro e w1 ⟨rfl, rfl⟩
  go_wp2_with fail
  refine (H2.out _ ((Below.refl _ _).alloc (Nat.le_refl _) _)).mono ?_
  rintro e w1 ⟨rfl, rfl⟩
  go_wp2_with fail
  refine (H3.out _ (((Below.refl _ _).alloc (Nat.le_refl _) _).alloc (by simp) _)).mono ?_
  rintro e w1 ⟨rfl, rfl⟩
  go_wp2_with fail
  refine (H4.out _ (((Below.refl _ _).alloc (Nat.le_refl _) _).alloc (by simp) _)).mono ?_
  rintro e w1 ⟨rfl, rfl⟩
  go_wp2_with fail
  refine (H5.out _ (((Below.refl _ _).alloc (Nat.le_refl _) _).alloc (by simp) _)).mono ?_
  rintro e w1 ⟨rfl, rfl⟩
  go_wp2
  exact bodyPost_ret (v := .agg (hdC f0 f1 f2 f3 f4 f5 0 (.slice none 0 0) false)) (by simp [results, Try.results27, go_sem, hdC]) rfl ⟨rfl, ((Below.refl _ _).alloc (Nat.le_refl _) _).alloc (by simp) _⟩
end Go.Proofs.Ytbdehlphblbmoaa
