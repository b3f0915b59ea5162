/- The walk of WordCuts. -/
import Derived.Test.YtnjjnkehhpkmaaaWordL
namespace Go.Proofs.Ytnjjnkehhpkmaaa
open Go.RowKit

set_option maxHeartbeats 400000 in
theorem wordCuts_walk (A : Option Addr) (n c : Nat) (l : List UInt8) (x : Int) (w : World) (hr : Rd w w.heap.size 1 A n (bys l)) (hnc : n ≤ c) (_hcm : c ≤ maxLen) (hx : 0 ≤ x ∧ x ≤ 65535) :
    Calls Try.prog 6 #[.slice A n c, .int .u16 x] w fun e w' => e = .returned (.bool true) ∧ Below w.heap.size w w' := by
  have hcm := _hcm
  unfold maxLen at hcm
  by_cases h300 : 300 < n
  · go_enter Try.func6, Try.ntmps6
    go_wp2_with fail
    refine (wakes_any _).mono ?_
    rintro e w1 ⟨rfl, hb1⟩
    go_wp2
    go_ret
    exact ⟨rfl, hb1⟩
  obtain ⟨k, hk⟩ : ∃ k : Nat, x % ((n : Int) + 1) = k := ⟨(x % ((n : Int) + 1)).toNat, by have := Int.emod_nonneg x (show (n : Int) + 1 ≠ 0 by omega); omega⟩
  have hkn : k ≤ n := by have := Int.emod_lt_of_pos x (show 0 < (n : Int) + 1 by omega); omega
  obtain ⟨m, rfl⟩ : ∃ m, n = k + m := ⟨n - k, by omega⟩
  rw [Int.natCast_add] at hk
  have cut1 : ∀ w1, Below w.heap.size w w1 → Calls Try.prog 14 #[.slice A (k + m) c, .int .i64 0, .int .i64 k] w1 fun e w' =>
      ∃ v, e = .returned (.tuple #[v, .int .i64 0]) ∧ w'.ownsRow w1.heap.size 5 1 v k (bys (l.take k)) ∧ Below w1.heap.size w1 w' := by
    intro w1 hb1
    exact cut_ok A (k + m) c 0 k l w1 ((hr.below hb1 (Nat.le_refl _)).more hb1.size) hnc (by omega) (by omega)
  have cut2 : ∀ w1, Below w.heap.size w w1 → Calls Try.prog 14 #[.slice A (k + m) c, .int .i64 k, .int .i64 m] w1 fun e w' =>
      ∃ v, e = .returned (.tuple #[v, .int .i64 0]) ∧ w'.ownsRow w1.heap.size 5 1 v m (bys (l.drop k)) ∧ Below w1.heap.size w1 w' := by
    intro w1 hb1
    have h := cut_ok A (k + m) c k m l w1 ((hr.below hb1 (Nat.le_refl _)).more hb1.size) hnc (by omega) (by omega)
    rw [List.take_of_length_le (by rw [List.length_drop, hr.blen]; omega)] at h
    exact h
  have hmax : (if ((k : Int) - 1) < 0 then (0 : Int) else (k : Int) - 1) = ((k - 1 : Nat) : Int) := by split <;> omega
  have hlen : l.length = k + m := hr.blen
  have Hl := Lib.hid hlen
  clear hlen
  go_enter Try.func6, Try.ntmps6
  go_wp2_with fail
  refine (wakes_any _).mono ?_
  rintro e w1 ⟨rfl, hb1⟩
  go_wp2_with fail
  refine (cut1 w1 hb1).mono ?_
  rintro e w2 ⟨v, rfl, hown, hb2⟩
  obtain ⟨A1, c1, rfl, hc1, _⟩ := own_form hown
  have hb2' : Below w.heap.size w w2 := hb1.trans (hb2.mono hb1.size)
  go_wp2_with fail
  rw [show (k : Int) + (m : Int) - (k : Int) = (m : Int) from by omega]
  refine (cut2 w2 hb2').mono ?_
  rintro e w3 ⟨v, rfl, hown2, hb3⟩
  obtain ⟨A2, c2, rfl, hc2, _⟩ := own_form hown2
  have hb3' : Below w.heap.size w w3 := hb2'.trans (hb3.mono hb2'.size)
  have hr2 := Rd.of_own hown2
  have hown1 := own_below hown hb3 (Nat.le_refl _)
  have hr1 := Rd.of_own hown1
  have hget := get_end A1 k c1 ((k - 1 : Nat) : Int) 2 w3 (by omega) (by omega) (by rw [show wid 2 = 2 from by decide]; omega)
  clear cut1 cut2
  go_wp2_with fail
  refine hget.mono ?_
  rintro e w4 ⟨rfl, rfl⟩
  have h31 : w1.heap.size ≤ w3.heap.size := Nat.le_trans hb2.size hb3.size
  go_wp2_with (
    at_builtin
    refine ap_bys hown1 hr2 (Below.refl _ w3) h31 (by omega) rfl rfl rfl ?_
    intro v4 w4 hown4 hb4 _ _)
  obtain ⟨A4, c4, rfl, _, _⟩ := own_form hown4
  have hr4 := Rd.of_own hown4
  have hbb : Below w.heap.size w w4 := hb3'.trans (hb4.mono hb1.size)
  have hl4 : l.take k ++ l.drop k = l := List.take_append_drop k l
  rw [hl4] at hr4
  clear hl4
  refine (same_any A4 A (k + m) (k + m) _ _ l l w4 hr4 ((hr.below hbb (Nat.le_refl _)).more hbb.size) (by omega) (by omega)).mono ?_
  rintro e w5 ⟨rfl, q, rfl⟩
  go_wp2
  go_ret
  exact ⟨rfl, below_drewN hbb _⟩
end Go.Proofs.Ytnjjnkehhpkmaaa
