/- Contracts of the reference for bits: Low. -/
import Derived.Test.YtnedboomhbdecaaBit7
import Derived.Test.YtnedboomhbdecaaInts
namespace Go.Proofs.Ytnedboomhbdecaa
open Go.RowKit

theorem bit_u64 (v : Int) (k : Nat) (hk : k ≤ 24) : v % 18446744073709551616 / 2 ^ k % 2 = ((bitOf v k).toNat : Int) := by
  rw [← bitOf_int]
  have e : (18446744073709551616 : Int) = 2 ^ k * (2 * 2 ^ (63 - k)) := by
    have : (2 : Int) ^ k * (2 * 2 ^ (63 - k)) = 2 ^ (k + 1 + (63 - k)) := by rw [Int.pow_add, Int.pow_add]; simp [Int.mul_assoc]
    rw [this, show k + 1 + (63 - k) = 64 by omega]; rfl
  have hp : (0 : Int) < 2 ^ k := Int.pow_pos (by decide)
  have h1 : v % 18446744073709551616 = v + 2 ^ k * (-(2 * 2 ^ (63 - k) * (v / 18446744073709551616))) := by
    have := Int.emod_add_mul_ediv v 18446744073709551616
    have e2 : (18446744073709551616 : Int) * (v / 18446744073709551616) = 2 ^ k * (2 * 2 ^ (63 - k)) * (v / 18446744073709551616) := by rw [← e]
    rw [Int.mul_neg, ← Int.mul_assoc, ← e2]; omega
  rw [h1, Int.add_mul_ediv_left _ _ (by omega), Int.mul_assoc]
  generalize (2 : Int) ^ (63 - k) * (v / 18446744073709551616) = z
  omega
theorem bnums_snoc (l : List Bool) (b : Bool) : bnums (l ++ [b]) = bnums l ++ [(b.toNat : Int)] := by simp [bnums]

set_option maxHeartbeats 1000000 in
theorem reflow_any (x v : Int) (w : World) :
    Calls Try.prog 28 #[.int .i64 x, .int .i64 v] w fun e w' => ∃ r, e = .returned r ∧ w'.ownsRow w.heap.size 3 1 r (hel x).toNat (its (bnums (lowB (hel x).toNat v))) ∧ Below w.heap.size w w' := by
  have hb := hel_bd x
  obtain ⟨d, hd⟩ : ∃ d : Nat, hel x = d := ⟨(hel x).toNat, by omega⟩
  have e0 : (hel x).toNat = d := by omega
  have Hd := Lib.hid hd
  have hd24 : d ≤ 24 := by omega
  rw [e0]
  clear hd hb e0
  go_enter Try.func28, Try.ntmps28
  go_wp2_with fail
  go_loopw [5, 6, 7] (fun o u i wr => ∃ k : Nat, k ≤ d ∧ i = .int .i64 k ∧ u = .int .u64 (v % 18446744073709551616 / 2 ^ k) ∧ wr.ownsRow w.heap.size 3 1 o k (its (bnums (lowB k v))) ∧ Below w.heap.size w wr) (fun _ _ i _ => d - (intOf i).toNat)
  case atStart => exact ⟨0, Nat.zero_le _, rfl, by rw [Int.pow_zero, Int.ediv_one]; rfl, own_nilI _ _ _, Below.refl _ _⟩
  case round =>
    obtain ⟨k, hk, rfl, rfl, hown, hbw⟩ := hrel
    have hbit := bit_u64 v k (by omega)
    have hnx : v % 18446744073709551616 / 2 ^ k / 2 = v % 18446744073709551616 / 2 ^ (k + 1) := by
      rw [Int.ediv_ediv_of_nonneg (Int.le_of_lt (Int.pow_pos (by decide))), Int.pow_succ]
    have hge : 0 ≤ v % 18446744073709551616 / 2 ^ k := Int.ediv_nonneg (by omega) (Int.le_of_lt (Int.pow_pos (by decide)))
    have hsn : bnums (lowB (k + 1) v) = bnums (lowB k v) ++ [((bitOf v k).toNat : Int)] := by rw [lowB_succ, bnums_snoc]
    have Hsn := Lib.hid hsn
    have Hnx := Lib.hid hnx
    clear hsn hnx
    by_cases hlt : k < d
    · have hb1 : (bitOf v k).toNat ≤ 1 := by cases bitOf v k <;> decide
      have hle : v % 18446744073709551616 / 2 ^ k ≤ 18446744073709551615 := by
        have h1 : v % 18446744073709551616 / 2 ^ k ≤ v % 18446744073709551616 := Int.ediv_le_self _ (by omega)
        omega
      generalize v % 18446744073709551616 / 2 ^ k = U at *
      generalize (bitOf v k).toNat = b at *
      generalize bnums (lowB k v) = l at *
      have hsz := hbw.size
      go_wp2_with fail
      refine (refheld_any x wr).mono ?_
      rintro e w2 ⟨rfl, rfl⟩
      rw [Hd.out]
      go_wp2_with (
        at_builtin
        rw [hbit]
        refine ap_its (hown.alloc _) (Rd.oneI wr _ _) (hbw.alloc hbw.size _) (by simp; omega) (by omega) rfl rfl rfl ?_
        intro v' w' hown' hb' _ _)
      go_roundw
      case rel => exact ⟨k + 1, by omega, by go_num, by rw [← Hnx.out], by rw [Hsn.out]; exact hown', hb'⟩
      case measure => first | (simp [intOf]; omega) | simp [intOf]
    · have : k = d := by omega
      subst this
      clear Hsn Hnx hbit hge
      go_wp2_with fail
      refine (refheld_any x wr).mono ?_
      rintro e w2 ⟨rfl, rfl⟩
      rw [Hd.out]
      go_wp2
      go_ret
      exact ⟨_, rfl, hown, hbw⟩
end Go.Proofs.Ytnedboomhbdecaa
