/- Contracts of the reference for bits: Bits. -/
import Derived.Test.YtnedboomhbdecaaBit9
namespace Go.Proofs.Ytnedboomhbdecaa
open Go.RowKit

set_option maxHeartbeats 1000000 in
theorem refbits_any (B : Nat) (A : Option Addr) (n c : Nat) (l : List UInt8) (w : World) (hr : Rd w B 1 A n (bys l)) (hB : B ≤ w.heap.size) (hn : n ≤ 100000000) :
    Calls Try.prog 37 #[.slice A n c] w fun e w' => ∃ r, e = .returned r ∧ w'.ownsRow w.heap.size 3 1 r (8 * n) (its (bnums (bitsB l))) ∧ Below w.heap.size w w' := by
  have hll := hr.blen
  have Hll := Lib.hid hll
  clear hll
  go_enter Try.func37, Try.ntmps37
  go_wp2_with fail
  go_loopw [3, 4] (fun o i wr => ∃ j : Nat, j ≤ n ∧ i = .int .i64 j ∧ wr.ownsRow w.heap.size 3 1 o (8 * j) (its (bnums (bitsB (l.take j)))) ∧ Below w.heap.size w wr) (fun _ i _ => n - (intOf i).toNat)
  case atStart => exact ⟨0, Nat.zero_le _, rfl, own_nilI _ _ _, Below.refl _ _⟩
  case round =>
    obtain ⟨j, hj, rfl, hown, hbw⟩ := hrel
    by_cases hlt : j < n
    · obtain ⟨b, o, u, rfl, hbb, hx, hu, hc⟩ := hr.byte hlt
      have hc' := (hbw.cell (p := ⟨b, o + j, none⟩) (by show b < _; omega)).trans hc
      have HX := Lib.hid hx
      clear hx hc
      go_wp2_with fail
      go_loopw [3, 5, 6] (fun o z k wr => ∃ m : Nat, m ≤ 8 ∧ k = .int .i64 m ∧ z = .int .i64 ((u.toNat : Int) / 2 ^ m) ∧ wr.ownsRow w.heap.size 3 1 o (8 * j + m) (its (bnums (bitsB (l.take j) ++ lowB m (u.toNat : Int)))) ∧ Below w.heap.size w wr) (fun _ _ k _ => 8 - (intOf k).toNat)
      case atStart => exact ⟨0, Nat.zero_le _, rfl, by simp, by simpa [lowB_zero] using hown, hbw⟩
      case round =>
        clear hown hbw hc'
        obtain ⟨m, hm, rfl, rfl, hown, hbw⟩ := hrel
        have hsz := hbw.size
        by_cases hmt : m < 8
        · have hbit := bitOf_int (u.toNat : Int) m
          have hb1 : (bitOf (u.toNat : Int) m).toNat ≤ 1 := by cases bitOf (u.toNat : Int) m <;> decide
          have hnx : (u.toNat : Int) / 2 ^ m / 2 = (u.toNat : Int) / 2 ^ (m + 1) := by
            rw [Int.ediv_ediv_of_nonneg (Int.le_of_lt (Int.pow_pos (by decide))), Int.pow_succ]
          have hge : 0 ≤ (u.toNat : Int) / 2 ^ m := Int.ediv_nonneg (by omega) (Int.le_of_lt (Int.pow_pos (by decide)))
          have hle : (u.toNat : Int) / 2 ^ m ≤ 255 := by
            have h1 : (u.toNat : Int) / 2 ^ m ≤ (u.toNat : Int) := Int.ediv_le_self _ (by omega)
            omega
          have hsn : bnums (bitsB (l.take j) ++ lowB (m + 1) (u.toNat : Int)) = bnums (bitsB (l.take j) ++ lowB m (u.toNat : Int)) ++ [((bitOf (u.toNat : Int) m).toNat : Int)] := by rw [lowB_succ, ← List.append_assoc, bnums_snoc]
          have Hsn := Lib.hid hsn
          have Hnx := Lib.hid hnx
          clear hsn hnx HX
          generalize (u.toNat : Int) / 2 ^ m = U at *
          generalize (bitOf (u.toNat : Int) m).toNat = y at *
          generalize bnums (bitsB (l.take j) ++ lowB m (u.toNat : Int)) = q at *
          go_wp2_with (
            at_builtin
            rw [hbit]
            refine ap_its (hown.alloc _) (Rd.oneI wr _ _) (hbw.alloc hbw.size _) (by simp; omega) (by omega) rfl rfl rfl ?_
            intro v' w' hown' hb' _ _)
          go_roundw
          case rel => exact ⟨m + 1, by omega, by go_num, by rw [← Hnx.out], by rw [Hsn.out]; exact hown', hb'⟩
          case measure => first | (simp [intOf]; omega) | simp [intOf]
        · have : m = 8 := by omega
          subst this
          have hst : bitsB (l.take (j + 1)) = bitsB (l.take j) ++ lowB 8 (u.toNat : Int) := by rw [take_step HX.out, bitsB_app]; simp [bitsB]
          have Hst := Lib.hid hst
          clear hst
          go_wp2
          go_roundw
          case rel => exact ⟨j + 1, by omega, by go_num, by rw [Hst.out]; exact hown, hbw⟩
          case measure => first | (simp [intOf]; omega) | simp [intOf]
    · have : j = n := by omega
      subst this
      rw [List.take_of_length_le (by have := Hll.out; omega)] at hown
      go_wp2
      go_ret
      exact ⟨_, rfl, hown, hbw⟩
end Go.Proofs.Ytnedboomhbdecaa
