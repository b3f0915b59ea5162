/- The contract of the reference's Same. -/
import Derived.Test.YtknjopefbbldfaaGreatDoorBase
import Derived.Test.YtknjopefbbldfaaGreatDoorRows
namespace Go.Proofs.YtknjopefbbldfaaGreatDoor
open Go.RowKit

/-- Two lists of bytes, gone through side by side. -/
theorem same_any (A B : Option Addr) (n m c d : Nat) (l r : List UInt8) (w : World) (hl : Rd w w.heap.size 1 A n (bys l)) (hr : Rd w w.heap.size 1 B m (bys r)) (hn : n ≤ 9223372036854775807) (hm : m ≤ 9223372036854775807) :
    Calls Tryz.prog 32 #[.slice A n c, .slice B m d] w fun e w' => e = .returned (.bool (decide (l = r))) ∧ ∃ q, w' = w.drewN q := by
  have hln : l.length = n := hl.blen
  have hrm : r.length = m := hr.blen
  by_cases hnm : n = m
  · have hlr : l.length = r.length := by omega
    subst hnm
    have Hln := Lib.hid hln
    have Hlr := Lib.hid hlr
    clear hln hrm hlr
    go_enter Tryz.func32, Tryz.ntmps32
    go_wp2_with fail
    go_loopw [5] (fun a wr => ∃ j : Nat, j ≤ n ∧ a = .int .i64 j ∧ Hid (l.take j = r.take j) ∧ ∃ q, wr = w.drewN q) (fun a _ => n - (intOf a).toNat)
    case atStart => exact ⟨0, Nat.zero_le _, rfl, rfl, 0, rfl⟩
    case round =>
      obtain ⟨j, hj, rfl, hjt, q, rfl⟩ := hrel
      by_cases hlt : j < n
      · obtain ⟨b, o, u, rfl, hb, hx, hu, hc⟩ := hl.byte (k := j) hlt
        obtain ⟨b2, o2, u2, rfl, hb2, hx2, hu2, hc2⟩ := hr.byte (k := j) hlt
        have HX := Lib.hid hx
        have HX2 := Lib.hid hx2
        clear hx hx2
        have hj1 : (j : Int) < (n : Int) := by omega
        by_cases huu : u = u2
        · have hne : ((u.toNat : Int) != (u2.toNat : Int)) = false := by rw [huu]; simp
          have HU := Lib.hid huu
          clear huu
          go_wp2_with fail
          go_quiet (fail)
          go_wp2
          go_roundw
          case rel => exact ⟨j + 1, by omega, by go_num, Lib.hid (by rw [take_step HX.out, take_step HX2.out, hjt.out, HU.out]), _, rfl⟩
          case measure => simp [intOf]; omega
        · have hne : ((u.toNat : Int) != (u2.toNat : Int)) = true := by
            rw [bne_iff_ne]; intro h; exact huu (UInt8.toNat_inj.1 (by omega))
          have HU := Lib.hid huu
          clear huu
          go_wp2_with fail
          go_quiet (fail)
          go_wp2
          go_ret
          refine ⟨ret_bool ?_, _, World.drewN_drewN _ _ _⟩
          symm
          rw [decide_eq_false_iff_not]
          intro h
          have := HX.out
          rw [h, HX2.out] at this
          injection this with this
          exact HU.out this.symm
      · have : j = n := by omega
        subst this
        go_wp2
        go_ret
        refine ⟨ret_bool ?_, _, rfl⟩
        symm
        rw [decide_eq_true_iff]
        have := hjt.out
        rwa [List.take_of_length_le (by have := Hln.out; omega), List.take_of_length_le (by have := Hlr.out; have := Hln.out; omega)] at this
  · have hne : ((n : Int) != (m : Int)) = true := by rw [bne_iff_ne]; omega
    have hlr : ¬ l = r := by rintro rfl; omega
    have Hlr := Lib.hid hlr
    clear hln hrm hlr
    go_enter Tryz.func32, Tryz.ntmps32
    go_wp2
    go_ret
    exact ⟨ret_bool (by rw [decide_eq_false Hlr.out]), 0, rfl⟩

end Go.Proofs.YtknjopefbbldfaaGreatDoor
