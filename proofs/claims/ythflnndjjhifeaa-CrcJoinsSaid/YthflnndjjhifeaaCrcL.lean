/- The walks of CrcNil and CrcJoins, and of the example that all laws of layer 2 begin with. -/
import Derived.Test.YthflnndjjhifeaaCrc2
namespace Go.Proofs.Ythflnndjjhifeaa
open Go.RowKit

theorem crcwakes_any (w : World) : Calls Try.prog 15 #[] w fun e w' => e = .returned (.bool true) ∧ Below w.heap.size w w' := by
  have hv : (((crcOf [49, 50, 51, 52, 53, 54, 55, 56, 57]).toNat : Nat) : Int) = 3421780262 := by decide +kernel
  have Hv := Lib.hid hv
  clear hv
  go_enter Try.func15, Try.ntmps15
  have kc := fun (w : World) (C : Array Value) (n c : Nat) => Lib.run_convert_bytes_const (P := Try.prog) w 22 5 C n c Try.underlying22 Try.underlying5
  go_wp2_with fail
  refine (crcof_any _ 1 1 [[49, 50, 51, 52, 53, 54, 55, 56, 57]] _ ((RdRows.one' _ _ (RdB.mk ((Rd.lits w _ #[.int .u8 49, .int .u8 50, .int .u8 51, .int .u8 52, .int .u8 53, .int .u8 54, .int .u8 55, .int .u8 56, .int .u8 57] rfl).more (by simp)) (Nat.le_refl _)) (Nat.le_refl _) (by simp)).more (by simp)) (by omega) (by simp)).mono ?_
  rintro e w1 ⟨rfl, hb1⟩
  have hf : [[49, 50, 51, 52, 53, 54, 55, 56, 57]].flatten = ([49, 50, 51, 52, 53, 54, 55, 56, 57] : List UInt8) := rfl
  rw [hf, Hv.out]
  go_wp2
  go_ret
  exact ⟨rfl, (((Below.refl _ _).alloc (Nat.le_refl _) _).alloc (by simp) _).trans (hb1.mono (by simp; omega))⟩

/-- The same bytes behind both. -/
theorem joins_plain (a b m : List UInt8) : (((crcOf a).toNat : Int) == ((crcOf b).toNat : Int)) = (((crcOf (a ++ m)).toNat : Int) == ((crcOf (b ++ m)).toNat : Int)) := by
  have key : ∀ x y : BitVec 32, ((x.toNat : Int) == (y.toNat : Int)) = decide (x = y) := by
    intro x y
    by_cases h : x = y
    · subst h; simp
    · have : x.toNat ≠ y.toNat := fun e => h (BitVec.eq_of_toNat_eq e)
      simp [h]; omega
  rw [key, key, decide_eq_decide, crcOf_eq, crcOf_eq, crcS_app, crcS_app]
  exact ⟨fun h => by rw [h], fun h => crcS_inj h⟩

theorem add_nil (A : Option Addr) (n c : Nat) (w : World) : Calls Try.prog 18 #[.pointer none, .slice A n c] w fun e w' => e = .returned (.tuple #[]) ∧ w = w' := by
  go_enter Try.func18, Try.ntmps18
  go_wp2
  refine bodyPost_ret (results_none rfl _ _ _) rfl ?_
  exact ⟨rfl, rfl⟩
theorem sum_nil (w : World) : Calls Try.prog 19 #[.pointer none] w fun e w' => e = .returned (.int .u32 0) ∧ w = w' := by
  go_enter Try.func19, Try.ntmps19
  go_wp2
  go_ret
  exact ⟨rfl, rfl⟩
theorem len_nil (w : World) : Calls Try.prog 21 #[.pointer none] w fun e w' => e = .returned (.int .i64 0) ∧ w = w' := by
  go_enter Try.func21, Try.ntmps21
  go_wp2
  go_ret
  exact ⟨rfl, rfl⟩
theorem crcNil_walk (A : Option Addr) (n c : Nat) (l : List UInt8) (w : World) (_hr : Rd w w.heap.size 1 A n (bys l)) (_hnc : n ≤ c) (_hcm : c ≤ maxLen) :
    Calls Try.prog 6 #[.slice A n c] w fun e w' => e = .returned (.bool true) ∧ Below w.heap.size w w' := by
  go_enter Try.func6, Try.ntmps6
  go_wp2_with fail
  refine (crcwakes_any w).mono ?_
  rintro e w1 ⟨rfl, hb1⟩
  go_wp2_with fail
  refine (add_nil A n c w1).mono ?_
  rintro e w2 ⟨rfl, rfl⟩
  go_wp2_with fail
  refine (sum_nil w1).mono ?_
  rintro e w2 ⟨rfl, rfl⟩
  go_wp2_with fail
  refine (len_nil w1).mono ?_
  rintro e w2 ⟨rfl, rfl⟩
  go_wp2
  go_ret
  exact ⟨rfl, hb1⟩

set_option maxHeartbeats 1000000 in
theorem crcJoins_walk (A1 : Option Addr) (n1 c1 : Nat) (l1 : List UInt8) (A2 : Option Addr) (n2 c2 : Nat) (l2 : List UInt8) (A3 : Option Addr) (n3 c3 : Nat) (l3 : List UInt8) (w : World)
    (hr1 : Rd w w.heap.size 1 A1 n1 (bys l1)) (hnc1 : n1 ≤ c1) (_hcm1 : c1 ≤ maxLen) (hr2 : Rd w w.heap.size 1 A2 n2 (bys l2)) (hnc2 : n2 ≤ c2) (_hcm2 : c2 ≤ maxLen) (hr3 : Rd w w.heap.size 1 A3 n3 (bys l3)) (hnc3 : n3 ≤ c3) (_hcm3 : c3 ≤ maxLen) :
    Calls Try.prog 4 #[.slice A1 n1 c1, .slice A2 n2 c2, .slice A3 n3 c3] w fun e w' => e = .returned (.bool true) ∧ Below w.heap.size w w' := by
  have hcm1 := _hcm1
  have hcm2 := _hcm2
  have hcm3 := _hcm3
  unfold maxLen at hcm1 hcm2 hcm3
  by_cases h1 : 500 < n1
  · go_enter Try.func4, Try.ntmps4
    go_wp2_with fail
    refine (crcwakes_any w).mono ?_
    rintro e w1 ⟨rfl, hb1⟩
    go_wp2
    go_ret
    exact ⟨rfl, hb1⟩
  by_cases h3 : 500 < n3
  · go_enter Try.func4, Try.ntmps4
    go_wp2_with fail
    refine (crcwakes_any w).mono ?_
    rintro e w1 ⟨rfl, hb1⟩
    go_wp2
    go_ret
    exact ⟨rfl, hb1⟩
  by_cases h12 : n1 = n2
  · subst h12
    have hl1 := hr1.blen
    have hl2 := hr2.blen
    have hl3 := hr3.blen
    have one : ∀ (w1 : World) (A : Option Addr) (c : Nat) (l : List UInt8), Below w.heap.size w w1 → Rd w w.heap.size 1 A n1 (bys l) → n1 ≤ c → l.length = n1 →
        Calls Try.prog 16 #[.slice (some ⟨w1.heap.size, 0, none⟩) 1 1] (w1.alloc (.cells #[.slice A n1 c] 22)) fun e w' => e = .returned (.int .u32 ((crcOf l).toNat : Int)) ∧ Below w.heap.size w w' := by
      intro w1 A c l hb1 hr hc hl
      refine (crcof_any _ 1 1 [l] _ ((RdRows.one w1 _ (RdB.mk ((hr.below hb1 (Nat.le_refl _)).more hb1.size) hc) (Nat.le_refl _)).more (by simp)) (by omega) (by simp; omega)).mono ?_
      rintro e w2 ⟨rfl, hb2⟩
      exact ⟨by simp, below_new hb1 (by simpa using hb2)⟩
    have two : ∀ (w1 : World) (A : Option Addr) (c : Nat) (l : List UInt8), Below w.heap.size w w1 → Rd w w.heap.size 1 A n1 (bys l) → n1 ≤ c → l.length = n1 →
        Calls Try.prog 16 #[.slice (some ⟨w1.heap.size, 0, none⟩) 2 2] (w1.alloc (.cells #[.slice A n1 c, .slice A3 n3 c3] 22)) fun e w' => e = .returned (.int .u32 ((crcOf (l ++ l3)).toNat : Int)) ∧ Below w.heap.size w w' := by
      intro w1 A c l hb1 hr hc hl
      refine (crcof_any _ 2 2 [l, l3] _ ((RdRows.two w1 _ (RdB.mk ((hr.below hb1 (Nat.le_refl _)).more hb1.size) hc) (RdB.mk ((hr3.below hb1 (Nat.le_refl _)).more hb1.size) hnc3) (Nat.le_refl _)).more (by simp)) (by omega) (by simp; omega)).mono ?_
      rintro e w2 ⟨rfl, hb2⟩
      exact ⟨by simp, below_new hb1 (by simpa using hb2)⟩
    have Hone := Lib.hid one
    have Htwo := Lib.hid two
    have hj := joins_plain l1 l2 l3
    have Hj := Lib.hid hj
    clear one two hl1 hl2 hl3 hj
    go_enter Try.func4, Try.ntmps4
    go_wp2_with fail
    refine (crcwakes_any w).mono ?_
    rintro e w1 ⟨rfl, hb1⟩
    go_wp2_with fail
    refine (Hone.out w1 A1 c1 l1 hb1 hr1 hnc1 hr1.blen).mono ?_
    rintro e w2 ⟨rfl, hb2⟩
    go_wp2_with fail
    refine (Hone.out w2 A2 c2 l2 hb2 hr2 hnc2 hr2.blen).mono ?_
    rintro e w3 ⟨rfl, hb3⟩
    go_wp2_with fail
    refine (Htwo.out w3 A1 c1 l1 hb3 hr1 hnc1 hr1.blen).mono ?_
    rintro e w4 ⟨rfl, hb4⟩
    go_wp2_with fail
    refine (Htwo.out w4 A2 c2 l2 hb4 hr2 hnc2 hr2.blen).mono ?_
    rintro e w5 ⟨rfl, hb5⟩
    generalize ((crcOf l1).toNat : Int) = y1 at *
    generalize ((crcOf l2).toNat : Int) = y2 at *
    generalize ((crcOf (l1 ++ l3)).toNat : Int) = y3 at *
    generalize ((crcOf (l2 ++ l3)).toNat : Int) = y4 at *
    go_wp2
    go_ret
    exact ⟨ret_bool (by rw [Hj.out]; simp), hb5⟩
  · have hne : ((n1 : Int) != (n2 : Int)) = true := by rw [bne_iff_ne]; omega
    go_enter Try.func4, Try.ntmps4
    go_wp2_with fail
    refine (crcwakes_any w).mono ?_
    rintro e w1 ⟨rfl, hb1⟩
    go_wp2
    go_ret
    exact ⟨rfl, hb1⟩
end Go.Proofs.Ythflnndjjhifeaa
