/- The contract of dos.Get. -/
import Derived.Test.YtmijgcmlpdehkaaDoorDos2
namespace Go.Proofs.YtmijgcmlpdehkaaDoor
open Go.RowKit

theorem dand15 (x : Int) : bits .and .i64 x 15 = x % 16 := by
  show IntKind.i64.wrap ((BitVec.ofInt 64 x &&& BitVec.ofInt 64 15).toNat : Int) = _
  have e : (BitVec.ofInt 64 15).toNat = 2 ^ 4 - 1 := rfl
  rw [BitVec.toNat_and, e, Nat.and_two_pow_sub_one_eq_mod, BitVec.toNat_ofInt, IntKind.wrap_i64]
  omega
theorem dand31 (x : Int) : bits .and .i64 x 31 = x % 32 := by
  show IntKind.i64.wrap ((BitVec.ofInt 64 x &&& BitVec.ofInt 64 31).toNat : Int) = _
  have e : (BitVec.ofInt 64 31).toNat = 2 ^ 5 - 1 := rfl
  rw [BitVec.toNat_and, e, Nat.and_two_pow_sub_one_eq_mod, BitVec.toNat_ofInt, IntKind.wrap_i64]
  omega
theorem dand63 (x : Int) : bits .and .i64 x 63 = x % 64 := by
  show IntKind.i64.wrap ((BitVec.ofInt 64 x &&& BitVec.ofInt 64 63).toNat : Int) = _
  have e : (BitVec.ofInt 64 63).toNat = 2 ^ 6 - 1 := rfl
  rw [BitVec.toNat_and, e, Nat.and_two_pow_sub_one_eq_mod, BitVec.toNat_ofInt, IntKind.wrap_i64]
  omega
theorem asz (v : World) (o : Obj) : (v.alloc o).heap.size = v.heap.size + 1 := by simp
/-- The parts of a number. -/
def RightN (n : Int) : Prop := Right6 (1980 + n / 33554432) (n / 2097152 % 16) (n / 65536 % 32) (n / 2048 % 32) (n / 32 % 64) (n % 32 * 2)
theorem dosN_of (n : Int) : dosN (1980 + n / 33554432) (n / 2097152 % 16) (n / 65536 % 32) (n / 2048 % 32) (n / 32 % 64) (n % 32 * 2) = n := by
  unfold dosN; omega

set_option maxHeartbeats 1000000 in
theorem get_yes (n : Int) (w : World) (hn : -9223372036854775808 ≤ n ∧ n ≤ 9223372036854775807) (hr : RightN n) :
    Calls Tryd.prog 6 #[.int .i64 n] w fun e w' => e = .returned (.tuple #[.agg #[.int .i64 (1980 + n / 33554432), .int .i64 (n / 2097152 % 16), .int .i64 (n / 65536 % 32), .int .i64 (n / 2048 % 32), .int .i64 (n / 32 % 64), .int .i64 (n % 32 * 2)], .int .i64 0]) ∧ Below w.heap.size w w' := by
  have a1 := dand15 (n / 2097152)
  have a2 := dand31 (n / 65536)
  have a3 := dand31 (n / 2048)
  have a4 := dand63 (n / 32)
  have a5 := dand31 n
  have hN := dosN_of n
  have HN := Lib.hid hN
  have HR := Lib.hid hr
  clear hN hr
  go_enter Tryd.func6, Tryd.ntmps6
  go_wp2_with fail
  refine (put_yes _ _ _ _ _ _ _ HR.out).mono ?_
  rintro e w1 ⟨rfl, hb1⟩
  rw [HN.out]
  have hres := Bk.new w 24 #[.int .i64 0, .int .i64 0, .int .i64 0, .int .i64 0, .int .i64 0, .int .i64 0]
  have hb0 := (hres.alloc (.cells #[.int .i64 (1980 + n / 33554432), .int .i64 (n / 2097152 % 16), .int .i64 (n / 65536 % 32), .int .i64 (n / 2048 % 32), .int .i64 (n / 32 % 64), .int .i64 (n % 32 * 2)] 24)).below hb1 (by rw [asz, asz]; omega)
  have hm0 := (Bk.new' (w.alloc (.cells #[.int .i64 0, .int .i64 0, .int .i64 0, .int .i64 0, .int .i64 0, .int .i64 0] 24)) 24 #[.int .i64 (1980 + n / 33554432), .int .i64 (n / 2097152 % 16), .int .i64 (n / 65536 % 32), .int .i64 (n / 2048 % 32), .int .i64 (n / 32 % 64), .int .i64 (n % 32 * 2)] (g := w.heap.size + 1) (by rw [asz])).below hb1 (by rw [asz, asz]; omega)
  have hbe : Below w.heap.size w w1 := (((Below.refl _ _).alloc (Nat.le_refl _) _).alloc (by rw [asz]; omega) _).trans (hb1.mono (by rw [asz, asz]; omega))
  generalize e0 : 1980 + n / 33554432 = n0 at *
  have E0 := Lib.hid e0
  clear e0
  generalize e1 : n / 2097152 % 16 = n1 at *
  have E1 := Lib.hid e1
  clear e1
  generalize e2 : n / 65536 % 32 = n2 at *
  have E2 := Lib.hid e2
  clear e2
  generalize e3 : n / 2048 % 32 = n3 at *
  have E3 := Lib.hid e3
  clear e3
  generalize e4 : n / 32 % 64 = n4 at *
  have E4 := Lib.hid e4
  clear e4
  generalize e5 : n % 32 * 2 = n5 at *
  have E5 := Lib.hid e5
  clear e5
  have m0 := hm0.cell 0
  have m1 := hm0.cell 1
  have m2 := hm0.cell 2
  have m3 := hm0.cell 3
  have m4 := hm0.cell 4
  have m5 := hm0.cell 5
  have r0 := hb0.cell 0
  have r1 := hb0.cell 1
  have r2 := hb0.cell 2
  have r3 := hb0.cell 3
  have r4 := hb0.cell 4
  have r5 := hb0.cell 5
  have f0 := hb0.free 0
  have f1 := hb0.free 1
  have f2 := hb0.free 2
  have f3 := hb0.free 3
  have f4 := hb0.free 4
  have f5 := hb0.free 5
  simp at m0 m1 m2 m3 m4 m5 r0 r1 r2 r3 r4 r5
  have hs := (((((hb0.set 0 (.int .i64 n0)).set 1 (.int .i64 n1)).set 2 (.int .i64 n2)).set 3 (.int .i64 n3)).set 4 (.int .i64 n4)).set 5 (.int .i64 n5)
  simp only [List.setIfInBounds_toArray, List.set_cons_zero, List.set_cons_succ] at hs
  have hbs := (((((hbe.setCell (p := ⟨w.heap.size, 0, none⟩) (Nat.le_refl _) (.int .i64 n0)).setCell (p := ⟨w.heap.size, 1, none⟩) (Nat.le_refl _) (.int .i64 n1)).setCell (p := ⟨w.heap.size, 2, none⟩) (Nat.le_refl _) (.int .i64 n2)).setCell (p := ⟨w.heap.size, 3, none⟩) (Nat.le_refl _) (.int .i64 n3)).setCell (p := ⟨w.heap.size, 4, none⟩) (Nat.le_refl _) (.int .i64 n4)).setCell (p := ⟨w.heap.size, 5, none⟩) (Nat.le_refl _) (.int .i64 n5)
  have HS := Lib.hid (And.intro hs hbs)
  clear hb1 hm0 hb0 hres a1 a2 a3 a4 a5 hs hbs
  go_wp2
  obtain ⟨hs, hbs⟩ := HS.out
  clear HS r0 r1 r2 r3 r4 r5 f0 f1 f2 f3 f4 f5 m0 m1 m2 m3 m4 m5 hbe
  generalize ((((((w1.setCell ⟨w.heap.size, 0, none⟩ (.int .i64 n0)).setCell ⟨w.heap.size, 1, none⟩ (.int .i64 n1)).setCell ⟨w.heap.size, 2, none⟩ (.int .i64 n2)).setCell ⟨w.heap.size, 3, none⟩ (.int .i64 n3)).setCell ⟨w.heap.size, 4, none⟩ (.int .i64 n4)).setCell ⟨w.heap.size, 5, none⟩ (.int .i64 n5)) = W' at *
  have s0 := hs.cell 0
  have s1 := hs.cell 1
  have s2 := hs.cell 2
  have s3 := hs.cell 3
  have s4 := hs.cell 4
  have s5 := hs.cell 5
  simp at s0 s1 s2 s3 s4 s5
  refine bodyPost_ret (v := .tuple #[.agg #[.int .i64 n0, .int .i64 n1, .int .i64 n2, .int .i64 n3, .int .i64 n4, .int .i64 n5], .int .i64 0]) (by simp [results, Tryd.results6, go_sem, s0, s1, s2, s3, s4, s5]) rfl ⟨?_, hbs⟩
  obtain rfl := E0.out
  obtain rfl := E1.out
  obtain rfl := E2.out
  obtain rfl := E3.out
  obtain rfl := E4.out
  obtain rfl := E5.out
  rfl
set_option maxHeartbeats 1000000 in
theorem get_no (n : Int) (w : World) (hn : -9223372036854775808 ≤ n ∧ n ≤ 9223372036854775807) (hr : ¬ RightN n) :
    Calls Tryd.prog 6 #[.int .i64 n] w fun e w' => e = .returned (.tuple #[.agg #[.int .i64 0, .int .i64 0, .int .i64 0, .int .i64 0, .int .i64 0, .int .i64 0], .int .i64 1]) ∧ Below w.heap.size w w' := by
  have a1 := dand15 (n / 2097152)
  have a2 := dand31 (n / 65536)
  have a3 := dand31 (n / 2048)
  have a4 := dand63 (n / 32)
  have a5 := dand31 n
  have HR := Lib.hid hr
  clear hr
  go_enter Tryd.func6, Tryd.ntmps6
  go_wp2_with fail
  refine (put_no _ _ _ _ _ _ _ HR.out).mono ?_
  rintro e w1 ⟨rfl, hb1⟩
  have hres := Bk.new w 24 #[.int .i64 0, .int .i64 0, .int .i64 0, .int .i64 0, .int .i64 0, .int .i64 0]
  have hb0 := (hres.alloc (.cells #[.int .i64 (1980 + n / 33554432), .int .i64 (n / 2097152 % 16), .int .i64 (n / 65536 % 32), .int .i64 (n / 2048 % 32), .int .i64 (n / 32 % 64), .int .i64 (n % 32 * 2)] 24)).below hb1 (by rw [asz, asz]; omega)
  have hbe : Below w.heap.size w w1 := (((Below.refl _ _).alloc (Nat.le_refl _) _).alloc (by rw [asz]; omega) _).trans (hb1.mono (by rw [asz, asz]; omega))
  have r0 := hb0.cell 0
  have r1 := hb0.cell 1
  have r2 := hb0.cell 2
  have r3 := hb0.cell 3
  have r4 := hb0.cell 4
  have r5 := hb0.cell 5
  have f0 := hb0.free 0
  have f1 := hb0.free 1
  have f2 := hb0.free 2
  have f3 := hb0.free 3
  have f4 := hb0.free 4
  have f5 := hb0.free 5
  simp at r0 r1 r2 r3 r4 r5
  have hs := (((((hb0.set 0 (.int .i64 0)).set 1 (.int .i64 0)).set 2 (.int .i64 0)).set 3 (.int .i64 0)).set 4 (.int .i64 0)).set 5 (.int .i64 0)
  simp only [List.setIfInBounds_toArray, List.set_cons_zero, List.set_cons_succ] at hs
  have hbs := (((((hbe.setCell (p := ⟨w.heap.size, 0, none⟩) (Nat.le_refl _) (.int .i64 0)).setCell (p := ⟨w.heap.size, 1, none⟩) (Nat.le_refl _) (.int .i64 0)).setCell (p := ⟨w.heap.size, 2, none⟩) (Nat.le_refl _) (.int .i64 0)).setCell (p := ⟨w.heap.size, 3, none⟩) (Nat.le_refl _) (.int .i64 0)).setCell (p := ⟨w.heap.size, 4, none⟩) (Nat.le_refl _) (.int .i64 0)).setCell (p := ⟨w.heap.size, 5, none⟩) (Nat.le_refl _) (.int .i64 0)
  have HS := Lib.hid (And.intro hs hbs)
  clear hs hbs
  clear hb1 hb0 hres a1 a2 a3 a4 a5
  go_wp2
  obtain ⟨hs, hbs⟩ := HS.out
  clear HS r0 r1 r2 r3 r4 r5 f0 f1 f2 f3 f4 f5 hbe
  generalize ((((((w1.setCell ⟨w.heap.size, 0, none⟩ (.int .i64 0)).setCell ⟨w.heap.size, 1, none⟩ (.int .i64 0)).setCell ⟨w.heap.size, 2, none⟩ (.int .i64 0)).setCell ⟨w.heap.size, 3, none⟩ (.int .i64 0)).setCell ⟨w.heap.size, 4, none⟩ (.int .i64 0)).setCell ⟨w.heap.size, 5, none⟩ (.int .i64 0)) = W' at *
  have s0 := hs.cell 0
  have s1 := hs.cell 1
  have s2 := hs.cell 2
  have s3 := hs.cell 3
  have s4 := hs.cell 4
  have s5 := hs.cell 5
  simp at s0 s1 s2 s3 s4 s5
  exact bodyPost_ret (v := .tuple #[.agg #[.int .i64 0, .int .i64 0, .int .i64 0, .int .i64 0, .int .i64 0, .int .i64 0], .int .i64 1]) (by simp [results, Tryd.results6, go_sem, s0, s1, s2, s3, s4, s5]) rfl ⟨rfl, hbs⟩
end Go.Proofs.YtmijgcmlpdehkaaDoor
