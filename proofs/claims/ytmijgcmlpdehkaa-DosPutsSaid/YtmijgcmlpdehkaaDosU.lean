/- The walk of DosPuts. -/
import Derived.Test.YtmijgcmlpdehkaaDosO
namespace Go.Proofs.Ytmijgcmlpdehkaa
open Go.RowKit

theorem list_any (y m d h i s : Int) (w : World) :
    Calls Try.prog 11 #[.agg #[.int .i64 y, .int .i64 m, .int .i64 d, .int .i64 h, .int .i64 i, .int .i64 s]] w fun e w' => ∃ g, e = .returned (.slice (some ⟨g, 0, none⟩) 6 6) ∧ Six w' g y m d h i s ∧ g < w'.heap.size ∧ Below w.heap.size w w' := by
  go_enter Try.func11, Try.ntmps11
  go_wp2_with fail
  go_ret
  have hb := Bk.new' (w.alloc (.cells #[.int .i64 y, .int .i64 m, .int .i64 d, .int .i64 h, .int .i64 i, .int .i64 s] 32)) 3 #[.int .i64 y, .int .i64 m, .int .i64 d, .int .i64 h, .int .i64 i, .int .i64 s] (g := w.heap.size + 1) (by rw [asz])
  exact ⟨_, rfl, six6 hb, hb.lt, ((Below.refl _ _).alloc (Nat.le_refl _) _).alloc (by rw [asz]; omega) _⟩
set_option maxHeartbeats 1000000 in
theorem dosPuts_no (a0 b0 c0 d0 e0 f0 : Int) (w : World) (hr : ¬ Right6 a0 b0 c0 d0 e0 f0) :
    Calls Try.prog 5 #[.agg #[.int .i64 a0, .int .i64 b0, .int .i64 c0, .int .i64 d0, .int .i64 e0, .int .i64 f0]] w fun e w' => e = .returned (.bool true) ∧ Below w.heap.size w w' := by
  have H := Lib.hid hr
  clear hr
  go_enter Try.func5, Try.ntmps5
  go_wp2_with fail
  refine (doswakes_any _).mono ?_
  rintro e w1 ⟨rfl, hbw1⟩
  have hA := (Bk.new w 27 #[.int .i64 a0, .int .i64 b0, .int .i64 c0, .int .i64 d0, .int .i64 e0, .int .i64 f0]).below hbw1 (by rw [asz]; omega)
  have hbe1 : Below w.heap.size w w1 := ((Below.refl _ _).alloc (Nat.le_refl _) _).trans (hbw1.mono (by rw [asz]; omega))
  obtain ⟨k0, k1, k2, k3, k4, k5⟩ := six6 hA
  clear hA hbw1
  go_wp2_with fail
  refine (put_no _ _ _ _ _ _ _ H.out).mono ?_
  rintro e w2 ⟨rfl, hb2⟩
  have hM := (Bk.new w1 32 #[.int .i64 a0, .int .i64 b0, .int .i64 c0, .int .i64 d0, .int .i64 e0, .int .i64 f0]).below hb2 (by rw [asz]; omega)
  have hbe2 : Below w.heap.size w w2 := (hbe1.alloc hbe1.size _).trans (hb2.mono (by have := hbe1.size; rw [asz]; omega))
  obtain ⟨q0, q1, q2, q3, q4, q5⟩ := six6 hM
  clear hb2 hbe1 k0 k1 k2 k3 k4 k5
  go_wp2_with fail
  refine (list_any _ _ _ _ _ _ _).mono ?_
  rintro e w3 ⟨g3, rfl, hs3, hg3, hb3⟩
  have hM3 := hM.below hb3 hM.lt
  have hbe3 := hbe2.trans (hb3.mono hbe2.size)
  clear hM hb3 hbe2 q0 q1 q2 q3 q4 q5
  go_wp2_with fail
  refine (refnumber_no g3 6 _ _ _ _ _ _ w3 hs3 hg3 H.out).mono ?_
  rintro e w4 ⟨rfl, hb4⟩
  have hM4 := hM3.below hb4 hM3.lt
  have hbe4 := hbe3.trans (hb4.mono hbe3.size)
  obtain ⟨q0, q1, q2, q3, q4, q5⟩ := six6 hM4
  clear hM3 hb4 hbe3 hs3
  go_wp2_with fail
  refine (right_no _ _ _ _ _ _ _ H.out).mono ?_
  rintro e w5 ⟨rfl, hb5⟩
  go_wp2
  go_ret
  exact ⟨rfl, hbe4.trans (hb5.mono hbe4.size)⟩
set_option maxHeartbeats 1000000 in
theorem dosPuts_yes (a0 b0 c0 d0 e0 f0 : Int) (w : World) (hr : Right6 a0 b0 c0 d0 e0 f0) :
    Calls Try.prog 5 #[.agg #[.int .i64 a0, .int .i64 b0, .int .i64 c0, .int .i64 d0, .int .i64 e0, .int .i64 f0]] w fun e w' => e = .returned (.bool true) ∧ Below w.heap.size w w' := by
  have hp := dosN_parts _ _ _ _ _ _ hr
  obtain ⟨p0, p1, p2, p3, p4, p5, p6, p7⟩ := hp
  have hRN : RightN (dosN a0 b0 c0 d0 e0 f0) := by
    unfold RightN; rw [p0, p1, p2, p3, p4, p5]; unfold Right6 at hr ⊢; omega
  have hget := fun W => get_yes (dosN a0 b0 c0 d0 e0 f0) W (by omega) hRN
  rw [p0, p1, p2, p3, p4, p5] at hget
  have hr2 : Right6 a0 b0 c0 d0 e0 (f0 - f0 % 2) := by unfold Right6 at hr ⊢; omega
  have hf0 : 0 ≤ f0 := by unfold Right6 at hr; omega
  have hf1 : f0 ≤ 59 := by unfold Right6 at hr; omega
  have H := Lib.hid hr
  have H2 := Lib.hid hr2
  have Hget := Lib.hid hget
  clear hr hr2 hget p0 p1 p2 p3 p4 p5 hRN
  go_enter Try.func5, Try.ntmps5
  go_wp2_with fail
  refine (doswakes_any _).mono ?_
  rintro e w1 ⟨rfl, hbw1⟩
  have hA := (Bk.new w 27 #[.int .i64 a0, .int .i64 b0, .int .i64 c0, .int .i64 d0, .int .i64 e0, .int .i64 f0]).below hbw1 (by rw [asz]; omega)
  have hbe1 : Below w.heap.size w w1 := ((Below.refl _ _).alloc (Nat.le_refl _) _).trans (hbw1.mono (by rw [asz]; omega))
  obtain ⟨k0, k1, k2, k3, k4, k5⟩ := six6 hA
  clear hA hbw1
  go_wp2_with fail
  refine (put_yes _ _ _ _ _ _ _ H.out).mono ?_
  rintro e w2 ⟨rfl, hb2⟩
  have hM := (Bk.new w1 32 #[.int .i64 a0, .int .i64 b0, .int .i64 c0, .int .i64 d0, .int .i64 e0, .int .i64 f0]).below hb2 (by rw [asz]; omega)
  have hbe2 : Below w.heap.size w w2 := (hbe1.alloc hbe1.size _).trans (hb2.mono (by have := hbe1.size; rw [asz]; omega))
  have hg1 : w.heap.size ≤ w1.heap.size := hbe1.size
  obtain ⟨q0, q1, q2, q3, q4, q5⟩ := six6 hM
  clear hb2 hbe1 k0 k1 k2 k3 k4 k5
  go_wp2_with fail
  refine (list_any _ _ _ _ _ _ _).mono ?_
  rintro e w3 ⟨g3, rfl, hs3, hg3, hb3⟩
  have hM3 := hM.below hb3 hM.lt
  have hbe3 := hbe2.trans (hb3.mono hbe2.size)
  clear hM hb3 hbe2 q0 q1 q2 q3 q4 q5
  go_wp2_with fail
  refine (refnumber_yes g3 6 _ _ _ _ _ _ w3 hs3 hg3 H.out).mono ?_
  rintro e w4 ⟨rfl, hb4⟩
  have hM4 := hM3.below hb4 hM3.lt
  have hbe4 := hbe3.trans (hb4.mono hbe3.size)
  clear hM3 hb4 hbe3 hs3
  go_wp2_with fail
  refine (Hget.out w4).mono ?_
  rintro e w5 ⟨rfl, hb5⟩
  have hM5 := hM4.below hb5 hM4.lt
  have hbe5 := hbe4.trans (hb5.mono hbe4.size)
  obtain ⟨q0, q1, q2, q3, q4, q5⟩ := six6 hM5
  have hfr := hM5.free 5
  clear hM4 hb5 hbe4 Hget
  have hlt : w1.heap.size < w5.heap.size := hM5.lt
  have hne : ¬ w1.heap.size = w5.heap.size := by omega
  go_wp2_with fail
  have hset := hM5.set 5 (.int .i64 (f0 - f0 % 2))
  simp only [List.setIfInBounds_toArray, List.set_cons_zero, List.set_cons_succ] at hset
  have hsz5 : (w5.setCell ⟨w1.heap.size, 5, none⟩ (.int .i64 (f0 - f0 % 2))).heap.size = w5.heap.size := by simp [World.setCell]
  have hx6 := Bk.new' (w5.setCell ⟨w1.heap.size, 5, none⟩ (.int .i64 (f0 - f0 % 2))) 32 #[.int .i64 a0, .int .i64 b0, .int .i64 c0, .int .i64 d0, .int .i64 e0, .int .i64 (f0 - f0 % 2)] (g := w5.heap.size) hsz5.symm
  have hm6 := hset.alloc (.cells #[.int .i64 a0, .int .i64 b0, .int .i64 c0, .int .i64 d0, .int .i64 e0, .int .i64 (f0 - f0 % 2)] 32)
  have hbe6 := (hbe5.setCell (p := ⟨w1.heap.size, 5, none⟩) hg1 (.int .i64 (f0 - f0 % 2))).alloc (by rw [hsz5]; exact hbe5.size) (.cells #[.int .i64 a0, .int .i64 b0, .int .i64 c0, .int .i64 d0, .int .i64 e0, .int .i64 (f0 - f0 % 2)] 32)
  clear hset hM5 q0 q1 q2 q3 q4 q5 hfr hsz5
  refine (right_yes _ _ _ _ _ _ _ H2.out).mono ?_
  rintro e w6 ⟨rfl, hb6⟩
  have hx7 := hx6.below hb6 hx6.lt
  have hm7 := hm6.below hb6 hm6.lt
  have hbe7 := hbe6.trans (hb6.mono hbe6.size)
  obtain ⟨q0, q1, q2, q3, q4, q5⟩ := six6 hm7
  obtain ⟨k0, k1, k2, k3, k4, k5⟩ := six6 hx7
  clear hx6 hm6 hb6 hbe6 hx7 hm7
  go_wp2_with fail
  go_ret
  exact ⟨ret_bool (by first | rfl | simp), hbe7⟩
theorem dosPuts_walk (a0 b0 c0 d0 e0 f0 : Int) (w : World) (_ : i64b a0) (_ : i64b b0) (_ : i64b c0) (_ : i64b d0) (_ : i64b e0) (_ : i64b f0) :
    Calls Try.prog 5 #[.agg #[.int .i64 a0, .int .i64 b0, .int .i64 c0, .int .i64 d0, .int .i64 e0, .int .i64 f0]] w fun e w' => e = .returned (.bool true) ∧ Below w.heap.size w w' := by
  by_cases h0 : Right6 a0 b0 c0 d0 e0 f0
  · exact dosPuts_yes _ _ _ _ _ _ w h0
  · exact dosPuts_no _ _ _ _ _ _ w h0
end Go.Proofs.Ytmijgcmlpdehkaa
