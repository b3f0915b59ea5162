/- Contracts of the reference's Number. -/
import Derived.Test.YtmijgcmlpdehkaaDoorDos4
import Derived.Deep.RegionHeld3
import Derived.Deep.DrawnRows
namespace Go.Proofs.YtmijgcmlpdehkaaDoor
open Go.RowKit
attribute [local go_sem ↓] Go.wp_at_zero Go.wp_at_succ

set_option maxHeartbeats 1000000 in
theorem refnumber_yes (g c : Nat) (y m d h i s : Int) (w : World) (hs : Six w g y m d h i s) (hg : g < w.heap.size) (hr : Right6 y m d h i s) :
    Calls Tryd.prog 8 #[.slice (some ⟨g, 0, none⟩) 6 c] w fun e w' => e = .returned (.int .i64 (dosN y m d h i s)) ∧ Below w.heap.size w w' := by
  obtain ⟨⟨a1, a2⟩, ⟨b1, b2⟩, ⟨c1, c2⟩, ⟨d1, d2⟩, ⟨e1, e2⟩, ⟨f1, f2⟩⟩ := hr
  have hmd := mdays_bd y m
  have hdn : dosN y m d h i s = ((y - 1980) * 512 + m * 32 + d) * 65536 + h * 2048 + i * 32 + s / 2 := rfl
  have Hdn := Lib.hid hdn
  clear hdn
  have hS : ∀ w', Below w.heap.size w w' → Six w' g y m d h i s := fun w' hb => hs.below hb hg
  have HS := Lib.hid hS
  obtain ⟨k0, k1, k2, k3, k4, k5⟩ := hs
  clear hS
  have g1 : decide (y < 1980) = false := by simp; omega
  have g2 : decide (2107 < y) = false := by simp; omega
  have g3 : decide (m < 1) = false := by simp; omega
  have g4 : decide (12 < m) = false := by simp; omega
  have g5 : decide (d < 1) = false := by simp; omega
  have g6 : decide (mdays y m < d) = false := by simp; omega
  go_enter Tryd.func8, Tryd.ntmps8
  go_wp2_with fail
  go_region_held3 (fun w' => w'.cell? ⟨g, 0, none⟩ = some (.int .i64 y) ∧ w'.cell? ⟨g, 1, none⟩ = some (.int .i64 m) ∧ w'.cell? ⟨g, 2, none⟩ = some (.int .i64 d) ∧ w'.cell? ⟨g, 3, none⟩ = some (.int .i64 h) ∧ w'.cell? ⟨g, 4, none⟩ = some (.int .i64 i) ∧ w'.cell? ⟨g, 5, none⟩ = some (.int .i64 s)) (first | (exact HS.out _ hb4) | go_keep)
    ((go_at_call 14; refine (refdays_any _ _ _ (by omega) (by omega) (by omega)).mono ?_; rintro e w3 ⟨rfl, hb3⟩; have hb4 := (Below.refl w.heap.size w).drew.trans hb3))
  obtain ⟨q0, q1, q2, q3, q4, q5⟩ := HS.out _ hb4
  clear k0 k1 k2 k3 k4 k5 hb3
  go_wp2_with fail
  go_quiet (fail)
  go_wp2_with fail
  go_quiet (fail)
  go_wp2
  go_ret
  exact ⟨ret_int (by rw [Hdn.out]), by first | exact hb4 | exact below_drewN hb4 _ | exact below_drewN (below_drewN hb4 _) _⟩
set_option maxHeartbeats 1000000 in
theorem refnumber_a (g c : Nat) (y m d h i s : Int) (w : World) (hs : Six w g y m d h i s) (h1 : y < 1980) :
    Calls Tryd.prog 8 #[.slice (some ⟨g, 0, none⟩) 6 c] w fun e w' => e = .returned (.int .i64 (-1)) ∧ Below w.heap.size w w' := by
  obtain ⟨k0, k1, k2, k3, k4, k5⟩ := hs
  have g0 : decide (y < 1980) = true := by simp; omega
  go_enter Tryd.func8, Tryd.ntmps8
  go_wp2_with fail
  go_quiet (fail)
  go_wp2
  go_ret
  exact ⟨rfl, below_drewN (Below.refl _ _) _⟩
set_option maxHeartbeats 1000000 in
theorem refnumber_b (g c : Nat) (y m d h i s : Int) (w : World) (hs : Six w g y m d h i s) (h1 : 1980 ≤ y) (h2 : 2107 < y) :
    Calls Tryd.prog 8 #[.slice (some ⟨g, 0, none⟩) 6 c] w fun e w' => e = .returned (.int .i64 (-1)) ∧ Below w.heap.size w w' := by
  obtain ⟨k0, k1, k2, k3, k4, k5⟩ := hs
  have g0 : decide (y < 1980) = false := by simp; omega
  have g1 : decide (2107 < y) = true := by simp; omega
  go_enter Tryd.func8, Tryd.ntmps8
  go_wp2_with fail
  go_quiet (fail)
  go_wp2
  go_ret
  exact ⟨rfl, below_drewN (Below.refl _ _) _⟩
set_option maxHeartbeats 1000000 in
theorem refnumber_c (g c : Nat) (y m d h i s : Int) (w : World) (hs : Six w g y m d h i s) (h1 : 1980 ≤ y) (h2 : y ≤ 2107) (h3 : m < 1) :
    Calls Tryd.prog 8 #[.slice (some ⟨g, 0, none⟩) 6 c] w fun e w' => e = .returned (.int .i64 (-1)) ∧ Below w.heap.size w w' := by
  obtain ⟨k0, k1, k2, k3, k4, k5⟩ := hs
  have g0 : decide (y < 1980) = false := by simp; omega
  have g1 : decide (2107 < y) = false := by simp; omega
  have g2 : decide (m < 1) = true := by simp; omega
  go_enter Tryd.func8, Tryd.ntmps8
  go_wp2_with fail
  go_quiet (fail)
  go_wp2
  go_ret
  exact ⟨rfl, below_drewN (Below.refl _ _) _⟩
set_option maxHeartbeats 1000000 in
theorem refnumber_d (g c : Nat) (y m d h i s : Int) (w : World) (hs : Six w g y m d h i s) (h1 : 1980 ≤ y) (h2 : y ≤ 2107) (h3 : 1 ≤ m) (h4 : 12 < m) :
    Calls Tryd.prog 8 #[.slice (some ⟨g, 0, none⟩) 6 c] w fun e w' => e = .returned (.int .i64 (-1)) ∧ Below w.heap.size w w' := by
  obtain ⟨k0, k1, k2, k3, k4, k5⟩ := hs
  have g0 : decide (y < 1980) = false := by simp; omega
  have g1 : decide (2107 < y) = false := by simp; omega
  have g2 : decide (m < 1) = false := by simp; omega
  have g3 : decide (12 < m) = true := by simp; omega
  go_enter Tryd.func8, Tryd.ntmps8
  go_wp2_with fail
  go_quiet (fail)
  go_wp2
  go_ret
  exact ⟨rfl, below_drewN (Below.refl _ _) _⟩
set_option maxHeartbeats 1000000 in
theorem refnumber_e (g c : Nat) (y m d h i s : Int) (w : World) (hs : Six w g y m d h i s) (h1 : 1980 ≤ y) (h2 : y ≤ 2107) (h3 : 1 ≤ m) (h4 : m ≤ 12) (h5 : d < 1) :
    Calls Tryd.prog 8 #[.slice (some ⟨g, 0, none⟩) 6 c] w fun e w' => e = .returned (.int .i64 (-1)) ∧ Below w.heap.size w w' := by
  obtain ⟨k0, k1, k2, k3, k4, k5⟩ := hs
  have g0 : decide (y < 1980) = false := by simp; omega
  have g1 : decide (2107 < y) = false := by simp; omega
  have g2 : decide (m < 1) = false := by simp; omega
  have g3 : decide (12 < m) = false := by simp; omega
  have g4 : decide (d < 1) = true := by simp; omega
  go_enter Tryd.func8, Tryd.ntmps8
  go_wp2_with fail
  go_quiet (fail)
  go_wp2
  go_ret
  exact ⟨rfl, below_drewN (Below.refl _ _) _⟩
set_option maxHeartbeats 1000000 in
theorem refnumber_day (g c : Nat) (y m d h i s : Int) (w : World) (hs : Six w g y m d h i s) (hg : g < w.heap.size) (hy : 1980 ≤ y ∧ y ≤ 2107) (hm : 1 ≤ m ∧ m ≤ 12) (hd : mdays y m < d) :
    Calls Tryd.prog 8 #[.slice (some ⟨g, 0, none⟩) 6 c] w fun e w' => e = .returned (.int .i64 (-1)) ∧ Below w.heap.size w w' := by
  obtain ⟨a1, a2⟩ := hy
  obtain ⟨b1, b2⟩ := hm
  have hmd := mdays_bd y m
  have hS : ∀ w', Below w.heap.size w w' → Six w' g y m d h i s := fun w' hb => hs.below hb hg
  have HS := Lib.hid hS
  obtain ⟨k0, k1, k2, k3, k4, k5⟩ := hs
  clear hS
  have g1 : decide (y < 1980) = false := by simp; omega
  have g2 : decide (2107 < y) = false := by simp; omega
  have g3 : decide (m < 1) = false := by simp; omega
  have g4 : decide (12 < m) = false := by simp; omega
  have g5 : decide (d < 1) = false := by simp; omega
  have g6 : decide (mdays y m < d) = true := by simp; omega
  go_enter Tryd.func8, Tryd.ntmps8
  go_wp2_with fail
  go_region_held3 (fun w' => w'.cell? ⟨g, 0, none⟩ = some (.int .i64 y) ∧ w'.cell? ⟨g, 1, none⟩ = some (.int .i64 m) ∧ w'.cell? ⟨g, 2, none⟩ = some (.int .i64 d) ∧ w'.cell? ⟨g, 3, none⟩ = some (.int .i64 h) ∧ w'.cell? ⟨g, 4, none⟩ = some (.int .i64 i) ∧ w'.cell? ⟨g, 5, none⟩ = some (.int .i64 s)) (first | (exact HS.out _ hb4) | go_keep)
    ((go_at_call 14; refine (refdays_any _ _ _ (by omega) (by omega) (by omega)).mono ?_; rintro e w3 ⟨rfl, hb3⟩; have hb4 := (Below.refl w.heap.size w).drew.trans hb3))
  clear k0 k1 k2 k3 k4 k5 hb3
  go_wp2
  go_ret
  exact ⟨rfl, hb4⟩
set_option maxHeartbeats 2000000 in
theorem refnumber_time (g c : Nat) (y m d h i s : Int) (w : World) (hs : Six w g y m d h i s) (hg : g < w.heap.size) (hy : 1980 ≤ y ∧ y ≤ 2107) (hm : 1 ≤ m ∧ m ≤ 12) (hd : 1 ≤ d ∧ d ≤ mdays y m)
    (hk : (h < 0 ∨ 23 < h) ∨ ((0 ≤ h ∧ h ≤ 23) ∧ (i < 0 ∨ 59 < i)) ∨ ((0 ≤ h ∧ h ≤ 23) ∧ (0 ≤ i ∧ i ≤ 59) ∧ (s < 0 ∨ 59 < s))) :
    Calls Tryd.prog 8 #[.slice (some ⟨g, 0, none⟩) 6 c] w fun e w' => e = .returned (.int .i64 (-1)) ∧ Below w.heap.size w w' := by
  obtain ⟨a1, a2⟩ := hy
  obtain ⟨b1, b2⟩ := hm
  obtain ⟨c1, c2⟩ := hd
  have hmd := mdays_bd y m
  have hS : ∀ w', Below w.heap.size w w' → Six w' g y m d h i s := fun w' hb => hs.below hb hg
  have HS := Lib.hid hS
  obtain ⟨k0, k1, k2, k3, k4, k5⟩ := hs
  clear hS
  have g1 : decide (y < 1980) = false := by simp; omega
  have g2 : decide (2107 < y) = false := by simp; omega
  have g3 : decide (m < 1) = false := by simp; omega
  have g4 : decide (12 < m) = false := by simp; omega
  have g5 : decide (d < 1) = false := by simp; omega
  have g6 : decide (mdays y m < d) = false := by simp; omega
  go_enter Tryd.func8, Tryd.ntmps8
  go_wp2_with fail
  go_region_held3 (fun w' => w'.cell? ⟨g, 0, none⟩ = some (.int .i64 y) ∧ w'.cell? ⟨g, 1, none⟩ = some (.int .i64 m) ∧ w'.cell? ⟨g, 2, none⟩ = some (.int .i64 d) ∧ w'.cell? ⟨g, 3, none⟩ = some (.int .i64 h) ∧ w'.cell? ⟨g, 4, none⟩ = some (.int .i64 i) ∧ w'.cell? ⟨g, 5, none⟩ = some (.int .i64 s)) (first | (exact HS.out _ hb4) | go_keep)
    ((go_at_call 14; refine (refdays_any _ _ _ (by omega) (by omega) (by omega)).mono ?_; rintro e w3 ⟨rfl, hb3⟩; have hb4 := (Below.refl w.heap.size w).drew.trans hb3))
  obtain ⟨q0, q1, q2, q3, q4, q5⟩ := HS.out _ hb4
  clear k0 k1 k2 k3 k4 k5 hb3 g1 g2 g3 g4 g5 g6
  have hk2 : h < 0 ∨ (0 ≤ h ∧ 23 < h) ∨ ((0 ≤ h ∧ h ≤ 23) ∧ i < 0) ∨ ((0 ≤ h ∧ h ≤ 23) ∧ 0 ≤ i ∧ 59 < i) ∨ ((0 ≤ h ∧ h ≤ 23) ∧ (0 ≤ i ∧ i ≤ 59) ∧ s < 0) ∨ ((0 ≤ h ∧ h ≤ 23) ∧ (0 ≤ i ∧ i ≤ 59) ∧ 0 ≤ s ∧ 59 < s) := by omega
  clear hk
  rcases hk2 with h1 | ⟨h1, h2⟩ | ⟨⟨h1, h2⟩, h3⟩ | ⟨⟨h1, h2⟩, h3, h4⟩ | ⟨⟨h1, h2⟩, ⟨h3, h4⟩, h5⟩ | ⟨⟨h1, h2⟩, ⟨h3, h4⟩, h5, h6⟩
  all_goals
    go_wp2
    go_ret
    exact ⟨rfl, hb4⟩
theorem refnumber_no (g c : Nat) (y m d h i s : Int) (w : World) (hs : Six w g y m d h i s) (hg : g < w.heap.size) (hr : ¬ Right6 y m d h i s) :
    Calls Tryd.prog 8 #[.slice (some ⟨g, 0, none⟩) 6 c] w fun e w' => e = .returned (.int .i64 (-1)) ∧ Below w.heap.size w w' := by
  by_cases h1 : y < 1980
  · exact refnumber_a g c y m d h i s w hs h1
  by_cases h2 : 2107 < y
  · exact refnumber_b g c y m d h i s w hs (by omega) h2
  by_cases h3 : m < 1
  · exact refnumber_c g c y m d h i s w hs (by omega) (by omega) h3
  by_cases h4 : 12 < m
  · exact refnumber_d g c y m d h i s w hs (by omega) (by omega) (by omega) h4
  by_cases h5 : d < 1
  · exact refnumber_e g c y m d h i s w hs (by omega) (by omega) (by omega) (by omega) h5
  by_cases h6 : mdays y m < d
  · exact refnumber_day g c y m d h i s w hs hg (by omega) (by omega) h6
  · exact refnumber_time g c y m d h i s w hs hg (by omega) (by omega) (by omega) (by unfold Right6 at hr; omega)
end Go.Proofs.YtmijgcmlpdehkaaDoor
