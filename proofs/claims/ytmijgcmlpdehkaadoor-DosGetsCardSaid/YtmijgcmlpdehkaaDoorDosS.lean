/- The walk of DosGets. -/
import Derived.Test.YtmijgcmlpdehkaaDoorDosT
import Derived.Test.YtmijgcmlpdehkaaDoorDos5
namespace Go.Proofs.YtmijgcmlpdehkaaDoor
open Go.RowKit
attribute [local go_sem ↓] Go.wp_at_zero Go.wp_at_succ

theorem six_of {w : World} {g : Nat} {t : TypeId} {y m d h i s : Int} (hb : Bk w g t #[.int .i64 y, .int .i64 m, .int .i64 d, .int .i64 h, .int .i64 i, .int .i64 s]) : Six w g y m d h i s := ⟨hb.cell 0, hb.cell 1, hb.cell 2, hb.cell 3, hb.cell 4, hb.cell 5⟩
set_option maxHeartbeats 1000000 in
theorem dosGets_no (n : Int) (w : World) (hn : -9223372036854775808 ≤ n ∧ n ≤ 9223372036854775807) (hr : ¬ RightN n) :
    Calls Tryd.prog 3 #[.int .i64 n] w fun e w' => e = .returned (.bool true) ∧ Below w.heap.size w w' := by
  have Hr := Lib.hid hr
  clear hr
  go_enter Tryd.func3, Tryd.ntmps3
  go_wp2_with fail
  refine (doswakes_any w).mono ?_
  rintro e w1 ⟨rfl, hb1⟩
  go_wp2_with fail
  refine (get_no n w1 hn Hr.out).mono ?_
  rintro e w2 ⟨rfl, hb2⟩
  have hbe2 := hb1.trans (hb2.mono hb1.size)
  have hbk := Bk.new w2 24 #[.int .i64 0, .int .i64 0, .int .i64 0, .int .i64 0, .int .i64 0, .int .i64 0]
  have hbe3 := hbe2.alloc hbe2.size (.cells #[.int .i64 0, .int .i64 0, .int .i64 0, .int .i64 0, .int .i64 0, .int .i64 0] 24)
  have hlt := hbk.lt
  clear hb1 hb2 hbe2
  go_wp2_with fail
  refine (text_no n _ hn Hr.out).mono ?_
  rintro e w3 ⟨rfl, hb3⟩
  have hbe4 := hbe3.trans (hb3.mono hbe3.size)
  have hbk3 := hbk.below hb3 hlt
  clear hbe3 hb3 hbk hlt
  have m0 := hbk3.cell 0
  have m1 := hbk3.cell 1
  have m2 := hbk3.cell 2
  have m3 := hbk3.cell 3
  have m4 := hbk3.cell 4
  have m5 := hbk3.cell 5
  simp at m0 m1 m2 m3 m4 m5
  clear hbk3
  by_cases h1 : n < 0
  · have g1 : decide (n < 0) = true := by simpa using h1
    go_wp2
    go_ret
    exact ⟨rfl, hbe4⟩
  have g1 : decide (n < 0) = false := by simpa using h1
  by_cases h2 : 4294967295 < n
  · have g2 : decide (4294967295 < n) = true := by simpa using h2
    go_wp2
    go_ret
    exact ⟨rfl, hbe4⟩
  have g2 : decide (4294967295 < n) = false := by simpa using h2
  go_wp2_with fail
  refine (parts_any n w3 (by omega) (by omega)).mono ?_
  rintro e w4 ⟨c, rfl, hc, rfl⟩
  have hpk := Bk.new w3 3 (partC n)
  have hbe5 := hbe4.alloc hbe4.size (.cells (partC n) 3)
  have q0 : ∀ i v, w3.cell? ⟨w2.heap.size, i, none⟩ = some v → (w3.alloc (.cells (partC n) 3)).cell? ⟨w2.heap.size, i, none⟩ = some v := fun i v h => by rw [World.cell?_alloc_lt _ _ _ (World.block_lt_of_cell? w3 _ h)]; exact h
  have n0 := q0 _ _ m0
  have n1 := q0 _ _ m1
  have n2 := q0 _ _ m2
  have n3 := q0 _ _ m3
  have n4 := q0 _ _ m4
  have n5 := q0 _ _ m5
  have hno := refnumber_no w3.heap.size c _ _ _ _ _ _ _ (six_of hpk) hpk.lt Hr.out
  have hne : ((-1 : Int) != n) = true := by rw [bne_iff_ne]; omega
  clear q0 m0 m1 m2 m3 m4 m5 hpk hbe4
  generalize (w3.alloc (.cells (partC n) 3)) = w4 at *
  go_wp2_with fail
  refine hno.mono ?_
  rintro e w5 ⟨rfl, hb5⟩
  have q0 : ∀ i v, w4.cell? ⟨w2.heap.size, i, none⟩ = some v → w5.cell? ⟨w2.heap.size, i, none⟩ = some v := fun i v h => (hb5.cell (World.block_lt_of_cell? w4 _ h)).trans h
  have p0 := q0 _ _ n0
  have p1 := q0 _ _ n1
  have p2 := q0 _ _ n2
  have p3 := q0 _ _ n3
  have p4 := q0 _ _ n4
  have p5 := q0 _ _ n5
  have hbe6 := hbe5.trans (hb5.mono hbe5.size)
  clear q0 n0 n1 n2 n3 n4 n5 hbe5 hb5 hno
  go_wp2
  go_ret
  exact ⟨rfl, hbe6⟩
set_option maxHeartbeats 2000000 in
theorem dosGets_yes (n : Int) (w : World) (hr : RightN n) (htab : Tab w.heap.size w) :
    Calls Tryd.prog 3 #[.int .i64 n] w fun e w' => e = .returned (.bool true) ∧ Below w.heap.size w w' := by
  have hb := right_bd hr
  obtain ⟨b0, b1, _⟩ := hb
  have hN := dosN_of n
  obtain ⟨hmom, hmn⟩ := text_mom hr
  have HN := Lib.hid hN
  have Hmom := Lib.hid hmom
  have Hmn := Lib.hid hmn
  have Hr := Lib.hid hr
  have Htab := Lib.hid htab
  have g1 : decide (n < 0) = false := by simp; omega
  have g2 : decide (4294967295 < n) = false := by simp; omega
  clear hr htab hN hmom hmn
  go_enter Tryd.func3, Tryd.ntmps3
  go_wp2_with fail
  refine (doswakes_any w).mono ?_
  rintro e w1 ⟨rfl, hb1⟩
  go_wp2_with fail
  refine (get_yes n w1 (by omega) Hr.out).mono ?_
  rintro e w2 ⟨rfl, hb2⟩
  have hpc : partC n = #[.int .i64 (1980 + n / 33554432), .int .i64 (n / 2097152 % 16), .int .i64 (n / 65536 % 32), .int .i64 (n / 2048 % 32), .int .i64 (n / 32 % 64), .int .i64 (n % 32 * 2)] := rfl
  have hnum := fun (g c : Nat) (W : World) (hs : Six W g (1980 + n / 33554432) (n / 2097152 % 16) (n / 65536 % 32) (n / 2048 % 32) (n / 32 % 64) (n % 32 * 2)) (hg : g < W.heap.size) => refnumber_yes g c _ _ _ _ _ _ W hs hg Hr.out
  have hparts := parts_any n
  rw [hpc] at hparts
  rw [HN.out] at hnum
  generalize 1980 + n / 33554432 = y at *
  generalize n / 2097152 % 16 = m at *
  generalize n / 65536 % 32 = d at *
  generalize n / 2048 % 32 = u at *
  generalize n / 32 % 64 = i at *
  generalize n % 32 * 2 = s at *
  have Hnum := Lib.hid hnum
  have Hparts := Lib.hid hparts
  have hbe2 := hb1.trans (hb2.mono hb1.size)
  have hbk := Bk.new w2 24 #[.int .i64 y, .int .i64 m, .int .i64 d, .int .i64 u, .int .i64 i, .int .i64 s]
  have hbe3 := hbe2.alloc hbe2.size (.cells #[.int .i64 y, .int .i64 m, .int .i64 d, .int .i64 u, .int .i64 i, .int .i64 s] 24)
  have hlt := hbk.lt
  clear hb1 hb2 hbe2 hpc hnum hparts
  go_wp2_with fail
  refine (text_yes n _ Hr.out ((Htab.out.on hbe3).up hbe3.size)).mono ?_
  rintro e w3 ⟨rfl, hb3⟩
  have hbe4 := hbe3.trans (hb3.mono hbe3.size)
  have hbk3 := hbk.below hb3 hlt
  clear hbe3 hb3 hbk hlt
  go_wp2_with fail
  refine (Hparts.out w3 b0 (by omega)).mono ?_
  rintro e w4 ⟨c, rfl, hc, rfl⟩
  have hbe5 := hbe4.alloc hbe4.size (.cells #[.int .i64 y, .int .i64 m, .int .i64 d, .int .i64 u, .int .i64 i, .int .i64 s] 3)
  have hpk := Bk.new w3 3 #[.int .i64 y, .int .i64 m, .int .i64 d, .int .i64 u, .int .i64 i, .int .i64 s]
  have hno := Hnum.out w3.heap.size c _ (six_of hpk) hpk.lt
  have hbk4 := hbk3.alloc (.cells #[.int .i64 y, .int .i64 m, .int .i64 d, .int .i64 u, .int .i64 i, .int .i64 s] 3)
  have hnn : (n != n) = false := by simp
  clear hpk hbk3 hbe4
  go_wp2_with fail
  refine hno.mono ?_
  rintro e w5 ⟨rfl, hb5⟩
  have hbe6 := hbe5.trans (hb5.mono hbe5.size)
  have hbk5 := hbk4.below hb5 hbk4.lt
  have hpm := parse_any (str (textN n)) w5
  clear hbe5 hbk4 hb5 hno
  go_wp2_with fail
  refine hpm.mono ?_
  rintro e w6 ⟨hp, hb6⟩
  have hp' : e = .returned (.tuple #[.int .i64 n, .bool true]) := by
    rcases hp with ⟨_, h⟩ | ⟨h, _⟩
    · rw [h, show (str (textN n)).data.toList = textN n from rfl, Hmn.out]
    · exact absurd Hmom.out h
  subst hp'
  have hbe7 := hbe6.trans (hb6.mono hbe6.size)
  have hbk6 := hbk5.below hb6 hbk5.lt
  clear hpm hp hbe6 hbk5 hb6
  go_wp2_with fail
  refine (Hparts.out w6 b0 (by omega)).mono ?_
  rintro e w7 ⟨c7, rfl, hc7, rfl⟩
  have hbe8 := hbe7.alloc hbe7.size (.cells #[.int .i64 y, .int .i64 m, .int .i64 d, .int .i64 u, .int .i64 i, .int .i64 s] 3)
  have hpk := Bk.new w6 3 #[.int .i64 y, .int .i64 m, .int .i64 d, .int .i64 u, .int .i64 i, .int .i64 s]
  have hbk8 := hbk6.alloc (.cells #[.int .i64 y, .int .i64 m, .int .i64 d, .int .i64 u, .int .i64 i, .int .i64 s] 3)
  have hS : ∀ w', Bk w' w6.heap.size 3 #[.int .i64 y, .int .i64 m, .int .i64 d, .int .i64 u, .int .i64 i, .int .i64 s] → Bk w' w2.heap.size 24 #[.int .i64 y, .int .i64 m, .int .i64 d, .int .i64 u, .int .i64 i, .int .i64 s] →
    (w'.cell? ⟨w6.heap.size, 0, none⟩ = some (.int .i64 y) ∧ w'.cell? ⟨w6.heap.size, 1, none⟩ = some (.int .i64 m) ∧ w'.cell? ⟨w6.heap.size, 2, none⟩ = some (.int .i64 d) ∧ w'.cell? ⟨w6.heap.size, 3, none⟩ = some (.int .i64 u) ∧ w'.cell? ⟨w6.heap.size, 4, none⟩ = some (.int .i64 i) ∧ w'.cell? ⟨w6.heap.size, 5, none⟩ = some (.int .i64 s) ∧
     w'.cell? ⟨w2.heap.size, 0, none⟩ = some (.int .i64 y) ∧ w'.cell? ⟨w2.heap.size, 1, none⟩ = some (.int .i64 m) ∧ w'.cell? ⟨w2.heap.size, 2, none⟩ = some (.int .i64 d) ∧ w'.cell? ⟨w2.heap.size, 3, none⟩ = some (.int .i64 u) ∧ w'.cell? ⟨w2.heap.size, 4, none⟩ = some (.int .i64 i) ∧ w'.cell? ⟨w2.heap.size, 5, none⟩ = some (.int .i64 s)) :=
    fun w' h k => ⟨h.cell 0, h.cell 1, h.cell 2, h.cell 3, h.cell 4, h.cell 5, k.cell 0, k.cell 1, k.cell 2, k.cell 3, k.cell 4, k.cell 5⟩
  have h8 := hS _ hpk hbk8
  have HS := Lib.hid hS
  have HP := Lib.hid (And.intro hpk (And.intro hbk8 hbe8))
  have hrt := fun W => reftext_any n W Hr.out
  have HRT := Lib.hid hrt
  clear hS hpk hbk8 hbe8 hbe7 hbk6 hrt
  generalize (w6.alloc (.cells #[.int .i64 y, .int .i64 m, .int .i64 d, .int .i64 u, .int .i64 i, .int .i64 s] 3)) = w8 at *
  generalize w6.heap.size = G6 at *
  generalize w2.heap.size = G2 at *
  generalize str (textN n) = S at *
  go_wp2_with fail
  go_region_held3 (fun w' => w'.cell? ⟨G6, 0, none⟩ = some (.int .i64 y) ∧ w'.cell? ⟨G6, 1, none⟩ = some (.int .i64 m) ∧ w'.cell? ⟨G6, 2, none⟩ = some (.int .i64 d) ∧ w'.cell? ⟨G6, 3, none⟩ = some (.int .i64 u) ∧ w'.cell? ⟨G6, 4, none⟩ = some (.int .i64 i) ∧ w'.cell? ⟨G6, 5, none⟩ = some (.int .i64 s) ∧
     w'.cell? ⟨G2, 0, none⟩ = some (.int .i64 y) ∧ w'.cell? ⟨G2, 1, none⟩ = some (.int .i64 m) ∧ w'.cell? ⟨G2, 2, none⟩ = some (.int .i64 d) ∧ w'.cell? ⟨G2, 3, none⟩ = some (.int .i64 u) ∧ w'.cell? ⟨G2, 4, none⟩ = some (.int .i64 i) ∧ w'.cell? ⟨G2, 5, none⟩ = some (.int .i64 s)) (first | (exact h8) | (exact h9))
    (first
      | ((go_at_call 11; (with_reducible refine (HRT.out w8.drew).mono ?_); rintro e w9 ⟨rfl, hb9⟩; have h9 := HS.out w9 (HP.out.1.drew.below hb9 HP.out.1.lt) (HP.out.2.1.drew.below hb9 HP.out.2.1.lt))))
  have hbe9 := HP.out.2.2.drew.trans (hb9.mono HP.out.2.2.size)
  go_wp2
  go_ret
  exact ⟨rfl, hbe9⟩
theorem dosGets_walk (n : Int) (w : World) (hn : -9223372036854775808 ≤ n ∧ n ≤ 9223372036854775807) (htab : Tab w.heap.size w) :
    Calls Tryd.prog 3 #[.int .i64 n] w fun e w' => e = .returned (.bool true) ∧ Below w.heap.size w w' := by
  by_cases hr : RightN n
  · exact dosGets_yes n w hr htab
  · exact dosGets_no n w hn hr
end Go.Proofs.YtmijgcmlpdehkaaDoor
