/- Contracts: the reference's Parts and Text of numbers; dos.Text. -/
import Derived.Test.YtmijgcmlpdehkaaDoorDosW
import Derived.Test.YtmijgcmlpdehkaaDoorDos4
import Derived.Deep.RegionHeld3
namespace Go.Proofs.YtmijgcmlpdehkaaDoor
open Go.RowKit
attribute [local go_sem ↓] Go.wp_at_zero Go.wp_at_succ

/-- A number's six parts, as cells. -/
def partC (n : Int) : Array Value := #[.int .i64 (1980 + n / 33554432), .int .i64 (n / 2097152 % 16), .int .i64 (n / 65536 % 32), .int .i64 (n / 2048 % 32), .int .i64 (n / 32 % 64), .int .i64 (n % 32 * 2)]
theorem parts_any (n : Int) (w : World) (h0 : 0 ≤ n) (h1 : n ≤ 4294967295) :
    Calls Tryd.prog 9 #[.int .i64 n] w fun e w' => ∃ c, e = .returned (.slice (some ⟨w.heap.size, 0, none⟩) 6 c) ∧ 6 ≤ c ∧ w' = w.alloc (.cells (partC n) 3) := by
  go_enter Tryd.func9, Tryd.ntmps9
  go_wp2
  go_ret
  exact ⟨_, rfl, by omega, rfl⟩
theorem quiet_add {P : Program} {f : FuncId} {args : Array Value} {w : World} {a n : Nat} {v : Value}
    (h : Calls P f args (w.drewN (a + n)) fun e w' => e = .returned v ∧ ∃ m, w' = (w.drewN (a + n)).drewN m) :
    Calls P f args (w.drewN (a + n)) fun e w'' => e = .returned v ∧ ∃ m, w'' = w.drewN (a + m) :=
  h.mono fun _ _ ⟨he, m, hm⟩ => ⟨he, n + m, by rw [hm, World.drewN_drewN, Nat.add_assoc]⟩
set_option maxHeartbeats 1000000 in
theorem reftext_any (n : Int) (w : World) (hr : RightN n) :
    Calls Tryd.prog 11 #[.int .i64 n] w fun e w' => e = .returned (.string (str (textN n))) ∧ Below w.heap.size w w' := by
  have hb := right_bd hr
  have hy : 1980 ≤ 1980 + n / 33554432 ∧ 1980 + n / 33554432 ≤ 2107 := by omega
  have b3 : 0 ≤ n / 2048 % 32 := by omega
  have b4 : 0 ≤ n / 32 % 64 := by omega
  have b5 : 0 ≤ n % 32 * 2 := by omega
  obtain ⟨hb0, hb1, hb2, hb3, hb4, hb5, hb6⟩ := hb
  have hmain : ∀ (z : Bool), ((n % 65536 == 0) = z) → Calls Tryd.prog 11 #[.int .i64 n] w fun e w' => e = .returned (.string (str (if z = true then t10 (1980 + n / 33554432) (n / 2097152 % 16) (n / 65536 % 32) else t10 (1980 + n / 33554432) (n / 2097152 % 16) (n / 65536 % 32) ++ t9 (n / 2048 % 32) (n / 32 % 64) (n % 32 * 2)))) ∧ Below w.heap.size w w' := by
    intro z hz
    clear hr
    go_enter Tryd.func11, Tryd.ntmps11
    go_wp2_with fail
    refine (parts_any n w hb0 (by omega)).mono ?_
    rintro e w1 ⟨c, rfl, hc, rfl⟩
    have hbk := Bk.new w 3 (partC n)
    have hbe := (Below.refl w.heap.size w).alloc (Nat.le_refl _) (.cells (partC n) 3)
    have hg : w.heap.size < (w.alloc (.cells (partC n) 3)).heap.size := hbk.lt
    generalize (w.alloc (.cells (partC n) 3)) = w1 at *
    generalize hgg : w.heap.size = g at *
    have Hgg := Lib.hid hgg
    clear hgg
    unfold partC at hbk
    generalize e0 : 1980 + n / 33554432 = y at *
    have E0 := Lib.hid e0
    clear e0
    generalize e1 : n / 2097152 % 16 = m at *
    have E1 := Lib.hid e1
    clear e1
    generalize e2 : n / 65536 % 32 = d at *
    have E2 := Lib.hid e2
    clear e2
    generalize e3 : n / 2048 % 32 = h at *
    have E3 := Lib.hid e3
    clear e3
    generalize e4 : n / 32 % 64 = i at *
    have E4 := Lib.hid e4
    clear e4
    generalize e5 : n % 32 * 2 = s at *
    have E5 := Lib.hid e5
    clear e5
    have c0 := hbk.cell 0
    have c1 := hbk.cell 1
    have c2 := hbk.cell 2
    have c3 := hbk.cell 3
    have c4 := hbk.cell 4
    have c5 := hbk.cell 5
    simp at c0 c1 c2 c3 c4 c5
    clear hbk
    have hb' : Below g w w1 := hbe
    clear hbe
    go_wp2_with fail
    have a1 : IntKind.i64.wrap (y / 100) = y / 100 := IntWalk.i64_in _ (by omega)
    have a2 : IntKind.i64.wrap (y % 100) = y % 100 := IntWalk.i64_in _ (by omega)
    have a3 : 0 ≤ y / 100 := by omega
    have a4 : y / 100 ≤ 99 := by omega
    have a5 : 0 ≤ y % 100 := by omega
    have a6 : y % 100 ≤ 99 := by omega
    have a7 : 0 ≤ m := by omega
    have a8 : m ≤ 99 := by omega
    have a9 : 0 ≤ d := by omega
    have a10 : d ≤ 99 := by omega
    have a11 : y.tdiv 100 = y / 100 := Int.tdiv_eq_ediv_of_nonneg (by omega)
    have a12 : y.tmod 100 = y % 100 := Int.tmod_eq_emod_of_nonneg (by omega)
    have z1 : (str (d2 (y / 100))).size = 2 := rfl
    have z2 : (str (d2 (y % 100))).size = 2 := rfl
    have z3 : (str (d2 m)).size = 2 := rfl
    have z4 : (str (d2 d)).size = 2 := rfl
    go_quiet ((go_at_call 15; exact Calls.quiet_of (two_any _ _ (by assumption) (by assumption))))
    have hst : str (d2 (y / 100)) ++ str (d2 (y % 100)) ++ { data := #[45] } ++ str (d2 m) ++ { data := #[45] } ++ str (d2 d) = str (t10 y m d) := by
      rw [show ({ data := #[45] } : ByteArray) = str [45] from rfl]
      simp only [str_app]
      congr 1
    rw [hst]
    have z5 : (str (t10 y m d)).size = 10 := rfl
    clear hst a1 a2 a3 a4 a5 a6 a7 a8 a9 a10 a11 a12 z1 z2 z3 z4 c0 c1 c2
    cases z with
    | true =>
      go_wp2
      go_ret
      refine ⟨?_, by rw [Hgg.out]; exact below_drewN hb' _⟩
      obtain rfl := E0.out
      obtain rfl := E1.out
      obtain rfl := E2.out
      obtain rfl := E3.out
      obtain rfl := E4.out
      obtain rfl := E5.out
      rfl
    | false =>
      go_wp2_with fail
      have a1 : 0 ≤ h := by omega
      have a2 : h ≤ 99 := by omega
      have a3 : 0 ≤ i := by omega
      have a4 : i ≤ 99 := by omega
      have a5 : 0 ≤ s := by omega
      have a6 : s ≤ 99 := by omega
      have z1 : (str (d2 h)).size = 2 := rfl
      have z2 : (str (d2 i)).size = 2 := rfl
      have z3 : (str (d2 s)).size = 2 := rfl
      go_quiet ((go_at_call 15; exact quiet_add (two_any _ _ (by assumption) (by assumption))))
      have hst : str (t10 y m d) ++ { data := #[32] } ++ str (d2 h) ++ { data := #[58] } ++ str (d2 i) ++ { data := #[58] } ++ str (d2 s) = str (t10 y m d ++ t9 h i s) := by
        rw [show ({ data := #[32] } : ByteArray) = str [32] from rfl, show ({ data := #[58] } : ByteArray) = str [58] from rfl]
        simp only [str_app]
        congr 1
      rw [hst]
      clear a1 a2 a3 a4 a5 a6 z1 z2 z3
      go_wp2
      go_ret
      refine ⟨?_, by rw [Hgg.out]; exact below_drewN hb' _⟩
      obtain rfl := E0.out
      obtain rfl := E1.out
      obtain rfl := E2.out
      obtain rfl := E3.out
      obtain rfl := E4.out
      obtain rfl := E5.out
      rfl
  by_cases hz : n % 65536 = 0
  · rw [textN_10 hz]
    exact hmain true (by simpa using hz)
  · rw [textN_19 hz]
    exact hmain false (by simpa using hz)
end Go.Proofs.YtmijgcmlpdehkaaDoor
