/- Contracts of dos.Put, Get, and of the reference's Number. -/
import Derived.Test.YtmijgcmlpdehkaaDoorDos1
namespace Go.Proofs.YtmijgcmlpdehkaaDoor
open Go.RowKit

theorem put_no (y m d h i s : Int) (w : World) (hr : ¬ Right6 y m d h i s) :
    Calls Tryd.prog 12 #[.agg #[.int .i64 y, .int .i64 m, .int .i64 d, .int .i64 h, .int .i64 i, .int .i64 s]] w fun e w' => e = .returned (.tuple #[.int .i64 0, .int .i64 1]) ∧ Below w.heap.size w w' := by
  go_enter Tryd.func12, Tryd.ntmps12
  go_wp2_with fail
  refine (right_no y m d h i s _ hr).mono ?_
  rintro e w1 ⟨rfl, hb1⟩
  go_wp2
  go_ret2
  exact ⟨rfl, ((Below.refl _ _).alloc (Nat.le_refl _) _).trans (hb1.mono (by simp))⟩

set_option maxHeartbeats 1000000 in
theorem put_yes (y m d h i s : Int) (w : World) (hr : Right6 y m d h i s) :
    Calls Tryd.prog 12 #[.agg #[.int .i64 y, .int .i64 m, .int .i64 d, .int .i64 h, .int .i64 i, .int .i64 s]] w fun e w' => e = .returned (.tuple #[.int .i64 (dosN y m d h i s), .int .i64 0]) ∧ Below w.heap.size w w' := by
  have hr' := hr
  obtain ⟨⟨a1, a2⟩, ⟨b1, b2⟩, ⟨c1, c2⟩, ⟨d1, d2⟩, ⟨e1, e2⟩, ⟨f1, f2⟩⟩ := hr'
  have hmd := mdays_bd y m
  have o1 : bits .or .i64 ((y - 1980) * 512) (m * 32) = (y - 1980) * 512 + m * 32 := or_i64_add 9 _ _ (by omega) (by omega) (by omega) (by omega) (by omega) (by omega)
  have o2 : bits .or .i64 ((y - 1980) * 512 + m * 32) d = (y - 1980) * 512 + m * 32 + d := or_i64_add 5 _ _ (by omega) (by omega) (by omega) (by omega) (by omega) (by omega)
  have o3 : bits .or .i64 (((y - 1980) * 512 + m * 32 + d) * 65536) (h * 2048) = ((y - 1980) * 512 + m * 32 + d) * 65536 + h * 2048 := or_i64_add 16 _ _ (by omega) (by omega) (by omega) (by omega) (by omega) (by omega)
  have o4 : bits .or .i64 (((y - 1980) * 512 + m * 32 + d) * 65536 + h * 2048) (i * 32) = ((y - 1980) * 512 + m * 32 + d) * 65536 + h * 2048 + i * 32 := or_i64_add 11 _ _ (by omega) (by omega) (by omega) (by omega) (by omega) (by omega)
  have o5 : bits .or .i64 (((y - 1980) * 512 + m * 32 + d) * 65536 + h * 2048 + i * 32) (s / 2) = ((y - 1980) * 512 + m * 32 + d) * 65536 + h * 2048 + i * 32 + s / 2 := or_i64_add 5 _ _ (by omega) (by omega) (by omega) (by omega) (by omega) (by omega)
  have HR := Lib.hid hr
  clear hr
  go_enter Tryd.func12, Tryd.ntmps12
  go_wp2_with fail
  refine (right_yes y m d h i s _ HR.out).mono ?_
  rintro e w1 ⟨rfl, hb1⟩
  have cell : ∀ k v, (#[.int .i64 y, .int .i64 m, .int .i64 d, .int .i64 h, .int .i64 i, .int .i64 s] : Array Value)[k]? = some v → w1.cell? ⟨w.heap.size, k, none⟩ = some v := by
    intro k v hv
    rw [hb1.cell (p := ⟨w.heap.size, k, none⟩) (by simp), ← hv]
    exact (Bk.new w 24 _).cell k
  have k0 := cell 0 _ rfl
  have k1 := cell 1 _ rfl
  have k2 := cell 2 _ rfl
  have k3 := cell 3 _ rfl
  have k4 := cell 4 _ rfl
  have k5 := cell 5 _ rfl
  clear cell
  go_wp2
  go_ret2
  refine ⟨?_, ((Below.refl _ _).alloc (Nat.le_refl _) _).trans (hb1.mono (by simp))⟩
  unfold dosN
  rfl

/-- A right moment's number: its parts. -/
theorem dosN_parts (y m d h i s : Int) (hr : Right6 y m d h i s) :
    1980 + dosN y m d h i s / 33554432 = y ∧ dosN y m d h i s / 2097152 % 16 = m ∧ dosN y m d h i s / 65536 % 32 = d ∧ dosN y m d h i s / 2048 % 32 = h ∧ dosN y m d h i s / 32 % 64 = i ∧ dosN y m d h i s % 32 * 2 = s - s % 2 ∧
      0 ≤ dosN y m d h i s ∧ dosN y m d h i s < 4294967296 := by
  obtain ⟨⟨a1, a2⟩, ⟨b1, b2⟩, ⟨c1, c2⟩, ⟨d1, d2⟩, ⟨e1, e2⟩, ⟨f1, f2⟩⟩ := hr
  have hmd := mdays_bd y m
  unfold dosN
  refine ⟨?_, ?_, ?_, ?_, ?_, ?_, ?_, ?_⟩ <;> omega
end Go.Proofs.YtmijgcmlpdehkaaDoor
