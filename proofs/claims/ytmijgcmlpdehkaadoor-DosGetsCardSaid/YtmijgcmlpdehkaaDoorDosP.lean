/- Plain facts on moments: their numbers. No program in sight. -/
import Derived.Test.YtmijgcmlpdehkaaDoorWordP
namespace Go.Proofs.YtmijgcmlpdehkaaDoor

/-- How many days a month has. -/
def mdays (y m : Int) : Int :=
  if m = 2 then (if y % 4 = 0 ∧ (y % 100 ≠ 0 ∨ y % 400 = 0) then 29 else 28)
  else if m = 4 ∨ m = 6 ∨ m = 9 ∨ m = 11 then 30 else 31
theorem mdays_bd (y m : Int) : 28 ≤ mdays y m ∧ mdays y m ≤ 31 := by
  unfold mdays
  split
  · split <;> omega
  · split <;> omega
/-- The six clauses of a right moment. -/
def Right6 (y m d h i s : Int) : Prop := (1980 ≤ y ∧ y ≤ 2107) ∧ (1 ≤ m ∧ m ≤ 12) ∧ (1 ≤ d ∧ d ≤ mdays y m) ∧ (0 ≤ h ∧ h ≤ 23) ∧ (0 ≤ i ∧ i ≤ 59) ∧ (0 ≤ s ∧ s ≤ 59)
/-- A moment's number. -/
def dosN (y m d h i s : Int) : Int := (((y - 1980) * 512 + m * 32 + d) * 65536) + h * 2048 + i * 32 + s / 2
end Go.Proofs.YtmijgcmlpdehkaaDoor
