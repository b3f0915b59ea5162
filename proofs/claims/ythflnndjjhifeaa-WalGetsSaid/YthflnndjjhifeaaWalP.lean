/- Plain facts on batches: what their bytes are read as. -/
import Derived.Test.YthflnndjjhifeaaWal2
namespace Go.Proofs.Ythflnndjjhifeaa

/-- The number, and the number of pieces, at a place. -/
def num4 (l : List UInt8) (k : Nat) : Int := leN ((l.drop k).take 4)
def piece (l : List UInt8) (i : Nat) : List Int × List UInt8 := ([num4 l (8 + 516 * i)], (l.drop (8 + 516 * i + 4)).take 512)
def pieces (l : List UInt8) (n : Nat) : List (List Int × List UInt8) := (List.range n).map (piece l)
theorem pieces_len (l : List UInt8) (n : Nat) : (pieces l n).length = n := by simp [pieces]
theorem pieces_succ (l : List UInt8) (n : Nat) : pieces l (n + 1) = pieces l n ++ [piece l n] := by simp [pieces, List.range_succ]
/-- What bytes are: the error, and the batch. -/
def WE (l : List UInt8) : Nat × List (List Int × List UInt8) :=
  if l.length < 4 then (3, [])
  else if ¬ l.take 4 = wmark then (4, [])
  else if l.length < 8 then (3, [])
  else if 4096 < num4 l 4 then (4, [])
  else if l.length < 12 + 516 * (num4 l 4).toNat then (3, [])
  else if ¬ num4 l (8 + 516 * (num4 l 4).toNat) = ((crcOf (l.take (8 + 516 * (num4 l 4).toNat))).toNat : Int) then (5, [])
  else if risB (-1) (nosOf (pieces l (num4 l 4).toNat)) = false then (4, [])
  else (0, pieces l (num4 l 4).toNat)
theorem WE_short {l : List UInt8} (h : l.length < 4) : WE l = (3, []) := by unfold WE; rw [if_pos h]
theorem WE_mark {l : List UInt8} (h : ¬ l.length < 4) (h1 : ¬ l.take 4 = wmark) : WE l = (4, []) := by unfold WE; rw [if_neg h, if_pos h1]
theorem WE_8 {l : List UInt8} (h : ¬ l.length < 4) (h1 : l.take 4 = wmark) (h2 : l.length < 8) : WE l = (3, []) := by unfold WE; rw [if_neg h, if_neg (fun e => e h1), if_pos h2]
section
variable {l : List UInt8} (h : ¬ l.length < 4) (h1 : l.take 4 = wmark) (h2 : ¬ l.length < 8)
include h h1 h2
theorem WE_many (h3 : 4096 < num4 l 4) : WE l = (4, []) := by unfold WE; rw [if_neg h, if_neg (fun e => e h1), if_neg h2, if_pos h3]
theorem WE_size (h3 : ¬ 4096 < num4 l 4) (h4 : l.length < 12 + 516 * (num4 l 4).toNat) : WE l = (3, []) := by unfold WE; rw [if_neg h, if_neg (fun e => e h1), if_neg h2, if_neg h3, if_pos h4]
theorem WE_sum (h3 : ¬ 4096 < num4 l 4) (h4 : ¬ l.length < 12 + 516 * (num4 l 4).toNat) (h5 : ¬ num4 l (8 + 516 * (num4 l 4).toNat) = ((crcOf (l.take (8 + 516 * (num4 l 4).toNat))).toNat : Int)) : WE l = (5, []) := by
  unfold WE; rw [if_neg h, if_neg (fun e => e h1), if_neg h2, if_neg h3, if_neg h4, if_pos h5]
theorem WE_ris (h3 : ¬ 4096 < num4 l 4) (h4 : ¬ l.length < 12 + 516 * (num4 l 4).toNat) (h5 : num4 l (8 + 516 * (num4 l 4).toNat) = ((crcOf (l.take (8 + 516 * (num4 l 4).toNat))).toNat : Int)) (h6 : risB (-1) (nosOf (pieces l (num4 l 4).toNat)) = false) : WE l = (4, []) := by
  unfold WE; rw [if_neg h, if_neg (fun e => e h1), if_neg h2, if_neg h3, if_neg h4, if_neg (fun e => e h5), if_pos h6]
theorem WE_ok (h3 : ¬ 4096 < num4 l 4) (h4 : ¬ l.length < 12 + 516 * (num4 l 4).toNat) (h5 : num4 l (8 + 516 * (num4 l 4).toNat) = ((crcOf (l.take (8 + 516 * (num4 l 4).toNat))).toNat : Int)) (h6 : risB (-1) (nosOf (pieces l (num4 l 4).toNat)) = true) : WE l = (0, pieces l (num4 l 4).toNat) := by
  unfold WE; rw [if_neg h, if_neg (fun e => e h1), if_neg h2, if_neg h3, if_neg h4, if_neg (fun e => e h5), if_neg (by rw [h6]; decide)]
end
theorem num4_bd (l : List UInt8) (k : Nat) : 0 ≤ num4 l k ∧ num4 l k < 4294967296 := by
  unfold num4
  have h1 := leN_nn ((l.drop k).take 4)
  have h2 := leN_lt ((l.drop k).take 4)
  have h3 : ((l.drop k).take 4).length ≤ 4 := by rw [List.length_take]; omega
  have h4 : (256 : Int) ^ ((l.drop k).take 4).length ≤ 4294967296 := by
    have : ((l.drop k).take 4).length = 0 ∨ ((l.drop k).take 4).length = 1 ∨ ((l.drop k).take 4).length = 2 ∨ ((l.drop k).take 4).length = 3 ∨ ((l.drop k).take 4).length = 4 := by omega
    rcases this with e | e | e | e | e <;> rw [e] <;> decide
  omega
end Go.Proofs.Ythflnndjjhifeaa
