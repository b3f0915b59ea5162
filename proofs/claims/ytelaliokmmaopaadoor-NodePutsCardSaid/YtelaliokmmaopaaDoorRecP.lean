/- Plain facts on tails of archives. No program in sight. -/
import Derived.Test.YtelaliokmmaopaaDoorWordP
namespace Go.Proofs.YtelaliokmmaopaaDoor

def byN (L : List UInt8) (p : Nat) : Nat := (L[p]?.getD 0).toNat
/-- The number of w bytes at a place. -/
def nAt (L : List UInt8) (p w : Nat) : Int := leN ((L.drop p).take w)
/-- The number of eight bytes at a place; -1: it is too great. -/
def long8 (L : List UInt8) (p : Nat) : Int := if 65535 < nAt L (p + 4) 4 then -1 else nAt L (p + 4) 4 * 4294967296 + nAt L p 4
theorem eight {L : List UInt8} {p : Nat} (h : p + 8 ≤ L.length) : ∃ b0 b1 b2 b3 b4 b5 b6 b7 r, L.drop p = b0 :: b1 :: b2 :: b3 :: b4 :: b5 :: b6 :: b7 :: r ∧ L.drop (p + 4) = b4 :: b5 :: b6 :: b7 :: r ∧ byN L (p + 6) = b6.toNat ∧ byN L (p + 7) = b7.toNat := by
  have hl : 8 ≤ (L.drop p).length := by rw [List.length_drop]; omega
  match hd : L.drop p, hl with
  | b0 :: b1 :: b2 :: b3 :: b4 :: b5 :: b6 :: b7 :: r, _ =>
    refine ⟨b0, b1, b2, b3, b4, b5, b6, b7, r, rfl, ?_, ?_, ?_⟩
    · rw [← List.drop_drop, hd]; rfl
    · unfold byN; rw [← List.getElem?_drop, hd]; rfl
    · unfold byN; rw [← List.getElem?_drop, hd]; rfl
theorem nAt_nn (L : List UInt8) (p w : Nat) : 0 ≤ nAt L p w := leN_nn _
theorem nAt_lt (L : List UInt8) (p w : Nat) : nAt L p w < 256 ^ w := by
  unfold nAt
  have h1 := leN_lt ((L.drop p).take w)
  have h2 : ((L.drop p).take w).length ≤ w := List.length_take_le _ _
  have h3 : (256 : Int) ^ ((L.drop p).take w).length ≤ 256 ^ w := by
    have e1 : (256 : Int) ^ ((L.drop p).take w).length = ((256 ^ ((L.drop p).take w).length : Nat) : Int) := by simp
    have e2 : (256 : Int) ^ w = ((256 ^ w : Nat) : Int) := by simp
    rw [e1, e2]
    exact Int.ofNat_le.2 (Nat.pow_le_pow_right (by omega) h2)
  omega
theorem nAt_2 (L : List UInt8) (p : Nat) : 0 ≤ nAt L p 2 ∧ nAt L p 2 ≤ 65535 := by
  have h1 := nAt_nn L p 2; have h2 := nAt_lt L p 2; have h3 : (256 : Int) ^ 2 = 65536 := by decide
  omega
theorem nAt_4 (L : List UInt8) (p : Nat) : 0 ≤ nAt L p 4 ∧ nAt L p 4 ≤ 4294967295 := by
  have h1 := nAt_nn L p 4; have h2 := nAt_lt L p 4; have h3 : (256 : Int) ^ 4 = 4294967296 := by decide
  omega
/-- It is what the reference tells. -/
theorem long8_ref {L : List UInt8} {p : Nat} (h : p + 8 ≤ L.length) : long8 L p = if byN L (p + 6) ≠ 0 ∨ byN L (p + 7) ≠ 0 then -1 else nAt L p 6 := by
  obtain ⟨b0, b1, b2, b3, b4, b5, b6, b7, r, h1, h2, h3, h4⟩ := eight h
  have k4 : ∀ a b c d : UInt8, leN [a, b, c, d] = (a.toNat : Int) + 256 * (b.toNat : Int) + 65536 * (c.toNat : Int) + 16777216 * (d.toNat : Int) := by
    intro a b c d
    show (a.toNat : Int) + 256 * ((b.toNat : Int) + 256 * ((c.toNat : Int) + 256 * ((d.toNat : Int) + 256 * 0))) = _
    omega
  have k6 : ∀ a b c d e f : UInt8, leN [a, b, c, d, e, f] = (a.toNat : Int) + 256 * (b.toNat : Int) + 65536 * (c.toNat : Int) + 16777216 * (d.toNat : Int) + 4294967296 * (e.toNat : Int) + 1099511627776 * (f.toNat : Int) := by
    intro a b c d e f
    show (a.toNat : Int) + 256 * ((b.toNat : Int) + 256 * ((c.toNat : Int) + 256 * ((d.toNat : Int) + 256 * ((e.toNat : Int) + 256 * ((f.toNat : Int) + 256 * 0))))) = _
    omega
  have e1 : nAt L p 4 = leN [b0, b1, b2, b3] := by unfold nAt; rw [h1]; rfl
  have e2 : nAt L (p + 4) 4 = leN [b4, b5, b6, b7] := by unfold nAt; rw [h2]; rfl
  have e3 : nAt L p 6 = leN [b0, b1, b2, b3, b4, b5] := by unfold nAt; rw [h1]; rfl
  rw [k4] at e1 e2
  rw [k6] at e3
  have := b0.toNat_lt; have := b1.toNat_lt; have := b2.toNat_lt; have := b3.toNat_lt; have := b4.toNat_lt; have := b5.toNat_lt; have := b6.toNat_lt; have := b7.toNat_lt
  unfold long8
  by_cases hz : byN L (p + 6) ≠ 0 ∨ byN L (p + 7) ≠ 0
  · rw [if_pos hz, if_pos (by omega)]
  · rw [if_neg hz, if_neg (by omega)]
    omega
theorem long8_bd (L : List UInt8) (p : Nat) : -1 ≤ long8 L p ∧ long8 L p < 281474976710656 := by
  unfold long8
  have h1 := nAt_4 L p
  have h2 := nAt_4 L (p + 4)
  split <;> omega
/-- The sign at a place that there is. -/
def sgnB (L : List UInt8) (p : Nat) (c d : UInt8) : Bool := decide ((L.drop p).take 4 = [80, 75, c, d])
/-- The tail at a place: its numbers. -/
def tl (L : List UInt8) (p : Nat) : Int × Int × Int := (nAt L (p + 10) 2, nAt L (p + 12) 4, nAt L (p + 16) 4)
def onesB (t : Int × Int × Int) : Bool := t.1 == 65535 || (t.2.1 == 4294967295 || t.2.2 == 4294967295)
/-- The tail that is told wide, ahead of a place. -/
def wideF (L : List UInt8) (p : Nat) : Option (Int × Int × Int) :=
  if p < 20 then none
  else if sgnB L (p - 20) 6 7 = false then none
  else if long8 L (p - 12) < 0 ∨ (L.length : Int) < long8 L (p - 12) + 56 then none
  else if sgnB L (long8 L (p - 12)).toNat 6 6 = false then none
  else if long8 L ((long8 L (p - 12)).toNat + 32) < 0 ∨ long8 L ((long8 L (p - 12)).toNat + 40) < 0 ∨ long8 L ((long8 L (p - 12)).toNat + 48) < 0 then none
  else some (long8 L ((long8 L (p - 12)).toNat + 32), long8 L ((long8 L (p - 12)).toNat + 40), long8 L ((long8 L (p - 12)).toNat + 48))
/-- Does a tail stand at a place? -/
def stopB (L : List UInt8) (p : Nat) : Bool := sgnB L p 5 6 && ((p : Int) + 22 + nAt L (p + 20) 2 == (L.length : Int))
/-- What it tells; whether wide. -/
def resAt (L : List UInt8) (p : Nat) : Option ((Int × Int × Int) × Bool) := if onesB (tl L p) then (wideF L p).map (·, true) else some (tl L p, false)
/-- From lo + k - 1 down to lo. -/
def findD (L : List UInt8) (lo : Nat) : Nat → Option ((Int × Int × Int) × Bool)
  | 0 => none
  | k + 1 => if stopB L (lo + k) then resAt L (lo + k) else findD L lo k
def findF (L : List UInt8) : Option ((Int × Int × Int) × Bool) := if L.length < 22 then none else findD L (L.length - 65557) (L.length - 21 - (L.length - 65557))
end Go.Proofs.YtelaliokmmaopaaDoor
