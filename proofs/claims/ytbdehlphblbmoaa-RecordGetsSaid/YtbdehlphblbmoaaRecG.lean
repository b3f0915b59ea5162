/- Plain facts on heads of archives. No program in sight. -/
import Derived.Test.YtbdehlphblbmoaaRecP
namespace Go.Proofs.Ytbdehlphblbmoaa

/-- The item 1 of what is beside; none: it isn't formed so. -/
def itG (L : List UInt8) (p : Nat) (o : Option (List UInt8)) : Option (Option (List UInt8)) :=
  if L.length ≤ p then some o
  else if L.length < p + 4 then none
  else if L.length < p + 4 + (nAt L (p + 2) 2).toNat then none
  else itG L (p + 4 + (nAt L (p + 2) 2).toNat) (if nAt L p 2 = 1 ∧ o = none then some ((L.drop (p + 4)).take (nAt L (p + 2) 2).toNat) else o)
termination_by L.length - p
decreasing_by omega
theorem itG_end {L : List UInt8} {p : Nat} {o : Option (List UInt8)} (h : L.length ≤ p) : itG L p o = some o := by rw [itG, if_pos h]
theorem itG_no {L : List UInt8} {p : Nat} {o : Option (List UInt8)} (h : ¬ L.length ≤ p) (h2 : L.length < p + 4 ∨ L.length < p + 4 + (nAt L (p + 2) 2).toNat) : itG L p o = none := by
  rw [itG, if_neg h]
  by_cases h4 : L.length < p + 4
  · rw [if_pos h4]
  · rw [if_neg h4, if_pos (by omega)]
theorem itG_go {L : List UInt8} {p : Nat} {o : Option (List UInt8)} (h : ¬ L.length ≤ p) (h2 : p + 4 + (nAt L (p + 2) 2).toNat ≤ L.length) :
    itG L p o = itG L (p + 4 + (nAt L (p + 2) 2).toNat) (if nAt L p 2 = 1 ∧ o = none then some ((L.drop (p + 4)).take (nAt L (p + 2) 2).toNat) else o) := by
  rw [itG, if_neg h, if_neg (by omega), if_neg (by omega)]
/-- The numbers that are all ones, of an item; none: it isn't formed so. -/
def wdG (L : List UInt8) : List Int → Nat → Bool → Option (List Int × Bool)
  | [], _, w => some ([], w)
  | x :: r, p, w => if x = 4294967295 then (if L.length < p + 8 then none else if long8 L p < 0 then none else (wdG L r (p + 8) true).map fun y => (long8 L p :: y.1, y.2))
      else (wdG L r p w).map fun y => (x :: y.1, y.2)
def widG (L : List UInt8) (l : List Int) : Option (List Int × Bool) := match itG L 0 none with
  | none => none
  | some o => wdG (o.getD []) l 0 false
structure HdG where
  flags : Int
  method : Int
  dos : Int
  crc : Int
  csize : Int
  size : Int
  at_ : Int
  name : List UInt8
  wide : Bool
  fin : Int
/-- A local head. -/
def glG (L : List UInt8) (p : Nat) : Sum Int HdG :=
  if L.length < p + 30 then .inl 3
  else if L.length < p + 30 + (nAt L (p + 26) 2).toNat + (nAt L (p + 28) 2).toNat then .inl 3
  else match widG ((L.drop (p + 30 + (nAt L (p + 26) 2).toNat)).take (nAt L (p + 28) 2).toNat) [nAt L (p + 22) 4, nAt L (p + 18) 4] with
    | some ([s, c], w) => .inr ⟨nAt L (p + 6) 2, nAt L (p + 8) 2, nAt L (p + 10) 4, nAt L (p + 14) 4, c, s, p, (L.drop (p + 30)).take (nAt L (p + 26) 2).toNat, w, ((p + 30 + (nAt L (p + 26) 2).toNat + (nAt L (p + 28) 2).toNat : Nat) : Int)⟩
    | _ => .inl 4
theorem glG_end {L : List UInt8} {p : Nat} (h : L.length < p + 30 ∨ L.length < p + 30 + (nAt L (p + 26) 2).toNat + (nAt L (p + 28) 2).toNat) : glG L p = .inl 3 := by
  unfold glG
  by_cases h1 : L.length < p + 30
  · rw [if_pos h1]
  · rw [if_neg h1, if_pos (by omega)]
theorem glG_bad {L : List UInt8} {p n k : Nat} (hn : (nAt L (p + 26) 2).toNat = n) (hk : (nAt L (p + 28) 2).toNat = k) (h : p + 30 + n + k ≤ L.length) (hw : widG ((L.drop (p + 30 + n)).take k) [nAt L (p + 22) 4, nAt L (p + 18) 4] = none) : glG L p = .inl 4 := by
  unfold glG
  rw [if_neg (by omega), if_neg (by omega), hn, hk, hw]
theorem glG_ok {L : List UInt8} {p n k : Nat} {s c : Int} {w : Bool} (hn : (nAt L (p + 26) 2).toNat = n) (hk : (nAt L (p + 28) 2).toNat = k) (h : p + 30 + n + k ≤ L.length) (hw : widG ((L.drop (p + 30 + n)).take k) [nAt L (p + 22) 4, nAt L (p + 18) 4] = some ([s, c], w)) :
    glG L p = .inr ⟨nAt L (p + 6) 2, nAt L (p + 8) 2, nAt L (p + 10) 4, nAt L (p + 14) 4, c, s, p, (L.drop (p + 30)).take n, w, ((p + 30 + n + k : Nat) : Int)⟩ := by
  unfold glG
  rw [if_neg (by omega), if_neg (by omega), hn, hk, hw]
/-- A central head. -/
def gcG (L : List UInt8) (p : Nat) : Sum Int HdG :=
  if L.length < p + 46 then .inl 3
  else if L.length < p + 46 + (nAt L (p + 28) 2).toNat + (nAt L (p + 30) 2).toNat + (nAt L (p + 32) 2).toNat then .inl 3
  else match widG ((L.drop (p + 46 + (nAt L (p + 28) 2).toNat)).take (nAt L (p + 30) 2).toNat) [nAt L (p + 24) 4, nAt L (p + 20) 4, nAt L (p + 42) 4] with
    | some ([s, c, a], w) => .inr ⟨nAt L (p + 8) 2, nAt L (p + 10) 2, nAt L (p + 12) 4, nAt L (p + 16) 4, c, s, a, (L.drop (p + 46)).take (nAt L (p + 28) 2).toNat, w, ((p + 46 + (nAt L (p + 28) 2).toNat + (nAt L (p + 30) 2).toNat + (nAt L (p + 32) 2).toNat : Nat) : Int)⟩
    | _ => .inl 4
theorem gcG_end {L : List UInt8} {p : Nat} (h : L.length < p + 46 ∨ L.length < p + 46 + (nAt L (p + 28) 2).toNat + (nAt L (p + 30) 2).toNat + (nAt L (p + 32) 2).toNat) : gcG L p = .inl 3 := by
  unfold gcG
  by_cases h1 : L.length < p + 46
  · rw [if_pos h1]
  · rw [if_neg h1, if_pos (by omega)]
theorem gcG_bad {L : List UInt8} {p n k d : Nat} (hn : (nAt L (p + 28) 2).toNat = n) (hk : (nAt L (p + 30) 2).toNat = k) (hd : (nAt L (p + 32) 2).toNat = d) (h : p + 46 + n + k + d ≤ L.length) (hw : widG ((L.drop (p + 46 + n)).take k) [nAt L (p + 24) 4, nAt L (p + 20) 4, nAt L (p + 42) 4] = none) : gcG L p = .inl 4 := by
  unfold gcG
  rw [if_neg (by omega), if_neg (by omega), hn, hk, hw]
theorem gcG_ok {L : List UInt8} {p n k d : Nat} {s c a : Int} {w : Bool} (hn : (nAt L (p + 28) 2).toNat = n) (hk : (nAt L (p + 30) 2).toNat = k) (hd : (nAt L (p + 32) 2).toNat = d) (h : p + 46 + n + k + d ≤ L.length) (hw : widG ((L.drop (p + 46 + n)).take k) [nAt L (p + 24) 4, nAt L (p + 20) 4, nAt L (p + 42) 4] = some ([s, c, a], w)) :
    gcG L p = .inr ⟨nAt L (p + 8) 2, nAt L (p + 10) 2, nAt L (p + 12) 4, nAt L (p + 16) 4, c, s, a, (L.drop (p + 46)).take n, w, ((p + 46 + n + k + d : Nat) : Int)⟩ := by
  unfold gcG
  rw [if_neg (by omega), if_neg (by omega), hn, hk, hd, hw]
def frG (L : List UInt8) (a : Int) (c d : UInt8) : Int := if a < 0 then 1 else if L.length < a.toNat + 4 then 3 else if sgnB L a.toNat c d = false then 4 else 0
/-- The head at any place. -/
def anyG (f : List UInt8 → Nat → Sum Int HdG) (c d : UInt8) (L : List UInt8) (a : Int) : Sum Int HdG := if frG L a c d = 0 then f L a.toNat else .inl (frG L a c d)
theorem anyG_no {f : List UInt8 → Nat → Sum Int HdG} {c d : UInt8} {L : List UInt8} {a : Int} (h : frG L a c d ≠ 0) : anyG f c d L a = .inl (frG L a c d) := by unfold anyG; rw [if_neg h]
theorem anyG_go {f : List UInt8 → Nat → Sum Int HdG} {c d : UInt8} {L : List UInt8} {a : Int} (h : frG L a c d = 0) : anyG f c d L a = f L a.toNat := by unfold anyG; rw [if_pos h]
theorem frG_nn {c d : UInt8} {L : List UInt8} {a : Int} (h : frG L a c d = 0) : 0 ≤ a := by
  unfold frG at h
  split at h
  · cases h
  · omega
end Go.Proofs.Ytbdehlphblbmoaa
