/- The document's reader of a rune: what its steps reckon is what the bytes tell. No program in sight. -/
import Derived.Test.YtbdehlphblbmoaaDoorGlbU
namespace Go.Proofs.YtbdehlphblbmoaaDoor
open Go.Lib

def leadSz (b : Nat) : Nat := if 194 ≤ b ∧ b ≤ 223 then 2 else if 224 ≤ b ∧ b ≤ 239 then 3 else if 240 ≤ b ∧ b ≤ 244 then 4 else 0
def leadV (b : Nat) : Nat := if 194 ≤ b ∧ b ≤ 223 then b - 192 else if 224 ≤ b ∧ b ≤ 239 then b - 224 else if 240 ≤ b ∧ b ≤ 244 then b - 240 else 0
def utfLen (r : Nat) : Nat := if r < 128 then 1 else if r < 2048 then 2 else if r < 65536 then 3 else 4
/-- The number behind so many more bytes. -/
def accV (l : List UInt8) (v : Nat) : Nat → Nat
  | 0 => v
  | i + 1 => 64 * accV l v i + (l.getD (i + 1) 0).toNat - 128
theorem leadSz_le (b : Nat) : leadSz b ≤ 4 := by
  unfold leadSz
  repeat' split
  all_goals omega
theorem bad_lead (l : List UInt8) (h : 128 ≤ (l.getD 0 0).toNat) (hz : leadSz (l.getD 0 0).toNat = 0) : decodeL l = (65533, 1) := by
  rw [decodeL_N]
  have k0 := (l.getD 0 0).toNat_lt
  have k1 := (l.getD 1 0).toNat_lt
  generalize (l.getD 0 0).toNat = b0 at *
  generalize (l.getD 1 0).toNat = b1 at *
  generalize (l.getD 2 0).toNat = b2 at *
  generalize (l.getD 3 0).toNat = b3 at *
  have hb : b0 < 194 ∨ 244 < b0 := by
    unfold leadSz at hz
    repeat' split at hz
    all_goals omega
  exact decodeN_bad _ _ _ _ _ (by omega)
theorem bad_short (l : List UInt8) (h : l.length < leadSz (l.getD 0 0).toNat) : decodeL l = (65533, 1) := by
  rw [decodeL_N]
  have k0 := (l.getD 0 0).toNat_lt
  generalize (l.getD 0 0).toNat = b0 at *
  generalize (l.getD 1 0).toNat = b1 at *
  generalize (l.getD 2 0).toNat = b2 at *
  generalize (l.getD 3 0).toNat = b3 at *
  unfold leadSz at h
  unfold decodeN
  repeat' split at h
  all_goals (repeat' split)
  all_goals first | rfl | (exfalso; omega)
theorem bad_cont (l : List UInt8) (j : Nat) (h1 : 1 ≤ j) (h2 : j < leadSz (l.getD 0 0).toNat) (h3 : (l.getD j 0).toNat < 128 ∨ 191 < (l.getD j 0).toNat) : decodeL l = (65533, 1) := by
  rw [decodeL_N]
  have hj : j = 1 ∨ j = 2 ∨ j = 3 := by have := leadSz_le (l.getD 0 0).toNat; omega
  have k0 := (l.getD 0 0).toNat_lt
  have k1 := (l.getD 1 0).toNat_lt
  have k2 := (l.getD 2 0).toNat_lt
  have k3 := (l.getD 3 0).toNat_lt
  rcases hj with rfl | rfl | rfl
  all_goals
    generalize (l.getD 0 0).toNat = b0 at *
    generalize (l.getD 1 0).toNat = b1 at *
    generalize (l.getD 2 0).toNat = b2 at *
    generalize (l.getD 3 0).toNat = b3 at *
    unfold leadSz at h2
    unfold decodeN
    repeat' split at h2
  all_goals (repeat' split)
  all_goals first | rfl | (exfalso; omega)
/-- All bytes behind the first one are right ones. -/
def contsTo (l : List UInt8) (k : Nat) : Prop := ∀ j, 1 ≤ j → j < k → 128 ≤ (l.getD j 0).toNat ∧ (l.getD j 0).toNat ≤ 191
theorem leadV_lt (b : Nat) : leadV b < 32 := by
  unfold leadV
  repeat' split
  all_goals omega
theorem accV_1 (l : List UInt8) (v : Nat) : accV l v (2 - 1) = 64 * v + (l.getD 1 0).toNat - 128 := rfl
theorem accV_2 (l : List UInt8) (v : Nat) : accV l v (3 - 1) = 64 * (64 * v + (l.getD 1 0).toNat - 128) + (l.getD 2 0).toNat - 128 := rfl
theorem accV_3 (l : List UInt8) (v : Nat) : accV l v (4 - 1) = 64 * (64 * (64 * v + (l.getD 1 0).toNat - 128) + (l.getD 2 0).toNat - 128) + (l.getD 3 0).toNat - 128 := rfl
theorem utfLen_two {v : Nat} : utfLen v = 2 ↔ 128 ≤ v ∧ v < 2048 := by
  unfold utfLen
  repeat' split
  all_goals omega
theorem utfLen_three {v : Nat} : utfLen v = 3 ↔ 2048 ≤ v ∧ v < 65536 := by
  unfold utfLen
  repeat' split
  all_goals omega
theorem utfLen_four {v : Nat} : utfLen v = 4 ↔ 65536 ≤ v := by
  unfold utfLen
  repeat' split
  all_goals omega
theorem accV_all (l : List UInt8) (hl : leadSz (l.getD 0 0).toNat ≤ l.length) (hz : leadSz (l.getD 0 0).toNat ≠ 0) (hc : contsTo l (leadSz (l.getD 0 0).toNat)) :
    let v := accV l (leadV (l.getD 0 0).toNat) (leadSz (l.getD 0 0).toNat - 1)
    (utfLen v = leadSz (l.getD 0 0).toNat ∧ ¬ (55296 ≤ v ∧ v ≤ 57343) ∧ v ≤ 1114111 → decodeL l = (v, utfLen v)) ∧
    (utfLen v ≠ leadSz (l.getD 0 0).toNat ∨ (55296 ≤ v ∧ v ≤ 57343) ∨ 1114111 < v → decodeL l = (65533, 1)) := by
  rw [decodeL_N]
  have k0 := (l.getD 0 0).toNat_lt
  have hc1 := hc 1 (by omega)
  have hc2 := hc 2 (by omega)
  have hc3 := hc 3 (by omega)
  clear hc
  have h : (194 ≤ (l.getD 0 0).toNat ∧ (l.getD 0 0).toNat ≤ 223) ∨ (224 ≤ (l.getD 0 0).toNat ∧ (l.getD 0 0).toNat ≤ 239) ∨ (240 ≤ (l.getD 0 0).toNat ∧ (l.getD 0 0).toNat ≤ 244) := by
    unfold leadSz at hz
    repeat' split at hz
    all_goals omega
  rcases h with h | h | h
  · have e1 : leadSz (l.getD 0 0).toNat = 2 := by unfold leadSz; rw [if_pos h]
    have e2 : leadV (l.getD 0 0).toNat = (l.getD 0 0).toNat - 192 := by unfold leadV; rw [if_pos h]
    rw [e1] at hl hc1
    rw [e1, e2]
    have c1 := hc1 (by omega)
    have e3 : accV l ((l.getD 0 0).toNat - 192) (2 - 1) = (l.getD 0 0).toNat % 32 * 64 + (l.getD 1 0).toNat % 64 := by rw [accV_1]; omega
    simp only [e3]
    generalize (l.getD 0 0).toNat = b0 at *
    generalize (l.getD 1 0).toNat = b1 at *
    generalize (l.getD 2 0).toNat = b2 at *
    generalize (l.getD 3 0).toNat = b3 at *
    constructor
    · rintro ⟨h1, h2, h3⟩
      rw [h1]
      rw [utfLen_two] at h1
      unfold decodeN
      rw [if_neg (by omega), if_pos (by omega), if_pos (by omega)]
    · intro h1
      rw [Ne, utfLen_two] at h1
      unfold decodeN
      rw [if_neg (by omega), if_pos (by omega), if_neg (by omega)]
  · have e0 : ¬ (194 ≤ (l.getD 0 0).toNat ∧ (l.getD 0 0).toNat ≤ 223) := by omega
    have e1 : leadSz (l.getD 0 0).toNat = 3 := by unfold leadSz; rw [if_neg e0, if_pos h]
    have e2 : leadV (l.getD 0 0).toNat = (l.getD 0 0).toNat - 224 := by unfold leadV; rw [if_neg e0, if_pos h]
    rw [e1] at hl hc1 hc2
    rw [e1, e2]
    have c1 := hc1 (by omega)
    have c2 := hc2 (by omega)
    have e3 : accV l ((l.getD 0 0).toNat - 224) (3 - 1) = (l.getD 0 0).toNat % 16 * 4096 + (l.getD 1 0).toNat % 64 * 64 + (l.getD 2 0).toNat % 64 := by rw [accV_2]; omega
    simp only [e3]
    generalize (l.getD 0 0).toNat = b0 at *
    generalize (l.getD 1 0).toNat = b1 at *
    generalize (l.getD 2 0).toNat = b2 at *
    generalize (l.getD 3 0).toNat = b3 at *
    constructor
    · rintro ⟨h1, h2, h3⟩
      rw [h1]
      rw [utfLen_three] at h1
      unfold decodeN
      rw [if_neg (by omega), if_neg (by omega), if_pos (by omega), if_pos (by omega)]
    · intro h1
      rw [Ne, utfLen_three] at h1
      unfold decodeN
      rw [if_neg (by omega), if_neg (by omega), if_pos (by omega), if_neg (by omega)]
  · have e0 : ¬ (194 ≤ (l.getD 0 0).toNat ∧ (l.getD 0 0).toNat ≤ 223) := by omega
    have e0' : ¬ (224 ≤ (l.getD 0 0).toNat ∧ (l.getD 0 0).toNat ≤ 239) := by omega
    have e1 : leadSz (l.getD 0 0).toNat = 4 := by unfold leadSz; rw [if_neg e0, if_neg e0', if_pos h]
    have e2 : leadV (l.getD 0 0).toNat = (l.getD 0 0).toNat - 240 := by unfold leadV; rw [if_neg e0, if_neg e0', if_pos h]
    rw [e1] at hl hc1 hc2 hc3
    rw [e1, e2]
    have c1 := hc1 (by omega)
    have c2 := hc2 (by omega)
    have c3 := hc3 (by omega)
    have e3 : accV l ((l.getD 0 0).toNat - 240) (4 - 1) = (l.getD 0 0).toNat % 8 * 262144 + (l.getD 1 0).toNat % 64 * 4096 + (l.getD 2 0).toNat % 64 * 64 + (l.getD 3 0).toNat % 64 := by rw [accV_3]; omega
    simp only [e3]
    generalize (l.getD 0 0).toNat = b0 at *
    generalize (l.getD 1 0).toNat = b1 at *
    generalize (l.getD 2 0).toNat = b2 at *
    generalize (l.getD 3 0).toNat = b3 at *
    constructor
    · rintro ⟨h1, h2, h3⟩
      rw [h1]
      rw [utfLen_four] at h1
      unfold decodeN
      rw [if_neg (by omega), if_neg (by omega), if_neg (by omega), if_pos (by omega), if_pos (by omega)]
    · intro h1
      rw [Ne, utfLen_four] at h1
      unfold decodeN
      rw [if_neg (by omega), if_neg (by omega), if_neg (by omega), if_pos (by omega), if_neg (by omega)]
theorem utfLen_enc (r : Int) (h : okR r) : (encodeRune r).length = utfLen r.toNat := by
  unfold encodeRune
  rw [List.length_map]
  unfold okR at h
  unfold utfLen
  by_cases h1 : r ≤ 127
  · rw [encodeRuneZ_one (by omega) h1, if_pos (by omega)]; rfl
  by_cases h2 : r ≤ 2047
  · rw [encodeRuneZ_two (by omega) h2, if_neg (by omega), if_pos (by omega)]; rfl
  by_cases h3 : r ≤ 65535
  · rw [encodeRuneZ_three (by omega), if_neg (by omega), if_neg (by omega), if_pos (by omega)]; rfl
  · rw [encodeRuneZ_four (by omega) (by omega), if_neg (by omega), if_neg (by omega), if_neg (by omega)]; rfl
/-- What the document's reader takes of bytes: a rune and how wide it is; none if they are wrong. -/
def badL (l : List UInt8) : Prop := (decodeL l).1 = 65533 ∧ (decodeL l).2 = 1
end Go.Proofs.YtbdehlphblbmoaaDoor
