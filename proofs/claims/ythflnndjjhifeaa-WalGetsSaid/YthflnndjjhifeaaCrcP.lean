/- Plain facts on sums of 32 bits: the step by a bit is linear and loses nothing; so bits that are turned within four bytes show. No program in sight. -/
import Derived.IntWalk
import Derived.WalkKit
import Derived.Laws.BitsAllLaws
namespace Go.Proofs.Ythflnndjjhifeaa

def poly : BitVec 32 := 0xedb88320#32
/-- One bit goes. -/
def sh (n : BitVec 32) : BitVec 32 := if n.getLsbD 0 = true then (n >>> 1) ^^^ poly else n >>> 1
def shs : Nat → BitVec 32 → BitVec 32
  | 0, n => n
  | k + 1, n => sh (shs k n)

theorem sh_xor (a b : BitVec 32) : sh (a ^^^ b) = sh a ^^^ sh b := by
  unfold sh
  rw [BitVec.ushiftRight_xor_distrib, BitVec.getLsbD_xor]
  cases a.getLsbD 0 <;> cases b.getLsbD 0 <;> simp
  · ac_rfl
  · ac_rfl
  · have : (a >>> 1 ^^^ poly ^^^ (b >>> 1 ^^^ poly)) = (a >>> 1 ^^^ b >>> 1) ^^^ (poly ^^^ poly) := by ac_rfl
    rw [this]; simp
theorem sh_zero : sh 0 = 0 := by decide
theorem sh_eq_zero (a : BitVec 32) (h : sh a = 0) : a = 0 := by
  unfold sh at h
  split at h
  · exfalso
    have h1 := congrArg (fun x => x.getLsbD 31) h
    simp [BitVec.getLsbD_xor, BitVec.getLsbD_ushiftRight, poly] at h1
  · rename_i h0
    apply BitVec.eq_of_getLsbD_eq
    intro i hi
    have hz : (0 : BitVec 32).getLsbD i = false := by simp
    rw [hz]
    cases i with
    | zero => simpa using h0
    | succ i =>
      have h1 : (a >>> 1).getLsbD i = (0 : BitVec 32).getLsbD i := by rw [h]
      rw [BitVec.getLsbD_ushiftRight, Nat.add_comm] at h1
      rw [h1]; simp
theorem xor_eq_zero {a b : BitVec 32} (h : a ^^^ b = 0) : a = b := by
  have : a ^^^ b ^^^ b = 0 ^^^ b := by rw [h]
  simpa [BitVec.xor_assoc] using this
theorem sh_inj {a b : BitVec 32} (h : sh a = sh b) : a = b := by
  apply xor_eq_zero
  apply sh_eq_zero
  rw [sh_xor, h]
  simp
theorem shs_xor (k : Nat) (a b : BitVec 32) : shs k (a ^^^ b) = shs k a ^^^ shs k b := by
  induction k with
  | zero => rfl
  | succ k ih => simp only [shs, ih, sh_xor]
theorem shs_inj {k : Nat} {a b : BitVec 32} (h : shs k a = shs k b) : a = b := by
  induction k with
  | zero => exact h
  | succ k ih => exact ih (sh_inj h)
theorem shs_zero (k : Nat) : shs k 0 = 0 := by
  induction k with
  | zero => rfl
  | succ k ih => simp only [shs, ih, sh_zero]
theorem shs_add (j k : Nat) (a : BitVec 32) : shs (j + k) a = shs j (shs k a) := by
  induction j with
  | zero => simp [shs]
  | succ j ih => rw [Nat.add_right_comm]; simp only [shs, ih]
/-- Bits that are not there yet only move down. -/
theorem shs_low (k : Nat) (a : BitVec 32) (h : ∀ i, i < k → a.getLsbD i = false) : shs k a = a >>> k := by
  induction k with
  | zero => simp [shs]
  | succ k ih =>
    rw [shs, ih fun i hi => h i (by omega)]
    unfold sh
    rw [if_neg (by simp [h k (by omega)])]
    rw [BitVec.shiftRight_add]
theorem low_high (k : Nat) (n : BitVec 32) : n = (n &&& BitVec.ofNat 32 (2 ^ k - 1)) ^^^ (n &&& ~~~(BitVec.ofNat 32 (2 ^ k - 1))) := by
  apply BitVec.eq_of_getLsbD_eq
  intro i hi
  simp only [BitVec.getLsbD_xor, BitVec.getLsbD_and, BitVec.getLsbD_not, hi, decide_true, Bool.true_and]
  cases n.getLsbD i <;> simp
/-- Four bits at once. -/
theorem shs4_eq (n : BitVec 32) : shs 4 n = (n >>> 4) ^^^ shs 4 (n &&& 15#32) := by
  have h := low_high 4 n
  have e : (BitVec.ofNat 32 (2 ^ 4 - 1)) = 15#32 := rfl
  rw [e] at h
  conv => lhs; rw [h]
  rw [shs_xor, BitVec.xor_comm]
  congr 1
  have hb : ∀ i, i < 4 → (15#32 : BitVec 32).getLsbD i = true := by
    intro i hi
    have : i = 0 ∨ i = 1 ∨ i = 2 ∨ i = 3 := by omega
    rcases this with rfl | rfl | rfl | rfl <;> decide
  rw [shs_low 4]
  · apply BitVec.eq_of_getLsbD_eq
    intro i hi
    simp only [BitVec.getLsbD_ushiftRight, BitVec.getLsbD_and, BitVec.getLsbD_not]
    by_cases h32 : 4 + i < 32
    · have : (15#32 : BitVec 32).getLsbD (4 + i) = false := by
        have : i = 0 ∨ i = 1 ∨ i = 2 ∨ i = 3 ∨ i = 4 ∨ i = 5 ∨ i = 6 ∨ i = 7 ∨ i = 8 ∨ i = 9 ∨ i = 10 ∨ i = 11 ∨ i = 12 ∨ i = 13 ∨ i = 14 ∨ i = 15 ∨ i = 16 ∨ i = 17 ∨ i = 18 ∨ i = 19 ∨ i = 20 ∨ i = 21 ∨ i = 22 ∨ i = 23 ∨ i = 24 ∨ i = 25 ∨ i = 26 ∨ i = 27 := by omega
        rcases this with rfl | rfl | rfl | rfl | rfl | rfl | rfl | rfl | rfl | rfl | rfl | rfl | rfl | rfl | rfl | rfl | rfl | rfl | rfl | rfl | rfl | rfl | rfl | rfl | rfl | rfl | rfl | rfl <;> decide
      rw [this, decide_eq_true h32]
      cases n.getLsbD (4 + i) <;> rfl
    · rw [BitVec.getLsbD_of_ge n (4 + i) (by omega)]; rfl
  · intro i hi
    rw [BitVec.getLsbD_and, BitVec.getLsbD_not, hb i hi]
    simp only [Bool.not_true, Bool.and_false]

/-- A byte as 32 bits. -/
def b32 (u : UInt8) : BitVec 32 := BitVec.ofNat 32 u.toNat
theorem b32_nat (u : UInt8) : (b32 u).toNat = u.toNat := by
  have := u.toNat_lt
  simp only [b32, BitVec.toNat_ofNat]; omega
theorem b32_high (u : UInt8) (i : Nat) (h : 8 ≤ i) : (b32 u).getLsbD i = false := by
  have := u.toNat_lt
  unfold b32
  rw [BitVec.getLsbD_ofNat]
  rw [Nat.testBit_lt_two_pow (Nat.lt_of_lt_of_le (by omega : u.toNat < 2 ^ 8) (Nat.pow_le_pow_right (by omega) h))]
  simp
theorem b32_shift (u : UInt8) : (b32 u) >>> 8 = 0 := by
  apply BitVec.eq_of_getLsbD_eq
  intro i hi
  simp [BitVec.getLsbD_ushiftRight, b32_high u (8 + i) (by omega)]
theorem b32_inj {u v : UInt8} (h : b32 u = b32 v) : u = v := by
  apply UInt8.toNat_inj.1
  rw [← b32_nat, ← b32_nat, h]
/-- A byte goes. -/
def cst (s : BitVec 32) (u : UInt8) : BitVec 32 := shs 8 (s ^^^ b32 u)
def crcS (s : BitVec 32) (l : List UInt8) : BitVec 32 := l.foldl cst s
/-- The sum of bytes. -/
def crcIni : BitVec 32 := ~~~0
def crcOut (s : BitVec 32) : BitVec 32 := ~~~s
def crcOf (l : List UInt8) : BitVec 32 := crcOut (crcS crcIni l)
theorem crcS_app (s : BitVec 32) (a b : List UInt8) : crcS s (a ++ b) = crcS (crcS s a) b := by simp [crcS]
theorem crcS_cons (s : BitVec 32) (u : UInt8) (r : List UInt8) : crcS s (u :: r) = crcS (cst s u) r := rfl
theorem cst_inj {s t : BitVec 32} {u : UInt8} (h : cst s u = cst t u) : s = t := by
  have := shs_inj h
  have h2 : s ^^^ b32 u ^^^ b32 u = t ^^^ b32 u ^^^ b32 u := by rw [this]
  simpa [BitVec.xor_assoc] using h2
theorem crcS_inj {s t : BitVec 32} {l : List UInt8} (h : crcS s l = crcS t l) : s = t := by
  induction l generalizing s t with
  | nil => exact h
  | cons u r ih => exact cst_inj (ih h)
theorem not_inj {a b : BitVec 32} (h : ~~~a = ~~~b) : a = b := by
  have := congrArg (fun x => ~~~x) h
  simpa using this
theorem crcOf_eq (a b : List UInt8) : crcOf a = crcOf b ↔ crcS crcIni a = crcS crcIni b := ⟨fun h => not_inj h, fun h => by unfold crcOf; rw [h]⟩
/-- The reference's step by a bit. -/
def refBit (n : BitVec 32) (x : Bool) : BitVec 32 := if (x ^^ n.getLsbD 0) = true then (n >>> 1) ^^^ poly else n >>> 1
def refBits : Nat → BitVec 32 → BitVec 32 → BitVec 32
  | 0, n, _ => n
  | k + 1, n, b => refBit (refBits k n b) (b.getLsbD k)
theorem refBits_eq (k : Nat) (n b : BitVec 32) : shs k (n ^^^ b) = refBits k n b ^^^ (b >>> k) := by
  induction k with
  | zero => simp [shs, refBits]
  | succ k ih =>
    rw [shs, ih, refBits]
    unfold sh refBit
    rw [BitVec.ushiftRight_xor_distrib, BitVec.getLsbD_xor, BitVec.getLsbD_ushiftRight, Nat.add_zero, ← BitVec.shiftRight_add]
    cases (refBits k n b).getLsbD 0 <;> cases b.getLsbD k <;> simp <;> ac_rfl
theorem refBits8 (n : BitVec 32) (u : UInt8) : refBits 8 n (b32 u) = cst n u := by
  unfold cst
  rw [refBits_eq, b32_shift]
  simp

/-- What two states differ by, through bytes that differ. -/
theorem cst_xor (s t : BitVec 32) (u v : UInt8) : cst (s ^^^ t) (u ^^^ v) = cst s u ^^^ cst t v := by
  unfold cst
  have : b32 (u ^^^ v) = b32 u ^^^ b32 v := by
    apply BitVec.eq_of_toNat_eq
    rw [b32_nat, BitVec.toNat_xor, b32_nat, b32_nat]
    simp
  rw [this, ← shs_xor]
  congr 1
  ac_rfl
theorem crcS_xor (s t : BitVec 32) : ∀ (a b : List UInt8), a.length = b.length → crcS (s ^^^ t) (List.zipWith (· ^^^ ·) a b) = crcS s a ^^^ crcS t b := by
  intro a
  induction a generalizing s t with
  | nil => intro b h; cases b with
    | nil => rfl
    | cons => simp at h
  | cons u r ih => intro b h; cases b with
    | nil => simp at h
    | cons v q =>
      simp only [List.zipWith_cons_cons, crcS_cons, cst_xor]
      exact ih _ _ q (by simpa using h)
theorem crcS_zeros (n : Nat) : crcS 0 (List.replicate n 0) = 0 := by
  induction n with
  | zero => rfl
  | succ n ih =>
    rw [List.replicate_succ, crcS_cons]
    have : cst 0 0 = 0 := by decide
    rw [this, ih]

/-- Bytes, the lowest first, as 32 bits. -/
def w32 : List UInt8 → BitVec 32
  | [] => 0
  | u :: r => b32 u ^^^ (w32 r <<< 8)
theorem shs8_up (x : BitVec 32) (h : x <<< 8 >>> 8 = x) : shs 8 (x <<< 8) = x := by
  rw [shs_low 8, h]
  intro i hi
  simp [BitVec.getLsbD_shiftLeft, hi]
theorem w32_small : ∀ (l : List UInt8) (i : Nat), 8 * l.length ≤ i → (w32 l).getLsbD i = false
  | [], i, _ => by simp [w32]
  | u :: r, i, h => by
    simp only [List.length_cons] at h
    simp only [w32, BitVec.getLsbD_xor, BitVec.getLsbD_shiftLeft]
    rw [b32_high u i (by omega), w32_small r (i - 8) (by omega)]
    simp
/-- At most four bytes behind a state of nothing. -/
theorem crcS_word : ∀ (l : List UInt8) (s : BitVec 32), l.length ≤ 4 → crcS s l = shs (8 * l.length) (s ^^^ w32 l)
  | [], s, _ => by simp [crcS, w32, shs]
  | u :: r, s, h => by
    simp only [List.length_cons] at h ⊢
    rw [crcS_cons, crcS_word r _ (by omega), Nat.mul_add, shs_add]
    congr 1
    unfold cst
    have e0 : w32 (u :: r) = b32 u ^^^ (w32 r <<< 8) := rfl
    rw [e0]
    have e : s ^^^ (b32 u ^^^ w32 r <<< 8) = (s ^^^ b32 u) ^^^ (w32 r <<< 8) := by ac_rfl
    rw [Nat.mul_one, e, shs_xor 8 (s ^^^ b32 u), shs8_up]
    apply BitVec.eq_of_getLsbD_eq
    intro i hi
    simp only [BitVec.getLsbD_ushiftRight, BitVec.getLsbD_shiftLeft]
    by_cases h24 : i < 24
    · have : 8 + i < 32 := by omega
      simp [this]
    · rw [w32_small r i (by omega)]
      simp; omega
theorem ofInt_bv (a : BitVec 32) : BitVec.ofInt 32 (a.toNat : Int) = a := by
  rw [BitVec.ofInt_natCast]; simp
theorem bv_xor (a b : BitVec 32) : bits .xor .u32 (a.toNat : Int) (b.toNat : Int) = ((a ^^^ b).toNat : Int) := by
  show IntKind.u32.wrap ((BitVec.ofInt 32 (a.toNat : Int) ^^^ BitVec.ofInt 32 (b.toNat : Int)).toNat : Int) = _
  rw [ofInt_bv, ofInt_bv, IntKind.wrap_u32']
  have := (a ^^^ b).isLt
  omega
theorem bv_and (a b : BitVec 32) : bits .and .u32 (a.toNat : Int) (b.toNat : Int) = ((a &&& b).toNat : Int) := by
  show IntKind.u32.wrap ((BitVec.ofInt 32 (a.toNat : Int) &&& BitVec.ofInt 32 (b.toNat : Int)).toNat : Int) = _
  rw [ofInt_bv, ofInt_bv, IntKind.wrap_u32']
  have := (a &&& b).isLt
  omega
theorem bv_shr1 (a : BitVec 32) : (a.toNat : Int) / (2 : Int) = ((a >>> 1).toNat : Int) := by
  rw [BitVec.toNat_ushiftRight, Nat.shiftRight_eq_div_pow]; rfl
theorem bv_shr4 (a : BitVec 32) : (a.toNat : Int) / (16 : Int) = ((a >>> 4).toNat : Int) := by
  rw [BitVec.toNat_ushiftRight, Nat.shiftRight_eq_div_pow]; rfl
theorem and_one (a : BitVec 32) : bits .and .u32 (a.toNat : Int) 1 = if a.getLsbD 0 = true then 1 else 0 := by
  have h := bv_and a 1#32
  have e : (((1#32 : BitVec 32).toNat : Nat) : Int) = 1 := rfl
  rw [e] at h
  rw [h, BitVec.toNat_and]
  have e2 : (1#32 : BitVec 32).toNat = 1 := rfl
  rw [e2, Nat.and_one_is_mod]
  have e3 : a.getLsbD 0 = decide (a.toNat % 2 = 1) := by
    simp [BitVec.getLsbD, Nat.testBit_zero]
  rw [e3]
  by_cases h2 : a.toNat % 2 = 1
  · simp [h2]
  · have : a.toNat % 2 = 0 := by omega
    simp [this]
theorem and_one_ne (a : BitVec 32) : (bits .and .u32 (a.toNat : Int) 1 != 0) = a.getLsbD 0 := by
  rw [and_one]; cases a.getLsbD 0 <;> simp
theorem xor_poly (a : BitVec 32) : bits .xor .u32 (a.toNat : Int) 3988292384 = ((a ^^^ poly).toNat : Int) := bv_xor a poly
theorem sh_one (a : BitVec 32) (h : a.getLsbD 0 = true) : bits .xor .u32 ((a.toNat : Int) / (2 : Int)) 3988292384 = ((sh a).toNat : Int) := by
  rw [bv_shr1, xor_poly]; unfold sh; rw [if_pos h]
theorem sh_nil (a : BitVec 32) (h : a.getLsbD 0 = false) : (a.toNat : Int) / (2 : Int) = ((sh a).toNat : Int) := by
  rw [bv_shr1]; unfold sh; rw [if_neg (by rw [h]; decide)]
theorem and_bit (u : UInt8) (k : Nat) : bits .and .u32 ((u.toNat : Int) / 2 ^ k) 1 = if (b32 u).getLsbD k = true then 1 else 0 := by
  have e : ((u.toNat : Int) / 2 ^ k) = (((b32 u) >>> k).toNat : Int) := by
    rw [BitVec.toNat_ushiftRight, Nat.shiftRight_eq_div_pow, b32_nat]
    simp
  rw [e, and_one, BitVec.getLsbD_ushiftRight]
  simp
theorem not32 (s : BitVec 32) : (4294967295 : Int) - (s.toNat : Int) = ((crcOut s).toNat : Int) := by
  unfold crcOut
  rw [BitVec.toNat_not]
  have := s.isLt
  omega
theorem out32 (s : BitVec 32) : bits .xor .u32 IntKind.u32.max (s.toNat : Int) = ((crcOut s).toNat : Int) := by
  have e : IntKind.u32.max = (((BitVec.allOnes 32).toNat : Nat) : Int) := by decide
  rw [e, bv_xor, BitVec.allOnes_xor]; rfl
theorem refBit_at (k : Nat) (n b : BitVec 32) : refBits (k + 1) n b = if (b.getLsbD k ^^ (refBits k n b).getLsbD 0) = true then (refBits k n b >>> 1) ^^^ poly else refBits k n b >>> 1 := rfl
end Go.Proofs.Ythflnndjjhifeaa
