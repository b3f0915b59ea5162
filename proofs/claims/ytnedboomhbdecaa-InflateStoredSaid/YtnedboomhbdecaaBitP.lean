/- Plain facts on bits and bytes. No program in sight. -/
import Derived.Test.YtnedboomhbdecaaWordP
namespace Go.Proofs.Ytnedboomhbdecaa

/-- Bits as a number, the lowest first. -/
def natOf : List Bool → Nat
  | [] => 0
  | b :: r => b.toNat + 2 * natOf r
theorem natOf_lt : ∀ l : List Bool, natOf l < 2 ^ l.length
  | [] => by simp [natOf]
  | b :: r => by
    have := natOf_lt r
    simp only [natOf, List.length_cons, Nat.pow_succ]
    cases b <;> simp <;> omega
theorem natOf_snoc : ∀ (l : List Bool) (b : Bool), natOf (l ++ [b]) = natOf l + b.toNat * 2 ^ l.length
  | [], b => by cases b <;> rfl
  | x :: r, b => by
    simp only [List.cons_append, natOf, natOf_snoc r b, List.length_cons, Nat.pow_succ]
    cases b <;> simp <;> omega
theorem natOf_app : ∀ (l r : List Bool), natOf (l ++ r) = natOf l + natOf r * 2 ^ l.length
  | [], r => by simp [natOf]
  | x :: l, r => by
    simp only [List.cons_append, natOf, natOf_app l r, List.length_cons, Nat.pow_succ]
    have : natOf r * (2 ^ l.length * 2) = 2 * (natOf r * 2 ^ l.length) := by rw [← Nat.mul_assoc, Nat.mul_comm]
    omega
/-- The i-th byte of bits. -/
def byteAt (l : List Bool) (i : Nat) : UInt8 := UInt8.ofNat (natOf ((l.drop (8 * i)).take 8))
theorem byteAt_nat (l : List Bool) (i : Nat) : (byteAt l i).toNat = natOf ((l.drop (8 * i)).take 8) := by
  have h := natOf_lt ((l.drop (8 * i)).take 8)
  have h2 : ((l.drop (8 * i)).take 8).length ≤ 8 := by rw [List.length_take]; omega
  have h3 : 2 ^ ((l.drop (8 * i)).take 8).length ≤ 2 ^ 8 := Nat.pow_le_pow_right (by omega) h2
  unfold byteAt
  simp only [UInt8.toNat_ofNat']
  omega
/-- Bytes of bits, zeros filling the last one. -/
def packB (l : List Bool) : List UInt8 := (List.range ((l.length + 7) / 8)).map (byteAt l)
theorem packB_len (l : List Bool) : (packB l).length = (l.length + 7) / 8 := by simp [packB]
theorem packB_at (l : List Bool) (i : Nat) (h : i < (l.length + 7) / 8) : (packB l)[i]? = some (byteAt l i) := by simp [packB, h]
theorem byteAt_old (l : List Bool) (b : Bool) (i : Nat) (h : 8 * i + 8 ≤ l.length) : byteAt (l ++ [b]) i = byteAt l i := by
  unfold byteAt
  rw [List.drop_append_of_le_length (by omega), List.take_append_of_le_length (by rw [List.length_drop]; omega)]
/-- A bit is written: a byte begins. -/
theorem packB_begin (l : List Bool) (b : Bool) (h : l.length % 8 = 0) : packB (l ++ [b]) = packB l ++ [UInt8.ofNat b.toNat] := by
  apply List.ext_getElem?
  intro i
  have e1 : (l ++ [b]).length = l.length + 1 := by simp
  by_cases hi : i < (l.length + 7) / 8
  · rw [packB_at _ _ (by rw [e1]; omega), List.getElem?_append_left (by rw [packB_len]; exact hi), packB_at _ _ hi, byteAt_old _ _ _ (by omega)]
  · by_cases h2 : i = (l.length + 7) / 8
    · rw [packB_at _ _ (by rw [e1]; omega), List.getElem?_append_right (by rw [packB_len]; omega), packB_len, h2, Nat.sub_self]
      simp only [List.getElem?_cons_zero]
      congr 1
      unfold byteAt
      have e2 : 8 * ((l.length + 7) / 8) = l.length := by omega
      rw [e2, List.drop_left]
      cases b <;> rfl
    · rw [List.getElem?_eq_none (by rw [packB_len, e1]; omega), List.getElem?_eq_none (by rw [List.length_append, packB_len]; simp; omega)]
/-- A bit is written: into a byte. -/
theorem packB_into (l : List Bool) (b : Bool) (h : l.length % 8 ≠ 0) : packB (l ++ [b]) = (packB l).set (l.length / 8) (UInt8.ofNat ((byteAt l (l.length / 8)).toNat + b.toNat * 2 ^ (l.length % 8))) := by
  apply List.ext_getElem?
  intro i
  have e1 : (l ++ [b]).length = l.length + 1 := by simp
  rw [List.getElem?_set]
  by_cases hi : l.length / 8 = i
  · subst hi
    rw [if_pos rfl, if_pos (by rw [packB_len]; omega), packB_at _ _ (by rw [e1]; omega)]
    congr 1
    unfold byteAt
    congr 1
    have e2 : (List.drop (8 * (l.length / 8)) l).length = l.length % 8 := by rw [List.length_drop]; omega
    have e3 := byteAt_nat l (l.length / 8)
    unfold byteAt at e3
    rw [e3, List.drop_append_of_le_length (by omega), List.take_of_length_le (by rw [List.length_append, e2]; simp; omega), natOf_snoc, e2, List.take_of_length_le (by omega)]
  · rw [if_neg hi]
    by_cases h3 : i < (l.length + 7) / 8
    · rw [packB_at _ _ (by rw [e1]; omega), packB_at _ _ h3, byteAt_old _ _ _ (by omega)]
    · rw [List.getElem?_eq_none (by rw [packB_len, e1]; omega), List.getElem?_eq_none (by rw [packB_len]; omega)]
theorem byteAt_lt (l : List Bool) : (byteAt l (l.length / 8)).toNat < 2 ^ (l.length % 8) := by
  rw [byteAt_nat]
  have h := natOf_lt ((l.drop (8 * (l.length / 8))).take 8)
  have e : ((l.drop (8 * (l.length / 8))).take 8).length = l.length % 8 := by rw [List.length_take, List.length_drop]; omega
  rwa [e] at h
/-- How many bits are taken at once. -/
def hel (n : Int) : Int := min (max n 0) 24
theorem hel_bd (n : Int) : 0 ≤ hel n ∧ hel n ≤ 24 := by unfold hel; omega
/-- The k-th bit of a number of 64 bits. -/
def bitOf (v : Int) (k : Nat) : Bool := decide (v / 2 ^ k % 2 = 1)
/-- A number's lowest n bits, the lowest first. -/
def lowB (n : Nat) (v : Int) : List Bool := (List.range n).map (bitOf v)
theorem lowB_len (n : Nat) (v : Int) : (lowB n v).length = n := by simp [lowB]
theorem lowB_succ (n : Nat) (v : Int) : lowB (n + 1) v = lowB n v ++ [bitOf v n] := by simp [lowB, List.range_succ]
theorem lowB_zero (v : Int) : lowB 0 v = [] := rfl
theorem bitOf_int (v : Int) (k : Nat) : v / 2 ^ k % 2 = ((bitOf v k).toNat : Int) := by
  unfold bitOf
  have h : v / 2 ^ k % 2 = 0 ∨ v / 2 ^ k % 2 = 1 := by omega
  rcases h with h | h <;> rw [h] <;> rfl
theorem two_pow_lt8 (r : Nat) (h : r < 8) : 2 ^ r ≤ 128 := by
  have : 2 ^ r ≤ 2 ^ 7 := Nat.pow_le_pow_right (by omega) (by omega)
  omega
theorem bit_shift (b : Bool) (r : Nat) (h : r < 8) : b.toNat * 2 ^ r ≤ 128 := by
  have := two_pow_lt8 r h
  cases b <;> simp <;> omega
theorem or_u8_add (x y r : Nat) (hr : r < 8) (hx : x < 2 ^ r) (b : Bool) (hy : y = b.toNat * 2 ^ r) : bits .or .u8 (x : Int) (y : Int) = ((x + y : Nat) : Int) := by
  have h1 := two_pow_lt8 r hr
  have h2 := bit_shift b r hr
  rw [u8_or_nat x y (by omega) (by omega)]
  congr 1
  rw [Nat.or_comm, nat_join r y x, Nat.add_comm]
  · rw [hy, Nat.mul_mod_left]
  · exact hx
theorem and1_i64 (x : Int) : bits .and .i64 x 1 = x % 2 := by
  show IntKind.i64.wrap ((BitVec.ofInt 64 x &&& BitVec.ofInt 64 1).toNat : Int) = _
  have e : (BitVec.ofInt 64 1).toNat = 1 := rfl
  rw [BitVec.toNat_and, e, Nat.and_one_is_mod, BitVec.toNat_ofInt, IntKind.wrap_i64]
  omega
theorem drop_rev (d : Nat) (v : Int) (j : Nat) (h : j < d) : ((lowB d v).drop j).reverse = ((lowB d v).drop (j + 1)).reverse ++ [bitOf v j] := by
  rw [List.drop_eq_getElem_cons (by rw [lowB_len]; exact h), List.reverse_cons]
  simp [lowB]
theorem bitOf_natOf_zero (b : Bool) (r : List Bool) : bitOf ((natOf (b :: r) : Nat) : Int) 0 = b := by
  unfold bitOf
  simp only [natOf, Int.pow_zero, Int.ediv_one]
  cases b <;> simp <;> omega
theorem bitOf_natOf_succ (b : Bool) (r : List Bool) (k : Nat) : bitOf ((natOf (b :: r) : Nat) : Int) (k + 1) = bitOf ((natOf r : Nat) : Int) k := by
  unfold bitOf
  have e : ((natOf (b :: r) : Nat) : Int) / 2 ^ (k + 1) = ((natOf r : Nat) : Int) / 2 ^ k := by
    have h2 : (2 : Int) ^ (k + 1) = 2 * 2 ^ k := by rw [Int.pow_succ, Int.mul_comm]
    rw [h2, ← Int.ediv_ediv_of_nonneg (by omega)]
    congr 1
    simp only [natOf]
    cases b <;> simp <;> omega
  rw [e]
theorem lowB_natOf : ∀ l : List Bool, lowB l.length ((natOf l : Nat) : Int) = l
  | [] => rfl
  | b :: r => by
    have ih := lowB_natOf r
    simp only [lowB, List.length_cons, List.range_succ_eq_map, List.map_cons, List.map_map]
    rw [bitOf_natOf_zero]
    congr 1
    refine Eq.trans ?_ ih
    unfold lowB
    apply List.map_congr_left
    intro k _
    exact bitOf_natOf_succ b r k
/-- A number turned about. -/
def turnN (i : Nat) (v : Int) : Nat := natOf (lowB i v).reverse
theorem turnN_succ (i : Nat) (v : Int) : turnN (i + 1) v = (bitOf v i).toNat + 2 * turnN i v := by
  unfold turnN
  rw [lowB_succ, List.reverse_append]
  rfl
theorem turnN_lt (i : Nat) (v : Int) : turnN i v < 2 ^ i := by
  have := natOf_lt (lowB i v).reverse
  rwa [List.length_reverse, lowB_len] at this
theorem lowB_turnN (i : Nat) (v : Int) : lowB i ((turnN i v : Nat) : Int) = (lowB i v).reverse := by
  have := lowB_natOf (lowB i v).reverse
  rwa [List.length_reverse, lowB_len] at this
end Go.Proofs.Ytnedboomhbdecaa
