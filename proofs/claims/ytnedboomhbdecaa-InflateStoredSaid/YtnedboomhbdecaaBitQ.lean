/- Plain facts on the bits of bytes, and numbers read out of them. No program in sight. -/
import Derived.Test.YtnedboomhbdecaaBitP
namespace Go.Proofs.Ytnedboomhbdecaa

/-- The bits of bytes, the lowest of each first. -/
def bitsB (l : List UInt8) : List Bool := l.flatMap fun u => lowB 8 (u.toNat : Int)
theorem bitsB_len (l : List UInt8) : (bitsB l).length = 8 * l.length := by
  induction l with
  | nil => rfl
  | cons u r ih =>
    have : bitsB (u :: r) = lowB 8 (u.toNat : Int) ++ bitsB r := rfl
    rw [this, List.length_append, lowB_len, ih, List.length_cons]; omega
theorem bitsB_app (a b : List UInt8) : bitsB (a ++ b) = bitsB a ++ bitsB b := by simp [bitsB]
theorem bitsB_cons (u : UInt8) (r : List UInt8) : bitsB (u :: r) = lowB 8 (u.toNat : Int) ++ bitsB r := rfl
theorem bitOf_drop (v : Int) (r k : Nat) : bitOf v (r + k) = bitOf (v / 2 ^ r) k := by
  unfold bitOf
  rw [Int.pow_add, Int.ediv_ediv_of_nonneg (Int.le_of_lt (Int.pow_pos (by omega)))]
theorem lowB_drop (n r : Nat) (v : Int) : (lowB n v).drop r = lowB (n - r) (v / 2 ^ r) := by
  apply List.ext_getElem?
  intro i
  rw [List.getElem?_drop]
  simp only [lowB, List.getElem?_map]
  by_cases h : r + i < n
  · rw [List.getElem?_range h, List.getElem?_range (by omega)]
    simp [bitOf_drop]
  · rw [List.getElem?_eq_none (by simp; omega), List.getElem?_eq_none (by simp; omega)]; rfl
theorem lowB_take (n k : Nat) (v : Int) (h : k ≤ n) : (lowB n v).take k = lowB k v := by
  unfold lowB
  rw [← List.map_take, List.take_range, Nat.min_eq_left h]
theorem natOf_lowB (k : Nat) : ∀ v : Int, ((natOf (lowB k v) : Nat) : Int) = v % 2 ^ k := by
  induction k with
  | zero => intro v; simp [lowB, natOf]
  | succ k ih =>
    intro v
    rw [lowB_succ, natOf_snoc, lowB_len]
    have hi := ih v
    have hb := bitOf_int v k
    have hp : (0 : Int) < 2 ^ k := Int.pow_pos (by omega)
    have e1 : ((natOf (lowB k v) + (bitOf v k).toNat * 2 ^ k : Nat) : Int) = v % 2 ^ k + (v / 2 ^ k % 2) * 2 ^ k := by
      rw [hb, ← hi]; simp
    rw [e1, Int.pow_succ]
    generalize (2 : Int) ^ k = p at *
    have a1 : v = v % p + p * (v / p) := (Int.emod_add_mul_ediv v p).symm
    have a2 : v / p = (v / p) % 2 + 2 * (v / p / 2) := by omega
    have b1 := Int.emod_nonneg v (show p ≠ 0 by omega)
    have b2 := Int.emod_lt_of_pos v hp
    have b3 : (v / p) % 2 = 0 ∨ (v / p) % 2 = 1 := by omega
    have a3 : v = (v % p + (v / p % 2) * p) + (p * 2) * (v / p / 2) := by
      have : (p * 2) * (v / p / 2) = p * (2 * (v / p / 2)) := by rw [Int.mul_assoc]
      rw [this, Int.mul_comm (v / p % 2) p, Int.add_assoc, ← Int.mul_add, ← a2]
      exact a1
    conv => rhs; rw [a3]
    rw [Int.add_mul_emod_self_left]
    refine (Int.emod_eq_of_lt ?_ ?_).symm
    · rcases b3 with h | h <;> rw [h] <;> omega
    · rcases b3 with h | h <;> rw [h] <;> omega
/-- Bits within one byte. -/
theorem bitsB_chunk : ∀ (l : List UInt8) (a k : Nat) (u : UInt8), l[a / 8]? = some u → a % 8 + k ≤ 8 → ((bitsB l).drop a).take k = lowB k ((u.toNat : Int) / 2 ^ (a % 8))
  | [], a, k, u, h, _ => by simp at h
  | x :: r, a, k, u, h, hk => by
    by_cases h8 : a < 8
    · have e : a / 8 = 0 := by omega
      rw [e] at h
      simp at h
      subst h
      have e2 : a % 8 = a := by omega
      rw [bitsB_cons, List.drop_append_of_le_length (by rw [lowB_len]; omega), List.take_append_of_le_length (by rw [List.length_drop, lowB_len]; omega), lowB_drop, lowB_take _ _ _ (by omega), e2]
    · have e : a / 8 = (a - 8) / 8 + 1 := by omega
      rw [e, List.getElem?_cons_succ] at h
      have ih := bitsB_chunk r (a - 8) k u h (by omega)
      have e2 : (a - 8) % 8 = a % 8 := by omega
      rw [e2] at ih
      have e4 : (bitsB (x :: r)).drop a = (bitsB r).drop (a - 8) := by
        have e3 : a = (lowB 8 (x.toNat : Int)).length + (a - 8) := by rw [lowB_len]; omega
        rw [bitsB_cons]
        conv => lhs; rw [e3, ← List.drop_drop, List.drop_left]
      rw [e4]
      exact ih
/-- The number in n bits from a place on. -/
def peekN (l : List UInt8) (a n : Nat) : Nat := natOf (((bitsB l).drop a).take n)
theorem peekN_step (l : List UInt8) (a g k : Nat) (u : UInt8) (hu : l[(a + g) / 8]? = some u) (hk : (a + g) % 8 + k ≤ 8) :
    ((peekN l a (g + k) : Nat) : Int) = ((peekN l a g : Nat) : Int) + ((u.toNat : Int) / 2 ^ ((a + g) % 8) % 2 ^ k) * 2 ^ g := by
  have hlt : (a + g) / 8 < l.length := by
    rcases Nat.lt_or_ge ((a + g) / 8) l.length with h | h
    · exact h
    · rw [List.getElem?_eq_none h] at hu; cases hu
  unfold peekN
  rw [List.take_add, natOf_app]
  have e1 : (List.take g (List.drop a (bitsB l))).length = g := by
    rw [List.length_take, List.length_drop, bitsB_len]; omega
  rw [e1, List.drop_drop, bitsB_chunk l (a + g) k u hu hk]
  have := natOf_lowB k ((u.toNat : Int) / 2 ^ ((a + g) % 8))
  push_cast
  rw [this]
theorem peekN_lt (l : List UInt8) (a n : Nat) : peekN l a n < 2 ^ n := by
  have h := natOf_lt (((bitsB l).drop a).take n)
  have h2 : (((bitsB l).drop a).take n).length ≤ n := by rw [List.length_take]; omega
  have h3 : 2 ^ (((bitsB l).drop a).take n).length ≤ 2 ^ n := Nat.pow_le_pow_right (by omega) h2
  unfold peekN
  omega
/-- A mask of k ones. -/
theorem and_mask (k : Nat) (x : Nat) (hx : x < 256) (hk : k ≤ 8) : bits .and .i64 (x : Int) (2 ^ k - 1) = ((x % 2 ^ k : Nat) : Int) := by
  have hp : 2 ^ k ≤ 2 ^ 8 := Nat.pow_le_pow_right (by omega) hk
  have hp1 : 1 ≤ 2 ^ k := Nat.one_le_two_pow
  have e : ((2 : Int) ^ k - 1) = ((2 ^ k - 1 : Nat) : Int) := by
    rw [Int.ofNat_sub hp1]; simp
  rw [e, and_i64 x (2 ^ k - 1) (by omega) (by omega), Nat.and_two_pow_sub_one_eq_mod]
theorem or_up (P X t : Nat) (hP : P < 2 ^ t) (ht : t ≤ 24) (hX : X < 256) : bits .or .i64 (P : Int) ((X : Int) * 2 ^ t) = (P : Int) + (X : Int) * 2 ^ t := by
  have hp : 2 ^ t ≤ 2 ^ 24 := Nat.pow_le_pow_right (by omega) ht
  have hb : X * 2 ^ t ≤ 256 * 2 ^ 24 := Nat.mul_le_mul (by omega) hp
  have e : ((X : Int) * 2 ^ t) = ((X * 2 ^ t : Nat) : Int) := by simp
  rw [e, or_i64 P (X * 2 ^ t) (by omega) (by omega), Nat.or_comm, nat_join t (X * 2 ^ t) P (Nat.mul_mod_left _ _) hP]
  omega
end Go.Proofs.Ytnedboomhbdecaa
