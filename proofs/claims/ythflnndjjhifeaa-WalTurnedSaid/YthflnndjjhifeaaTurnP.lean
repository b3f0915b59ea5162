/- Bits that are turned within four bytes next to one another: another sum. No program in sight. -/
import Derived.Test.YthflnndjjhifeaaCrcP
import Derived.Test.YthflnndjjhifeaaWordP
namespace Go.Proofs.Ythflnndjjhifeaa

/-- The first i of four bytes from k on, turned. -/
def turnL (l : List UInt8) (k : Nat) (x : Int) : Nat → List UInt8
  | 0 => l
  | i + 1 => (turnL l k x i).set (k + i) ((l[k + i]?.getD 0) ^^^ byteOf x i)
theorem turnL_len (l : List UInt8) (k : Nat) (x : Int) (i : Nat) : (turnL l k x i).length = l.length := by
  induction i with
  | zero => rfl
  | succ i ih => simp [turnL, ih]
theorem turnL_at (l : List UInt8) (k : Nat) (x : Int) (i j : Nat) (h : i ≤ j) : (turnL l k x i)[k + j]? = l[k + j]? := by
  induction i with
  | zero => rfl
  | succ i ih => rw [turnL, List.getElem?_set_ne (by omega), ih (by omega)]
theorem xorB_self (u v : UInt8) : (u ^^^ v) ^^^ u = v := by
  rw [UInt8.xor_comm u v, UInt8.xor_assoc, UInt8.xor_self, UInt8.xor_zero]
theorem turnL_four (p q : List UInt8) (a b c d : UInt8) (x : Int) :
    turnL (p ++ a :: b :: c :: d :: q) p.length x 4 = p ++ (a ^^^ byteOf x 0) :: (b ^^^ byteOf x 1) :: (c ^^^ byteOf x 2) :: (d ^^^ byteOf x 3) :: q := by
  have e : ∀ (j : Nat) (r : List UInt8), (p ++ r)[p.length + j]? = r[j]? := fun j r => by rw [List.getElem?_append_right (by omega)]; congr 1; omega
  have s : ∀ (j : Nat) (r : List UInt8) (v : UInt8), (p ++ r).set (p.length + j) v = p ++ r.set j v := fun j r v => by
    rw [List.set_append_right _ _ (by omega)]; congr 2; omega
  have e0 := e 0; have s0 := s 0
  simp only [Nat.add_zero] at e0 s0
  simp [turnL, e, s, e0, s0]
theorem w32_cons_zero (u : UInt8) (r : List UInt8) (hr : r.length ≤ 3) (h : w32 (u :: r) = 0) : u = 0 ∧ w32 r = 0 := by
  have hb : ∀ i, (b32 u).getLsbD i = ((w32 r) <<< 8).getLsbD i := by
    intro i
    have h1 : b32 u ^^^ (w32 r <<< 8) = 0 := h
    rw [xor_eq_zero h1]
  have h0 : b32 u = 0 := by
    apply BitVec.eq_of_getLsbD_eq
    intro i hi
    by_cases h8 : i < 8
    · rw [hb i]; simp [BitVec.getLsbD_shiftLeft, h8]
    · rw [b32_high u i (by omega)]; simp
  refine ⟨b32_inj (by rw [h0]; decide), ?_⟩
  apply BitVec.eq_of_getLsbD_eq
  intro i hi
  by_cases h24 : i < 24
  · have := hb (8 + i)
    rw [h0] at this
    simp only [BitVec.getLsbD_shiftLeft] at this
    have e1 : decide (8 + i < 32) = true := by simp; omega
    have e2 : decide (8 + i < 8) = false := by simp
    rw [e1, e2] at this
    simpa using this.symm
  · rw [w32_small r i (by omega)]; simp
theorem leN_four (x : Int) (h0 : 0 ≤ x) (h1 : x < 4294967296) (b0 : byteOf x 0 = 0) (b1 : byteOf x 1 = 0) (b2 : byteOf x 2 = 0) (b3 : byteOf x 3 = 0) : x = 0 := by
  have h := leN_leB x 4
  have e : leB x 4 = [0, 0, 0, 0] := by simp [leB, List.range_succ, b0, b1, b2, b3]
  rw [e] at h
  have e2 : leN [0, 0, 0, 0] = 0 := by decide
  rw [e2] at h
  have e3 : (256 : Int) ^ 4 = 4294967296 := by decide
  rw [e3] at h
  omega
theorem w32_ne (x : Int) (h0 : 0 < x) (h1 : x < 4294967296) : w32 [byteOf x 0, byteOf x 1, byteOf x 2, byteOf x 3] ≠ 0 := by
  intro h
  obtain ⟨a, h⟩ := w32_cons_zero _ _ (by simp) h
  obtain ⟨b, h⟩ := w32_cons_zero _ _ (by simp) h
  obtain ⟨c, h⟩ := w32_cons_zero _ _ (by simp) h
  obtain ⟨d, _⟩ := w32_cons_zero _ _ (by simp) h
  have := leN_four x (by omega) h1 a b c d
  omega
theorem split_four (l : List UInt8) (k : Nat) (h : k + 4 ≤ l.length) : ∃ p q a b c d, p.length = k ∧ l = p ++ a :: b :: c :: d :: q := by
  refine ⟨l.take k, l.drop (k + 4), l[k], l[k + 1], l[k + 2], l[k + 3], by simp; omega, ?_⟩
  rw [← List.drop_eq_getElem_cons, ← List.drop_eq_getElem_cons, ← List.drop_eq_getElem_cons, ← List.drop_eq_getElem_cons, List.take_append_drop]
/-- What was turned shows in the state, whatever was ahead and whatever comes. -/
theorem turn_state (s : BitVec 32) (l : List UInt8) (k : Nat) (x : Int) (hk : k + 4 ≤ l.length) (h0 : 0 < x) (h1 : x < 4294967296) : crcS s (turnL l k x 4) ≠ crcS s l := by
  obtain ⟨p, q, a, b, c, d, rfl, rfl⟩ := split_four l k hk
  rw [turnL_four]
  have e1 : ∀ (r : List UInt8) (a b c d : UInt8), r ++ a :: b :: c :: d :: q = r ++ ([a, b, c, d] ++ q) := fun _ _ _ _ _ => rfl
  rw [e1, e1, crcS_app, crcS_app, crcS_app, crcS_app]
  intro h
  have h2 := crcS_inj h
  have h3 := crcS_xor (crcS s p) (crcS s p) [a ^^^ byteOf x 0, b ^^^ byteOf x 1, c ^^^ byteOf x 2, d ^^^ byteOf x 3] [a, b, c, d] rfl
  rw [h2] at h3
  simp only [List.zipWith_cons_cons, List.zipWith_nil_right, BitVec.xor_self, xorB_self] at h3
  rw [crcS_word _ _ (by simp)] at h3
  have h4 : shs (8 * 4) (w32 [byteOf x 0, byteOf x 1, byteOf x 2, byteOf x 3]) = shs (8 * 4) 0 := by
    rw [shs_zero]
    simpa using h3
  exact w32_ne x h0 h1 (shs_inj h4)
theorem turn_crc (l : List UInt8) (k : Nat) (x : Int) (hk : k + 4 ≤ l.length) (h0 : 0 < x) (h1 : x < 4294967296) : crcOf (turnL l k x 4) ≠ crcOf l := by
  rw [Ne, crcOf_eq]
  exact turn_state _ l k x hk h0 h1
theorem xor8 (u v : UInt8) : bits .xor .u8 (u.toNat : Int) (v.toNat : Int) = ((u ^^^ v).toNat : Int) := by
  rw [u8_xor_nat _ _ u.toNat_lt v.toNat_lt, UInt8.toNat_xor]
end Go.Proofs.Ythflnndjjhifeaa
