/- Plain facts on pages: what is opened is what was sealed; turned bits show. No program in sight. -/
import Derived.Test.YthflnndjjhifeaaPag1
import Derived.Test.YthflnndjjhifeaaTurnP
namespace Go.Proofs.Ythflnndjjhifeaa

theorem nat_xor_join (a b : Nat) (ha : a < 256) : a ^^^ (256 * b) = a + 256 * b := by
  apply Nat.eq_of_testBit_eq
  intro j
  rw [Nat.add_comm, show (256 : Nat) = 2 ^ 8 from rfl, Nat.testBit_xor, Nat.testBit_two_pow_mul, Nat.testBit_two_pow_mul_add b (show a < 2 ^ 8 from ha)]
  by_cases h : j < 8
  · have h8 : ¬ 8 ≤ j := by omega
    rw [if_pos h]; simp [h8]
  · rw [if_neg h, Nat.testBit_lt_two_pow (Nat.lt_of_lt_of_le (show a < 2 ^ 8 from ha) (Nat.pow_le_pow_right (by omega) (by omega)))]
    simp; omega
theorem w32_leN : ∀ l : List UInt8, l.length ≤ 4 → ((w32 l).toNat : Int) = leN l
  | [], _ => rfl
  | u :: r, h => by
    simp only [List.length_cons] at h
    have ih := w32_leN r (by omega)
    have hu := u.toNat_lt
    have hr := leN_lt r
    have h3 : (256 : Int) ^ r.length ≤ 16777216 := by
      have : r.length = 0 ∨ r.length = 1 ∨ r.length = 2 ∨ r.length = 3 := by omega
      rcases this with e | e | e | e <;> rw [e] <;> decide
    have e1 : w32 (u :: r) = b32 u ^^^ (w32 r <<< 8) := rfl
    rw [e1, BitVec.toNat_xor, BitVec.toNat_shiftLeft, b32_nat, Nat.shiftLeft_eq, Nat.mod_eq_of_lt (by omega), Nat.mul_comm, show (2 : Nat) ^ 8 = 256 from rfl, nat_xor_join _ _ hu, leN, ← ih]
    omega
/-- What the state is behind a text and its own sum. -/
def resid : BitVec 32 := shs 32 (~~~0)
theorem xor_not (s t : BitVec 32) : s ^^^ t = ~~~0 ↔ t = ~~~s := by
  constructor
  · intro h
    have : s ^^^ (s ^^^ t) = s ^^^ ~~~0 := by rw [h]
    rw [← BitVec.xor_assoc, BitVec.xor_self, BitVec.zero_xor] at this
    rw [this]
    apply BitVec.eq_of_getLsbD_eq
    intro i hi
    have z0 : (0 : BitVec 32).getLsbD i = false := BitVec.getLsbD_zero
    simp only [BitVec.getLsbD_not, BitVec.getLsbD_xor, hi, decide_true, Bool.true_and]
    rw [z0]
    cases s.getLsbD i <;> rfl
  · intro h
    subst h
    apply BitVec.eq_of_getLsbD_eq
    intro i hi
    have z0 : (0 : BitVec 32).getLsbD i = false := BitVec.getLsbD_zero
    simp only [BitVec.getLsbD_not, BitVec.getLsbD_xor, hi, decide_true, Bool.true_and]
    rw [z0]
    cases s.getLsbD i <;> rfl
/-- Four bytes are a text's sum just if the state behind them is that one. -/
theorem sum_resid (m T : List UInt8) (hT : T.length = 4) : leB ((crcOf m).toNat : Int) 4 = T ↔ crcS crcIni (m ++ T) = resid := by
  have hw := w32_leN T (by omega)
  rw [crcS_app, crcS_word T _ (by omega), hT, show 8 * 4 = 32 from rfl]
  have e : (shs 32 (crcS crcIni m ^^^ w32 T) = resid) ↔ w32 T = crcOf m := by
    unfold resid
    constructor
    · intro h; exact (xor_not _ _).1 (shs_inj h)
    · intro h; rw [(xor_not _ _).2 h]
  rw [e]
  constructor
  · intro h
    apply BitVec.eq_of_toNat_eq
    have h2 : leN T = ((crcOf m).toNat : Int) % 256 ^ 4 := by rw [← h, leN_leB]
    have := (crcOf m).isLt
    have h4 : (256 : Int) ^ 4 = 4294967296 := by decide
    rw [h4] at h2
    omega
  · intro h
    rw [← h, hw, ← hT]
    exact leB_leN T
theorem page_ok (z : Int) (p : List UInt8) (hp : p.length = 512) : sumB z (p.take 508) = p.drop 508 ↔ crcS crcIni (leB z 4 ++ p) = resid := by
  unfold sumB
  rw [sum_resid _ _ (by rw [List.length_drop]; omega), List.append_assoc, List.take_append_drop]
theorem seal_take (z : Int) (l : List UInt8) (h : l.length ≤ 508) : (sealB z l).take 508 = padB l ∧ (sealB z l).drop 508 = sumB z (padB l) := by
  have := padB_len l h
  unfold sealB
  exact ⟨by rw [List.take_append_of_le_length (by omega), List.take_of_length_le (by omega)], by rw [List.drop_append_of_le_length (by omega), List.drop_of_length_le (by omega)]; rfl⟩
theorem seal_resid (z : Int) (l : List UInt8) (h : l.length ≤ 508) : crcS crcIni (leB z 4 ++ sealB z l) = resid := by
  rw [← page_ok z _ (sealB_len z l h), (seal_take z l h).1, (seal_take z l h).2]
theorem leB4_inj (z y : Int) (hz : 0 ≤ z ∧ z < 16777216) (hy : 0 ≤ y ∧ y < 16777216) (h : leB z 4 = leB y 4) : z = y := by
  have h2 : leN (leB z 4) = leN (leB y 4) := by rw [h]
  rw [leN_leB, leN_leB] at h2
  have h4 : (256 : Int) ^ 4 = 4294967296 := by decide
  rw [h4] at h2
  omega
/-- A page isn't opened under another number. -/
theorem seal_other (z y : Int) (l : List UInt8) (h : l.length ≤ 508) (hz : 0 ≤ z ∧ z < 16777216) (hy : 0 ≤ y ∧ y < 16777216) (hne : ¬ y = z) : ¬ sumB y ((sealB z l).take 508) = (sealB z l).drop 508 := by
  rw [page_ok y _ (sealB_len z l h), ← seal_resid z l h, crcS_app, crcS_app]
  intro e
  have e2 := crcS_inj e
  rw [crcS_word _ _ (by rw [leB_len]; omega), crcS_word _ _ (by rw [leB_len]; omega), leB_len, leB_len] at e2
  have e3 := shs_inj e2
  have e4 : w32 (leB y 4) = w32 (leB z 4) := by
    have : crcIni ^^^ (crcIni ^^^ w32 (leB y 4)) = crcIni ^^^ (crcIni ^^^ w32 (leB z 4)) := by rw [e3]
    simpa [← BitVec.xor_assoc] using this
  have h1 := w32_leN (leB y 4) (by rw [leB_len]; omega)
  have h2 := w32_leN (leB z 4) (by rw [leB_len]; omega)
  rw [e4, h2] at h1
  rw [leN_leB, leN_leB] at h1
  have h4 : (256 : Int) ^ 4 = 4294967296 := by decide
  rw [h4] at h1
  omega
/-- Turned bits show. -/
theorem seal_turned (z : Int) (l : List UInt8) (h : l.length ≤ 508) (k : Nat) (x : Int) (hk : k + 4 ≤ 512) (h0 : 0 < x) (h1 : x < 4294967296) :
    ¬ sumB z ((turnL (sealB z l) k x 4).take 508) = (turnL (sealB z l) k x 4).drop 508 := by
  have hl := sealB_len z l h
  rw [page_ok z _ (by rw [turnL_len]; exact hl), ← seal_resid z l h, crcS_app, crcS_app]
  exact turn_state _ _ k x (by omega) h0 h1
theorem seal_zeros (z : Int) (l : List UInt8) (k : Nat) (h : l.length + k ≤ 508) : sealB z (l ++ List.replicate k 0) = sealB z l := by
  have : padB (l ++ List.replicate k 0) = padB l := by
    unfold padB
    rw [List.append_assoc, List.replicate_append_replicate, List.length_append, List.length_replicate]
    congr 2
    omega
  unfold sealB
  rw [this]
theorem seal_open (z : Int) (l : List UInt8) (h : l.length = 512) : l = sealB z (l.take 508) ↔ sumB z (l.take 508) = l.drop 508 := by
  have hp : padB (l.take 508) = l.take 508 := by
    unfold padB
    rw [List.length_take, show 508 - min 508 l.length = 0 by omega]; simp
  unfold sealB
  rw [hp]
  constructor
  · intro e
    exact (List.append_cancel_left ((List.take_append_drop 508 l).trans e)).symm
  · intro e
    rw [e, List.take_append_drop]
end Go.Proofs.Ythflnndjjhifeaa
