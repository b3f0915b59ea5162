/- Runes and bytes: a right text is its runes' bytes, and runes are those of their bytes. No program in sight. -/
import Derived.Test.YtbdehlphblbmoaaDoorGlbE
import Derived.Lib.ValidLaws
import Derived.Lib.QuoteLoop
namespace Go.Proofs.YtbdehlphblbmoaaDoor
open Go.Lib

/-- The runes of bytes; at most n. -/
def rnL : Nat → List UInt8 → List Int
  | 0, _ => []
  | n + 1, l => if l = [] then [] else (((decodeL l).1 : Nat) : Int) :: rnL n (l.drop (decodeL l).2)
def runesL (l : List UInt8) : List Int := rnL l.length l
/-- The bytes of runes. -/
def encL (rs : List Int) : List UInt8 := rs.flatMap encodeRune
/-- A rune that has bytes. -/
def okR (r : Int) : Prop := (0 ≤ r ∧ r < 55296) ∨ (57343 < r ∧ r ≤ 1114111)
theorem rnL_fuel : ∀ (n m : Nat) (l : List UInt8), l.length ≤ n → l.length ≤ m → rnL n l = rnL m l
  | 0, 0, _, _, _ => rfl
  | 0, m + 1, l, hn, _ => by
    have : l = [] := List.eq_nil_of_length_eq_zero (by omega)
    subst this
    simp [rnL]
  | n + 1, 0, l, _, hm => by
    have : l = [] := List.eq_nil_of_length_eq_zero (by omega)
    subst this
    simp [rnL]
  | n + 1, m + 1, l, hn, hm => by
    rw [rnL, rnL]
    by_cases hne : l = []
    · rw [if_pos hne, if_pos hne]
    · have hw := decodeL_width l
      have hl : 0 < l.length := List.length_pos_iff.2 hne
      rw [if_neg hne, if_neg hne, rnL_fuel n m _ (by rw [List.length_drop]; omega) (by rw [List.length_drop]; omega)]
theorem runesL_nil : runesL [] = [] := rfl
theorem runesL_step (l : List UInt8) (hne : l ≠ []) : runesL l = (((decodeL l).1 : Nat) : Int) :: runesL (l.drop (decodeL l).2) := by
  have hw := decodeL_width l
  have hl : 0 < l.length := List.length_pos_iff.2 hne
  obtain ⟨n, hn⟩ : ∃ n, l.length = n + 1 := ⟨l.length - 1, by omega⟩
  unfold runesL
  rw [hn, rnL, if_neg hne, rnL_fuel n (l.drop (decodeL l).2).length _ (by rw [List.length_drop]; omega) (Nat.le_refl _)]
theorem rnFrom_L (s : ByteArray) : ∀ (f i : Nat), s.size ≤ i + f → rnFrom s f i = runesL (s.data.toList.drop i)
  | 0, i, h => by
    rw [rnFrom, List.drop_of_length_le (by rw [Array.length_toList]; show s.size ≤ i; omega)]
    rfl
  | f + 1, i, h => by
    rw [rnFrom]
    by_cases hi : i < s.size
    · have hne : s.data.toList.drop i ≠ [] := by
        intro e
        have := congrArg List.length e
        rw [List.length_drop, Array.length_toList] at this
        have h2 : s.data.size = s.size := rfl
        simp at this
        omega
      have hw := width_pos s i
      rw [if_pos hi, runesL_step _ hne, rnFrom_L s f _ (by omega), decodeL_drop, List.drop_drop]
    · rw [if_neg hi, List.drop_of_length_le (by rw [Array.length_toList]; show s.size ≤ i; omega)]
      rfl
theorem rnB_L (s : ByteArray) : rnB s = runesL s.data.toList := by
  unfold rnB
  rw [rnFrom_L s s.size 0 (by omega)]
  rfl
theorem decode_okR (l : List UInt8) : okR (((decodeL l).1 : Nat) : Int) := by
  rw [decodeL_N]
  have := decodeN_valid l.length (l.getD 0 0).toNat (l.getD 1 0).toNat (l.getD 2 0).toNat (l.getD 3 0).toNat (UInt8.toNat_lt _)
  unfold okR
  omega
theorem runesL_ok : ∀ (n : Nat) (l : List UInt8), l.length ≤ n → ∀ r ∈ runesL l, okR r
  | 0, l, hn => by
    have : l = [] := List.eq_nil_of_length_eq_zero (by omega)
    subst this
    intro r hr
    simp [runesL_nil] at hr
  | n + 1, l, hn => by
    by_cases hne : l = []
    · subst hne
      intro r hr
      simp [runesL_nil] at hr
    · have hw := decodeL_width l
      have hl : 0 < l.length := List.length_pos_iff.2 hne
      rw [runesL_step l hne]
      intro r hr
      rcases List.mem_cons.1 hr with rfl | hr
      · exact decode_okR l
      · exact runesL_ok n _ (by rw [List.length_drop]; omega) r hr
/-- A right text is the bytes of its runes. -/
theorem enc_runes : ∀ (n : Nat) (l : List UInt8), l.length ≤ n → validD l = true → encL (runesL l) = l
  | 0, l, hn, _ => by
    have : l = [] := List.eq_nil_of_length_eq_zero (by omega)
    subst this
    rfl
  | n + 1, l, hn, hv => by
    by_cases hne : l = []
    · subst hne; rfl
    · have hw := decodeL_width l
      have hl : 0 < l.length := List.length_pos_iff.2 hne
      rw [validD_step l hne] at hv
      by_cases hb : (decodeL l).1 = 65533 ∧ (decodeL l).2 = 1
      · rw [if_pos hb] at hv; cases hv
      · rw [if_neg hb] at hv
        rw [runesL_step l hne]
        have ih := enc_runes n (l.drop (decodeL l).2) (by rw [List.length_drop]; omega) hv
        unfold encL at ih ⊢
        rw [List.flatMap_cons, ih, encode_decode l hne hb, List.take_append_drop]
theorem byte_of (z : Int) (h0 : 0 ≤ z) (h1 : z < 256) : (z.toNat.toUInt8).toNat = z.toNat := by
  rw [Nat.toUInt8_eq, UInt8.toNat_ofNat']
  omega
/-- A rune's bytes, whatever is behind, tell it. -/
theorem decode_enc (r : Int) (t : List UInt8) (h : okR r) : decodeL (encodeRune r ++ t) = (r.toNat, (encodeRune r).length) := by
  unfold okR at h
  rw [decodeL_N]
  unfold encodeRune
  by_cases h1 : r ≤ 127
  · rw [encodeRuneZ_one (by omega) h1]
    simp only [List.map_cons, List.map_nil, List.cons_append, List.nil_append, List.length_cons, List.length_nil, List.getD_cons_zero, List.getD_cons_succ]
    rw [byte_of r (by omega) (by omega)]
    unfold decodeN
    rw [if_pos (by omega)]
  by_cases h2 : r ≤ 2047
  · rw [encodeRuneZ_two (by omega) h2]
    simp only [List.map_cons, List.map_nil, List.cons_append, List.nil_append, List.length_cons, List.length_nil, List.getD_cons_zero, List.getD_cons_succ]
    rw [byte_of (192 + r / 64) (by omega) (by omega), byte_of (128 + r % 64) (by omega) (by omega)]
    unfold decodeN
    rw [if_neg (by omega), if_pos (by omega), if_pos (by omega)]
    congr 1
    omega
  by_cases h3 : r ≤ 65535
  · rw [encodeRuneZ_three (by omega)]
    simp only [List.map_cons, List.map_nil, List.cons_append, List.nil_append, List.length_cons, List.length_nil, List.getD_cons_zero, List.getD_cons_succ]
    rw [byte_of (224 + r / 4096) (by omega) (by omega), byte_of (128 + r / 64 % 64) (by omega) (by omega), byte_of (128 + r % 64) (by omega) (by omega)]
    have e : (224 + r / 4096).toNat % 16 * 4096 + (128 + r / 64 % 64).toNat % 64 * 64 + (128 + r % 64).toNat % 64 = r.toNat := by omega
    unfold decodeN
    rw [if_neg (by omega), if_neg (by omega), if_pos (by omega), e, if_pos (by omega)]
  · rw [encodeRuneZ_four (by omega) (by omega)]
    simp only [List.map_cons, List.map_nil, List.cons_append, List.nil_append, List.length_cons, List.length_nil, List.getD_cons_zero, List.getD_cons_succ]
    rw [byte_of (240 + r / 262144) (by omega) (by omega), byte_of (128 + r / 4096 % 64) (by omega) (by omega), byte_of (128 + r / 64 % 64) (by omega) (by omega), byte_of (128 + r % 64) (by omega) (by omega)]
    have e : (240 + r / 262144).toNat % 8 * 262144 + (128 + r / 4096 % 64).toNat % 64 * 4096 + (128 + r / 64 % 64).toNat % 64 * 64 + (128 + r % 64).toNat % 64 = r.toNat := by omega
    unfold decodeN
    rw [if_neg (by omega), if_neg (by omega), if_neg (by omega), if_pos (by omega), e, if_pos (by omega)]
theorem enc_pos (r : Int) : 1 ≤ (encodeRune r).length ∧ (encodeRune r).length ≤ 4 := by
  have := runeCells_le r
  rwa [runeCells_length] at this
theorem enc_ne (r : Int) (t : List UInt8) : encodeRune r ++ t ≠ [] := by
  intro e
  have h0 := (enc_pos r).1
  rw [(List.append_eq_nil_iff.1 e).1] at h0
  simp at h0
theorem enc_wide (r : Int) (h : okR r) : ¬ (r.toNat = 65533 ∧ (encodeRune r).length = 1) := by
  rintro ⟨h1, h2⟩
  have : r = 65533 := by unfold okR at h; omega
  subst this
  revert h2
  decide
theorem runes_enc : ∀ (rs : List Int), (∀ r ∈ rs, okR r) → runesL (encL rs) = rs
  | [], _ => rfl
  | r :: rs, h => by
    have hr := h r (by simp)
    unfold encL
    rw [List.flatMap_cons, runesL_step _ (enc_ne _ _), decode_enc r _ hr]
    simp only
    rw [List.drop_left]
    have ih := runes_enc rs (fun x hx => h x (by simp [hx]))
    unfold encL at ih
    rw [ih]
    congr 1
    unfold okR at hr
    omega
theorem valid_enc : ∀ (rs : List Int), (∀ r ∈ rs, okR r) → validD (encL rs) = true
  | [], _ => rfl
  | r :: rs, h => by
    have hr := h r (by simp)
    unfold encL
    rw [List.flatMap_cons, validD_step _ (enc_ne _ _), decode_enc r _ hr]
    simp only
    rw [if_neg (enc_wide r hr), List.drop_left]
    exact valid_enc rs (fun x hx => h x (by simp [hx]))
theorem encL_app (a b : List Int) : encL (a ++ b) = encL a ++ encL b := by unfold encL; rw [List.flatMap_append]
theorem encL_one (r : Int) : encL [r] = encodeRune r := by unfold encL; simp
theorem encL_ascii : ∀ (l : List UInt8), (∀ b ∈ l, b.toNat < 128) → encL (l.map fun b => (b.toNat : Int)) = l
  | [], _ => rfl
  | b :: l, h => by
    have hb := h b (by simp)
    have ih := encL_ascii l (fun x hx => h x (by simp [hx]))
    unfold encL at ih ⊢
    rw [List.map_cons, List.flatMap_cons, ih]
    unfold encodeRune
    rw [encodeRuneZ_one (by omega) (by omega)]
    simp
theorem encL_len : ∀ rs : List Int, rs.length ≤ (encL rs).length ∧ (encL rs).length ≤ 4 * rs.length
  | [] => by simp [encL]
  | r :: rs => by
    have ih := encL_len rs
    have := enc_pos r
    unfold encL at ih ⊢
    rw [List.flatMap_cons, List.length_append, List.length_cons]
    omega
/-- Runes are told by their bytes. -/
theorem encL_inj {a b : List Int} (ha : ∀ r ∈ a, okR r) (hb : ∀ r ∈ b, okR r) (h : encL a = encL b) : a = b := by
  rw [← runes_enc a ha, ← runes_enc b hb, h]
end Go.Proofs.YtbdehlphblbmoaaDoor
