/- Plain facts on the texts of moments' numbers. No program in sight. -/
import Derived.Test.YtmijgcmlpdehkaaDoorDosR
import Derived.Test.YtmijgcmlpdehkaaDoorDos8
namespace Go.Proofs.YtmijgcmlpdehkaaDoor

/-- A digit's byte; two digits. -/
def dg (x : Int) : UInt8 := UInt8.ofNat (48 + x.toNat)
theorem dg_nat (x : Int) (h : 0 ≤ x) (h9 : x ≤ 9) : ((dg x).toNat : Int) = 48 + x := by
  unfold dg
  rw [UInt8.toNat_ofNat', Nat.mod_eq_of_lt (by omega)]
  omega
def d2 (x : Int) : List UInt8 := [dg (x / 10), dg (x % 10)]
def t10 (y m d : Int) : List UInt8 := d2 (y / 100) ++ (d2 (y % 100) ++ (45 :: (d2 m ++ (45 :: d2 d))))
def t9 (h i s : Int) : List UInt8 := 32 :: (d2 h ++ (58 :: (d2 i ++ (58 :: d2 s))))
/-- The text of a number. -/
def textN (n : Int) : List UInt8 := if n % 65536 = 0 then t10 (1980 + n / 33554432) (n / 2097152 % 16) (n / 65536 % 32)
  else t10 (1980 + n / 33554432) (n / 2097152 % 16) (n / 65536 % 32) ++ t9 (n / 2048 % 32) (n / 32 % 64) (n % 32 * 2)
theorem textN_10 {n : Int} (h : n % 65536 = 0) : textN n = t10 (1980 + n / 33554432) (n / 2097152 % 16) (n / 65536 % 32) := by unfold textN; rw [if_pos h]
theorem textN_19 {n : Int} (h : ¬ n % 65536 = 0) : textN n = t10 (1980 + n / 33554432) (n / 2097152 % 16) (n / 65536 % 32) ++ t9 (n / 2048 % 32) (n / 32 % 64) (n % 32 * 2) := by unfold textN; rw [if_neg h]
theorem t10_len (y m d : Int) : (t10 y m d).length = 10 := rfl
theorem t9_len (y m d : Int) : (t9 y m d).length = 9 := rfl
theorem right_bd {n : Int} (h : RightN n) : 0 ≤ n ∧ n < 4294967296 ∧ (1 ≤ n / 2097152 % 16 ∧ n / 2097152 % 16 ≤ 12) ∧ (1 ≤ n / 65536 % 32 ∧ n / 65536 % 32 ≤ 31) ∧ n / 2048 % 32 ≤ 23 ∧ n / 32 % 64 ≤ 59 ∧ n % 32 * 2 ≤ 59 := by
  obtain ⟨h1, h2, h3, h4, h5, h6⟩ := h
  have := mdays_bd (1980 + n / 33554432) (n / 2097152 % 16)
  omega
theorem chr_of {t : List UInt8} {i : Nat} {x : Int} (h : t[i]? = some (dg x)) (h0 : 0 ≤ x) (h9 : x ≤ 9) : (chr t i : Int) = 48 + x := by
  unfold chr; rw [h]; exact dg_nat x h0 h9
theorem dig_of {t : List UInt8} {i : Nat} {x : Int} (h : (chr t i : Int) = 48 + x) (h0 : 0 ≤ x) (h9 : x ≤ 9) : digB t i = true := by
  unfold digB; simp only [Bool.and_eq_true, decide_eq_true_eq]; omega
theorem num2_of {t : List UInt8} {a : Nat} {x : Int} (h0 : 0 ≤ x) (h9 : x ≤ 99) (h1 : t[a]? = some (dg (x / 10))) (h2 : t[a + 1]? = some (dg (x % 10))) : numD t a 2 = x := by
  have c1 := chr_of h1 (by omega) (by omega)
  have c2 := chr_of h2 (by omega) (by omega)
  rw [numD_yes t a 2 (fun i hi => by
    rcases (by omega : i = 0 ∨ i = 1) with rfl | rfl
    · exact dig_of c1 (by omega) (by omega)
    · exact dig_of c2 (by omega) (by omega))]
  show 10 * (10 * 0 + ((chr t (a + 0) : Int) - 48)) + ((chr t (a + 1) : Int) - 48) = x
  rw [Nat.add_zero]
  omega
theorem num4_of {t : List UInt8} {y : Int} (h0 : 0 ≤ y) (h9 : y ≤ 9999) (h1 : t[0]? = some (dg (y / 100 / 10))) (h2 : t[1]? = some (dg (y / 100 % 10))) (h3 : t[2]? = some (dg (y % 100 / 10))) (h4 : t[3]? = some (dg (y % 100 % 10))) : numD t 0 4 = y := by
  have c1 := chr_of h1 (by omega) (by omega)
  have c2 := chr_of h2 (by omega) (by omega)
  have c3 := chr_of h3 (by omega) (by omega)
  have c4 := chr_of h4 (by omega) (by omega)
  rw [numD_yes t 0 4 (fun i hi => by
    rcases (by omega : i = 0 ∨ i = 1 ∨ i = 2 ∨ i = 3) with rfl | rfl | rfl | rfl
    · exact dig_of c1 (by omega) (by omega)
    · exact dig_of c2 (by omega) (by omega)
    · exact dig_of c3 (by omega) (by omega)
    · exact dig_of c4 (by omega) (by omega))]
  show 10 * (10 * (10 * (10 * 0 + ((chr t 0 : Int) - 48)) + ((chr t 1 : Int) - 48)) + ((chr t 2 : Int) - 48)) + ((chr t 3 : Int) - 48) = y
  omega
/-- A number's text is read as it. -/
theorem text_mom {n : Int} (h : RightN n) : MomT (textN n) ∧ momN (textN n) = n := by
  have hb := right_bd h
  have hn := dosN_of n
  have h' := h
  unfold RightN at h'
  by_cases h0 : n % 65536 = 0
  · rw [textN_10 h0]
    have e3 : n / 2048 % 32 = 0 := by omega
    have e4 : n / 32 % 64 = 0 := by omega
    have e5 : n % 32 * 2 = 0 := by omega
    rw [e3, e4, e5] at hn h'
    obtain ⟨g1, g2⟩ := mom10 (t10 (1980 + n / 33554432) (n / 2097152 % 16) (n / 65536 % 32)) rfl rfl rfl
    rw [num4_of (y := 1980 + n / 33554432) (by omega) (by omega) rfl rfl rfl rfl, num2_of (x := n / 2097152 % 16) (by omega) (by omega) rfl rfl, num2_of (x := n / 65536 % 32) (by omega) (by omega) rfl rfl] at g1 g2
    have g := g1.2 h'
    exact ⟨g, (g2 g).trans hn⟩
  · rw [textN_19 h0]
    obtain ⟨g1, g2⟩ := mom19 (t10 (1980 + n / 33554432) (n / 2097152 % 16) (n / 65536 % 32) ++ t9 (n / 2048 % 32) (n / 32 % 64) (n % 32 * 2)) rfl rfl rfl rfl rfl rfl
    rw [num4_of (y := 1980 + n / 33554432) (by omega) (by omega) rfl rfl rfl rfl, num2_of (a := 5) (x := n / 2097152 % 16) (by omega) (by omega) rfl rfl, num2_of (a := 8) (x := n / 65536 % 32) (by omega) (by omega) rfl rfl,
      num2_of (a := 11) (x := n / 2048 % 32) (by omega) (by omega) rfl rfl, num2_of (a := 14) (x := n / 32 % 64) (by omega) (by omega) rfl rfl, num2_of (a := 17) (x := n % 32 * 2) (by omega) (by omega) rfl rfl] at g1 g2
    have g := g1.2 h'
    exact ⟨g, (g2 g).trans hn⟩
theorem dg_lt {a b : Int} (h0 : 0 ≤ a) (h9 : a ≤ 9) (k0 : 0 ≤ b) (k9 : b ≤ 9) : dg a < dg b ↔ a < b := by
  rw [UInt8.lt_iff_toNat_lt]
  have := dg_nat a h0 h9
  have := dg_nat b k0 k9
  omega
theorem dg_eq {a b : Int} (h0 : 0 ≤ a) (h9 : a ≤ 9) (k0 : 0 ≤ b) (k9 : b ≤ 9) : dg a = dg b ↔ a = b := by
  refine ⟨fun h => ?_, fun h => by rw [h]⟩
  have h1 := dg_nat a h0 h9
  have h2 := dg_nat b k0 k9
  rw [h] at h1
  omega
theorem d2_lt {a b : Int} (h0 : 0 ≤ a) (h9 : a ≤ 99) (k0 : 0 ≤ b) (k9 : b ≤ 99) (r s : List UInt8) : d2 a ++ r < d2 b ++ s ↔ a < b ∨ a = b ∧ r < s := by
  show dg (a / 10) :: dg (a % 10) :: r < dg (b / 10) :: dg (b % 10) :: s ↔ _
  rw [List.cons_lt_cons_iff, List.cons_lt_cons_iff, dg_lt (by omega) (by omega) (by omega) (by omega), dg_eq (by omega) (by omega) (by omega) (by omega), dg_lt (by omega) (by omega) (by omega) (by omega), dg_eq (by omega) (by omega) (by omega) (by omega)]
  by_cases hrs : r < s
  · simp only [hrs, and_true]; omega
  · simp only [hrs, and_false, or_false]; omega
theorem same_lt (c : UInt8) (r s : List UInt8) : c :: r < c :: s ↔ r < s := by
  rw [List.cons_lt_cons_iff]
  refine ⟨fun h => ?_, fun h => .inr ⟨rfl, h⟩⟩
  rcases h with h | ⟨_, h⟩
  · exact absurd h (by rw [UInt8.lt_iff_toNat_lt]; omega)
  · exact h
theorem d2_last {a b : Int} (h0 : 0 ≤ a) (h9 : a ≤ 99) (k0 : 0 ≤ b) (k9 : b ≤ 99) : d2 a < d2 b ↔ a < b := by
  have := d2_lt h0 h9 k0 k9 [] []
  rw [List.append_nil, List.append_nil] at this
  rw [this]
  refine ⟨fun h => ?_, .inl⟩
  rcases h with h | ⟨_, h⟩
  · exact h
  · exact absurd h (by decide)
theorem y_lex (y z : Int) (R : Prop) (_ : 0 ≤ y) (_ : 0 ≤ z) : (y / 100 < z / 100 ∨ y / 100 = z / 100 ∧ (y % 100 < z % 100 ∨ y % 100 = z % 100 ∧ R)) ↔ (y < z ∨ y = z ∧ R) := by
  by_cases hR : R
  · simp only [hR, and_true]; omega
  · simp only [hR, and_false, or_false]; omega
theorem lex_y (a b : Int) : a < b ↔ 1980 + a / 33554432 < 1980 + b / 33554432 ∨ 1980 + a / 33554432 = 1980 + b / 33554432 ∧ a % 33554432 < b % 33554432 := by omega
theorem lex_m (a b : Int) : a % 33554432 < b % 33554432 ↔ a / 2097152 % 16 < b / 2097152 % 16 ∨ a / 2097152 % 16 = b / 2097152 % 16 ∧ a % 2097152 < b % 2097152 := by omega
theorem lex_d (a b : Int) : a % 2097152 < b % 2097152 ↔ a / 65536 % 32 < b / 65536 % 32 ∨ a / 65536 % 32 = b / 65536 % 32 ∧ a % 65536 < b % 65536 := by omega
theorem lex_h (a b : Int) : a % 65536 < b % 65536 ↔ a / 2048 % 32 < b / 2048 % 32 ∨ a / 2048 % 32 = b / 2048 % 32 ∧ a % 2048 < b % 2048 := by omega
theorem lex_i (a b : Int) : a % 2048 < b % 2048 ↔ a / 32 % 64 < b / 32 % 64 ∨ a / 32 % 64 = b / 32 % 64 ∧ a % 32 * 2 < b % 32 * 2 := by omega
theorem t10_lt {y m d y' m' d' : Int} (h : 0 ≤ y ∧ y ≤ 9999) (h1 : 0 ≤ m ∧ m ≤ 99) (h2 : 0 ≤ d ∧ d ≤ 99) (h' : 0 ≤ y' ∧ y' ≤ 9999) (h1' : 0 ≤ m' ∧ m' ≤ 99) (h2' : 0 ≤ d' ∧ d' ≤ 99) (r s : List UInt8) :
    t10 y m d ++ r < t10 y' m' d' ++ s ↔ (y < y' ∨ y = y' ∧ (m < m' ∨ m = m' ∧ (d < d' ∨ d = d' ∧ r < s))) := by
  unfold t10
  simp only [List.append_assoc, List.cons_append]
  rw [d2_lt (by omega) (by omega) (by omega) (by omega), d2_lt (by omega) (by omega) (by omega) (by omega), same_lt, d2_lt h1.1 h1.2 h1'.1 h1'.2, same_lt, d2_lt h2.1 h2.2 h2'.1 h2'.2]
  exact y_lex y y' _ h.1 h'.1
theorem t9_lt {y m d y' m' d' : Int} (h : 0 ≤ y ∧ y ≤ 99) (h1 : 0 ≤ m ∧ m ≤ 99) (h2 : 0 ≤ d ∧ d ≤ 99) (h' : 0 ≤ y' ∧ y' ≤ 99) (h1' : 0 ≤ m' ∧ m' ≤ 99) (h2' : 0 ≤ d' ∧ d' ≤ 99) :
    t9 y m d < t9 y' m' d' ↔ (y < y' ∨ y = y' ∧ (m < m' ∨ m = m' ∧ d < d')) := by
  unfold t9
  rw [same_lt, d2_lt h.1 h.2 h'.1 h'.2, same_lt, d2_lt h1.1 h1.2 h1'.1 h1'.2, same_lt, d2_last h2.1 h2.2 h2'.1 h2'.2]
/-- Texts of one length are in the order of their numbers. -/
theorem text_order {a b : Int} (ha : RightN a) (hb : RightN b) (hl : (textN a).length = (textN b).length) : textN a < textN b ↔ a < b := by
  have h1 := right_bd ha
  have h2 := right_bd hb
  by_cases ha0 : a % 65536 = 0
  · by_cases hb0 : b % 65536 = 0
    · rw [textN_10 ha0, textN_10 hb0]
      have := t10_lt (y := 1980 + a / 33554432) (m := a / 2097152 % 16) (d := a / 65536 % 32) (y' := 1980 + b / 33554432) (m' := b / 2097152 % 16) (d' := b / 65536 % 32) (by omega) (by omega) (by omega) (by omega) (by omega) (by omega) [] []
      rw [List.append_nil, List.append_nil] at this
      rw [this, lex_y a b, lex_m a b, lex_d a b, ha0, hb0]
      have hn : ¬ ([] : List UInt8) < [] := by decide
      simp only [hn, Int.lt_irrefl]
    · rw [textN_10 ha0, textN_19 hb0] at hl; simp [t10_len, t9_len] at hl
  · by_cases hb0 : b % 65536 = 0
    · rw [textN_19 ha0, textN_10 hb0] at hl; simp [t10_len, t9_len] at hl
    · rw [textN_19 ha0, textN_19 hb0, t10_lt (by omega) (by omega) (by omega) (by omega) (by omega) (by omega), t9_lt (by omega) (by omega) (by omega) (by omega) (by omega) (by omega)]
      rw [lex_y a b, lex_m a b, lex_d a b, lex_h a b, lex_i a b]
theorem text_len {n : Int} : (textN n).length = if n % 65536 = 0 then 10 else 19 := by
  by_cases h : n % 65536 = 0
  · rw [textN_10 h, if_pos h]; rfl
  · rw [textN_19 h, if_neg h]; rfl
end Go.Proofs.YtmijgcmlpdehkaaDoor
