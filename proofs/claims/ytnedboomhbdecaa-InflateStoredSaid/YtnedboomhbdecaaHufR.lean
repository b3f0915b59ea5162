/- Plain facts on reading codes: which symbol bits begin with. No program in sight. -/
import Derived.Test.YtnedboomhbdecaaHufQ
namespace Go.Proofs.Ytnedboomhbdecaa

theorem endC_up' (l : List Int) (n : Nat) : ∀ d : Nat, 2 ^ (d + 1) * endC l n ≤ firstC l (n + d + 1)
  | 0 => by show 2 ^ 1 * endC l n ≤ 2 * endC l n; omega
  | d + 1 => by
    have h := endC_up' l n d
    have h2 := endC_first l (n + d)
    show 2 ^ (d + 1 + 1) * endC l n ≤ 2 * endC l (n + d + 1)
    have h3 : 2 ^ (d + 1 + 1) * endC l n = 2 * (2 ^ (d + 1) * endC l n) := by rw [Nat.pow_succ, Nat.mul_comm (2 ^ (d + 1)) 2, Nat.mul_assoc]
    rw [h3]
    omega
/-- The symbol of a length at a place among them. -/
theorem syms_at {l : List Int} {n : Int} : ∀ {k i : Nat}, i < cntTo l n k → ∃ s : Nat, (symsTo l n k)[i]? = some (s : Int) ∧ s < k ∧ l[s]? = some n ∧ cntTo l n s = i
  | 0, i, h => by simp [cntTo, symsTo] at h
  | k + 1, i, h => by
    by_cases hx : l[k]? = some n
    · rw [cntTo_yes hx] at h
      rw [symsTo_yes hx]
      by_cases hi : i < cntTo l n k
      · obtain ⟨s, h1, h2, h3, h4⟩ := syms_at hi
        exact ⟨s, by rw [List.getElem?_append_left hi]; exact h1, by omega, h3, h4⟩
      · have : i = cntTo l n k := by omega
        subst this
        exact ⟨k, by rw [show cntTo l n k = (symsTo l n k).length from rfl, List.getElem?_append_right (Nat.le_refl _), Nat.sub_self]; rfl, by omega, hx, rfl⟩
    · rw [cntTo_no hx] at h
      obtain ⟨s, h1, h2, h3, h4⟩ := syms_at h
      exact ⟨s, by rw [symsTo_no hx]; exact h1, by omega, h3, h4⟩
/-- The symbol of length n with a code. -/
theorem sym_of_code {l : List Int} {n c : Nat} (h1 : firstC l n ≤ c) (h2 : c - firstC l n < cnt l (n : Int)) : ∃ s : Nat, (syms l (n : Int))[c - firstC l n]? = some (s : Int) ∧ s < l.length ∧ l[s]? = some (n : Int) ∧ codeS l s n = c := by
  obtain ⟨s, e1, e2, e3, e4⟩ := syms_at h2
  exact ⟨s, e1, e2, e3, by unfold codeS; omega⟩
/-- A symbol's code is met by bits. -/
def Met (l : List Int) (bits : List Int) (s n : Nat) : Prop := l[s]? = some (n : Int) ∧ 1 ≤ n ∧ n ≤ bits.length ∧ bitsV (bits.take n) = codeS l s n
/-- Bits begin a symbol's code, that is longer. -/
def Opens (l : List Int) (bits : List Int) : Prop := ∃ s n : Nat, l[s]? = some (n : Int) ∧ bits.length < n ∧ bitsV bits = ((codeS l s n / 2 ^ (n - bits.length) : Nat) : Int)
theorem bitsV_take_div (bits : List Int) (h01 : ∀ b ∈ bits, b = 0 ∨ b = 1) (n m : Nat) (h : n ≤ m) (hm : m ≤ bits.length) : bitsV (bits.take m) / 2 ^ (m - n) = bitsV (bits.take n) := by
  obtain ⟨d, rfl⟩ : ∃ d, m = n + d := ⟨m - n, by omega⟩
  rw [Nat.add_sub_cancel_left]
  induction d with
  | zero => simp
  | succ d ih =>
    have hlt : n + d < bits.length := by omega
    have hts : bits.take (n + d + 1) = bits.take (n + d) ++ [bits[n + d]] := by rw [List.take_succ_eq_append_getElem hlt]
    have hb := h01 bits[n + d] (List.getElem_mem hlt)
    have ih' := ih (by omega) (by omega)
    show bitsV (bits.take (n + d + 1)) / 2 ^ (d + 1) = _
    rw [hts, bitsV_snoc, show (2 : Int) ^ (d + 1) = 2 * 2 ^ d by rw [Int.pow_succ, Int.mul_comm], ← Int.ediv_ediv_of_nonneg (by omega : (0 : Int) ≤ 2)]
    rw [show (2 * bitsV (bits.take (n + d)) + bits[n + d]) / 2 = bitsV (bits.take (n + d)) by omega]
    exact ih'
theorem nat_div_pow (c d : Nat) : ((c : Int) / 2 ^ d) = ((c / 2 ^ d : Nat) : Int) := by
  have : ((2 : Int) ^ d) = ((2 ^ d : Nat) : Int) := by simp
  rw [this]; rfl
theorem code_apart' {l : List Int} {a b n m : Nat} (ha : l[a]? = some (n : Int)) (hn : 1 ≤ n) (h : n < m) : codeS l b m / 2 ^ (m - n) ≠ codeS l a n := by
  have h1 := codeS_lt ha hn
  obtain ⟨d, rfl⟩ : ∃ d, m = n + d + 1 := ⟨m - n - 1, by omega⟩
  have h2 := endC_up' l n d
  have h3 : n + d + 1 - n = d + 1 := by omega
  rw [h3]
  have h4 : 2 ^ (d + 1) * endC l n ≤ codeS l b (n + d + 1) := by unfold codeS; omega
  have h5 : endC l n ≤ codeS l b (n + d + 1) / 2 ^ (d + 1) := by
    rw [Nat.le_div_iff_mul_le (Nat.pow_pos (by omega)), Nat.mul_comm]; exact h4
  omega
theorem code_inj {l : List Int} {a b n : Nat} (ha : l[a]? = some (n : Int)) (hb : l[b]? = some (n : Int)) (h : codeS l a n = codeS l b n) : a = b := by
  have key : ∀ x y, l[x]? = some (n : Int) → x < y → codeS l x n < codeS l y n := by
    intro x y hx hxy
    have h1 := cntTo_yes hx
    have h2 := cntTo_mono l (n : Int) (x + 1) y (by omega)
    unfold codeS; omega
  rcases Nat.lt_trichotomy a b with h1 | h1 | h1
  · have := key a b ha h1; omega
  · exact h1
  · have := key b a hb h1; omega
/-- At most one symbol is met. -/
theorem met_one {l bits : List Int} (h01 : ∀ b ∈ bits, b = 0 ∨ b = 1) {s n t m : Nat} (h1 : Met l bits s n) (h2 : Met l bits t m) : s = t ∧ n = m := by
  obtain ⟨a1, a2, a3, a4⟩ := h1
  obtain ⟨b1, b2, b3, b4⟩ := h2
  have no : ∀ {s n t m : Nat}, l[s]? = some (n : Int) → 1 ≤ n → bitsV (bits.take n) = codeS l s n → m ≤ bits.length → bitsV (bits.take m) = codeS l t m → n < m → False := by
    intro s n t m c1 c2 c3 c4 c5 c6
    have hd := bitsV_take_div bits h01 n m (by omega) c4
    rw [c3, c5, nat_div_pow] at hd
    exact code_apart' (b := t) c1 c2 c6 (by omega)
  rcases Nat.lt_trichotomy n m with h | h | h
  · exact (no a1 a2 a4 b3 b4 h).elim
  · subst h
    exact ⟨code_inj a1 b1 (by omega), rfl⟩
  · exact (no b1 b2 b4 a3 a4 h).elim
/-- The symbol that comes next: the error, the symbol, how many bits it took. -/
def NX (l bits : List Int) (e s n : Nat) : Prop := (e = 0 ∧ Met l bits s n) ∨ (e = 3 ∧ s = 0 ∧ (∀ t m, ¬ Met l bits t m) ∧ Opens l bits) ∨ (e = 12 ∧ s = 0 ∧ (∀ t m, ¬ Met l bits t m) ∧ ¬ Opens l bits)
theorem nx_one {l bits : List Int} (h01 : ∀ b ∈ bits, b = 0 ∨ b = 1) {e s n e' s' n' : Nat} (h1 : NX l bits e s n) (h2 : NX l bits e' s' n') : e = e' ∧ s = s' ∧ (e = 0 → n = n') := by
  rcases h1 with ⟨rfl, a⟩ | ⟨rfl, rfl, a, b⟩ | ⟨rfl, rfl, a, b⟩ <;> rcases h2 with ⟨rfl, c⟩ | ⟨rfl, rfl, c, d⟩ | ⟨rfl, rfl, c, d⟩
  · obtain ⟨h3, h4⟩ := met_one h01 a c
    exact ⟨rfl, h3, fun _ => h4⟩
  · exact absurd a (c _ _)
  · exact absurd a (c _ _)
  · exact absurd c (a _ _)
  · exact ⟨rfl, rfl, fun h => by cases h⟩
  · exact absurd b d
  · exact absurd c (a _ _)
  · exact absurd d b
  · exact ⟨rfl, rfl, fun h => by cases h⟩
end Go.Proofs.Ytnedboomhbdecaa
