/- Plain facts: bits that were packed are read again. No program in sight. -/
import Derived.Test.YtnedboomhbdecaaBitQ
namespace Go.Proofs.Ytnedboomhbdecaa

theorem bitOf_natOf_at : ∀ (x : List Bool) (r : Nat) (b : Bool), x[r]? = some b → bitOf ((natOf x : Nat) : Int) r = b
  | [], r, b, h => by simp at h
  | y :: x, 0, b, h => by
    simp at h; subst h; exact bitOf_natOf_zero _ _
  | y :: x, r + 1, b, h => by
    rw [bitOf_natOf_succ]
    exact bitOf_natOf_at x r b (by simpa using h)
theorem peekN_pack (l : List Bool) (a : Nat) (b : Bool) (h : l[a]? = some b) : peekN (packB l) a 1 = b.toNat := by
  have ha : a < l.length := by
    rcases Nat.lt_or_ge a l.length with h1 | h1
    · exact h1
    · rw [List.getElem?_eq_none h1] at h; cases h
  unfold peekN
  rw [bitsB_chunk (packB l) a 1 (byteAt l (a / 8)) (packB_at l _ (by omega)) (by omega)]
  have e : lowB 1 (((byteAt l (a / 8)).toNat : Int) / 2 ^ (a % 8)) = [b] := by
    rw [lowB_succ, lowB_zero, List.nil_append, ← bitOf_drop, Nat.add_zero, byteAt_nat]
    rw [bitOf_natOf_at _ (a % 8) b]
    rw [List.getElem?_take, if_pos (Nat.mod_lt _ (by omega)), List.getElem?_drop, Nat.div_add_mod]
    exact h
  rw [e]
  cases b <;> rfl
end Go.Proofs.Ytnedboomhbdecaa
