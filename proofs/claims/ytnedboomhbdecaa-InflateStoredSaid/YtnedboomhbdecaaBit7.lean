/- Contracts of the reference for bits: Held, Number. -/
import Derived.Test.YtnedboomhbdecaaBit6
namespace Go.Proofs.Ytnedboomhbdecaa
open Go.RowKit

theorem refheld_any (x : Int) (w : World) : Calls Try.prog 38 #[.int .i64 x] w fun e w' => e = .returned (.int .i64 (hel x)) ∧ w = w' := by
  go_enter Try.func38, Try.ntmps38
  go_wp2
  all_goals
    go_ret
    exact ⟨ret_int (by unfold hel; omega), rfl⟩

/-- Bits as numbers. -/
def bnums (l : List Bool) : List Int := l.map fun b => (b.toNat : Int)
theorem bnums_len (l : List Bool) : (bnums l).length = l.length := by simp [bnums]
theorem bnums_at {l : List Bool} {k : Nat} {u : Int} (h : (bnums l)[k]? = some u) : ∃ b, l[k]? = some b ∧ u = (b.toNat : Int) := by
  simp only [bnums, List.getElem?_map, Option.map_eq_some_iff] at h
  obtain ⟨b, hb, rfl⟩ := h
  exact ⟨b, hb, rfl⟩
theorem natOf_drop {l : List Bool} {k : Nat} {b : Bool} (h : l[k]? = some b) : natOf (l.drop k) = b.toNat + 2 * natOf (l.drop (k + 1)) := by
  obtain ⟨hk, rfl⟩ := List.getElem?_eq_some_iff.1 h
  rw [List.drop_eq_getElem_cons hk, natOf]

theorem refnumber_any (B : Nat) (A : Option Addr) (n c : Nat) (l : List Bool) (w : World) (hr : Rd w B 1 A n (its (bnums l))) (hn : n ≤ 24) :
    Calls Try.prog 40 #[.slice A n c] w fun e w' => e = .returned (.int .i64 ((natOf l : Nat) : Int)) ∧ w = w' := by
  have hll := hr.ilen
  rw [bnums_len] at hll
  have Hll := Lib.hid hll
  clear hll
  go_enter Try.func40, Try.ntmps40
  go_wp2_with fail
  go_loop [3, 4] (fun t i => ∃ k : Nat, k ≤ n ∧ i = .int .i64 ((k : Int) - 1) ∧ t = .int .i64 ((natOf (l.drop k) : Nat) : Int)) (fun _ i => (intOf i + 1).toNat)
  case atStart => exact ⟨n, Nat.le_refl _, rfl, by rw [List.drop_of_length_le (by have := Hll.out; omega)]; rfl⟩
  case round =>
    obtain ⟨k, hk, rfl, rfl⟩ := hrel
    rcases Nat.eq_zero_or_pos k with h0 | h0
    · subst h0
      rw [List.drop_zero]
      go_wp2
      go_ret
      exact ⟨rfl, rfl⟩
    · obtain ⟨i, rfl⟩ : ∃ i, k = i + 1 := ⟨k - 1, by omega⟩
      obtain ⟨b, o, u, rfl, hbb, hx, hc⟩ := hr.num (show i < n by omega)
      obtain ⟨y, hy, rfl⟩ := bnums_at hx
      have hst := natOf_drop hy
      have hlt := natOf_lt (l.drop (i + 1))
      have hp : 2 ^ (l.drop (i + 1)).length ≤ 2 ^ 24 := Nat.pow_le_pow_right (by omega) (by rw [List.length_drop]; have := Hll.out; omega)
      have hT : natOf (l.drop (i + 1)) ≤ 16777216 := by omega
      have hy1 : y.toNat ≤ 1 := by cases y <;> decide
      have Hst := Lib.hid hst
      clear hst hlt hp hx hy
      generalize natOf (l.drop (i + 1)) = T at *
      generalize y.toNat = Y at *
      go_wp2_with fail
      go_round
      case rel => exact ⟨i, by omega, by go_num, by rw [Hst.out]; go_num⟩
      case measure => simp [intOf]
end Go.Proofs.Ytnedboomhbdecaa
