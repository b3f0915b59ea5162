/- Contracts of package inflate: span, single, code. -/
import Derived.Test.YtnedboomhbdecaaInfA
import Derived.Test.YtnedboomhbdecaaInfP
namespace Go.Proofs.Ytnedboomhbdecaa
open Go.RowKit
attribute [local go_sem ↓] Go.wp_at_zero Go.wp_at_succ

set_option maxHeartbeats 400000 in
theorem span4 (s first : Nat) (w : World) (hs : s ≤ 30) (hf : first ≤ 10) :
    Calls Try.prog 73 #[.int .i64 (s : Int), .int .i64 4, .int .i64 (first : Int)] w fun e w' => e = .returned (.tuple #[.int .i64 ((spn s 4 first).1 : Int), .int .i64 ((spn s 4 first).2 : Int)]) ∧ w = w' := by
  by_cases h : s < 2 * 4
  · have He := Lib.hid (show spn s 4 first = (first + s, 0) by unfold spn; rw [if_pos h])
    rw [He.out]
    go_enter Try.func73, Try.ntmps73
    go_wp2
    go_ret2
    exact ⟨by simp, rfl⟩
  · obtain ⟨k, hk⟩ : ∃ k, s / 4 - 1 = k := ⟨_, rfl⟩
    obtain ⟨r, hr⟩ : ∃ r, 4 + s % 4 = r := ⟨_, rfl⟩
    have He := Lib.hid (show spn s 4 first = (first + r * 2 ^ k, k) by unfold spn; rw [if_neg h, hk, hr])
    have hk15 : k ≤ 14 := by omega
    have hr8 : r ≤ 7 := by omega
    have hp : 2 ^ k ≤ 16384 := Nat.pow_le_pow_right (show 0 < 2 by omega) hk15
    have hrp : r * 2 ^ k ≤ 7 * 16384 := Nat.mul_le_mul hr8 hp
    have hi : ((r : Int) * 2 ^ k) = ((r * 2 ^ k : Nat) : Int) := by simp
    rw [He.out]
    have e1 : (s : Int) / 4 - 1 = (k : Int) := by omega
    have e2 : 4 + (s : Int) % 4 = (r : Int) := by omega
    have hsh : wrap64 ((r : Int) * 2 ^ k) = ((r * 2 ^ k : Nat) : Int) := by rw [hi]; unfold wrap64; omega
    have h' : ¬ (s : Int) < 2 * 4 := by omega
    have hx : IntKind.i64.wrap ((first : Int) + ((r * 2 ^ k : Nat) : Int)) = ((first + r * 2 ^ k : Nat) : Int) := by rw [IntWalk.i64_in _ (by omega)]; omega
    generalize r * 2 ^ k = P at *
    have hk0 : (0 : Int) ≤ (k : Int) := by omega
    clear hi hrp hp hk hr h
    go_enter Try.func73, Try.ntmps73
    go_wp2
    go_ret2
    exact ⟨by simp, rfl⟩
set_option maxHeartbeats 400000 in
theorem span2 (s first : Nat) (w : World) (hs : s ≤ 30) (hf : first ≤ 10) :
    Calls Try.prog 73 #[.int .i64 (s : Int), .int .i64 2, .int .i64 (first : Int)] w fun e w' => e = .returned (.tuple #[.int .i64 ((spn s 2 first).1 : Int), .int .i64 ((spn s 2 first).2 : Int)]) ∧ w = w' := by
  by_cases h : s < 2 * 2
  · have He := Lib.hid (show spn s 2 first = (first + s, 0) by unfold spn; rw [if_pos h])
    rw [He.out]
    go_enter Try.func73, Try.ntmps73
    go_wp2
    go_ret2
    exact ⟨by simp, rfl⟩
  · obtain ⟨k, hk⟩ : ∃ k, s / 2 - 1 = k := ⟨_, rfl⟩
    obtain ⟨r, hr⟩ : ∃ r, 2 + s % 2 = r := ⟨_, rfl⟩
    have He := Lib.hid (show spn s 2 first = (first + r * 2 ^ k, k) by unfold spn; rw [if_neg h, hk, hr])
    have hk15 : k ≤ 14 := by omega
    have hr8 : r ≤ 7 := by omega
    have hp : 2 ^ k ≤ 16384 := Nat.pow_le_pow_right (show 0 < 2 by omega) hk15
    have hrp : r * 2 ^ k ≤ 7 * 16384 := Nat.mul_le_mul hr8 hp
    have hi : ((r : Int) * 2 ^ k) = ((r * 2 ^ k : Nat) : Int) := by simp
    rw [He.out]
    have e1 : (s : Int) / 2 - 1 = (k : Int) := by omega
    have e2 : 2 + (s : Int) % 2 = (r : Int) := by omega
    have hsh : wrap64 ((r : Int) * 2 ^ k) = ((r * 2 ^ k : Nat) : Int) := by rw [hi]; unfold wrap64; omega
    have h' : ¬ (s : Int) < 2 * 2 := by omega
    have hx : IntKind.i64.wrap ((first : Int) + ((r * 2 ^ k : Nat) : Int)) = ((first + r * 2 ^ k : Nat) : Int) := by rw [IntWalk.i64_in _ (by omega)]; omega
    generalize r * 2 ^ k = P at *
    have hk0 : (0 : Int) ≤ (k : Int) := by omega
    clear hi hrp hp hk hr h
    go_enter Try.func73, Try.ntmps73
    go_wp2
    go_ret2
    exact ⟨by simp, rfl⟩

theorem sumI_snoc (l : List Int) (x : Int) : sumI (l ++ [x]) = sumI l + x := by unfold sumI; rw [List.foldl_append]; rfl
theorem sumI_bd : ∀ (l : List Int) (k : Nat), (∀ x ∈ l, 0 ≤ x ∧ x ≤ 15) → 0 ≤ sumI (l.take k) ∧ sumI (l.take k) ≤ 15 * k
  | _, 0, _ => by simp [sumI]
  | l, k + 1, h => by
    obtain ⟨h1, h2⟩ := sumI_bd l k h
    rcases Nat.lt_or_ge k l.length with hk | hk
    · rw [List.take_succ_eq_append_getElem hk, sumI_snoc]
      have := h _ (List.getElem_mem hk)
      omega
    · rw [List.take_of_length_le (by omega)] at h1 h2 ⊢
      omega
theorem single_any (A : Option Addr) (n c : Nat) (l : List Int) (w : World) (hr : Rd w w.heap.size 1 A n (its l)) (hn : n ≤ 320) (hall : ∀ x ∈ l, 0 ≤ x ∧ x ≤ 15) :
    Calls Try.prog 77 #[.slice A n c] w fun e w' => e = .returned (.bool (sumI l == 1)) ∧ w = w' := by
  have Hl := Lib.hid hr.ilen
  have Hr := Lib.hid hr
  have Hall := Lib.hid hall
  clear hr hall
  go_enter Try.func77, Try.ntmps77
  go_wp2_with fail
  go_loop [3, 8] (fun s i => ∃ (k : Nat) (x : Int), s = .int .i64 x ∧ i = .int .i64 k ∧ k ≤ n ∧ 0 ≤ x ∧ x ≤ 4800 ∧ Hid (x = sumI (l.take k))) (fun _ i => n - (intOf i).toNat)
  case atStart => exact ⟨0, 0, rfl, rfl, Nat.zero_le _, by omega, by omega, Lib.hid rfl⟩
  case round =>
    obtain ⟨k, x, rfl, rfl, hk, hx0, hx1, hx⟩ := hrel
    by_cases hlt : k < n
    · obtain ⟨b, o, y, rfl, hbb, hy, hcy⟩ := Hr.out.num hlt
      have hy2 := Hall.out y (List.mem_of_getElem? hy)
      have hs := sumI_bd l (k + 1) Hall.out
      have hts := take_step hy
      rw [hts, sumI_snoc, ← hx.out] at hs
      have Hs := Lib.hid (show x + y = sumI (l.take (k + 1)) by rw [hts, sumI_snoc, hx.out])
      obtain ⟨hy3, hy4⟩ := hy2
      obtain ⟨hs1, hs2⟩ := hs
      have i0 : (0 : Int) ≤ (k : Int) := by omega
      have i1 : (k : Int) < (n : Int) := by omega
      clear hy hts hx
      go_wp2
      go_round
      case rel => exact ⟨k + 1, x + y, rfl, by go_num, by omega, by omega, by omega, Hs⟩
      case measure => simp [intOf]; omega
    · obtain rfl : n = k := by omega
      have hxe := hx.out
      rw [List.take_of_length_le (by rw [Hl.out]; omega)] at hxe
      have Hx := Lib.hid hxe
      clear hxe hx
      go_wp2
      go_ret
      exact ⟨ret_bool (by rw [← Hx.out]), rfl⟩
/-- What code hands back. -/
def CodeR (l : List Int) (non : Bool) (lo : Nat) (e : Ending) (w' : World) : Prop :=
  (okC l non = true ∧ ∃ g, e = .returned (.tuple #[.pointer (some ⟨g, 0, none⟩), .int .i64 0]) ∧ HCl w' lo l g ∧ mayB l = true ∧ overTo l 15 = false) ∨ (okC l non = false ∧ e = .returned (.tuple #[.pointer none, .int .i64 12]))
theorem may_all {l : List Int} (h : mayB l = true) : (∀ x ∈ l, 0 ≤ x ∧ x ≤ 15) ∧ l.length ≤ 320 := by
  unfold mayB at h
  simp only [Bool.and_eq_true, List.all_eq_true, decide_eq_true_eq] at h
  exact h
end Go.Proofs.Ytnedboomhbdecaa
