/- The document's Less. -/
import Derived.Test.YtelaliokmmaopaaDoorNod7
namespace Go.Proofs.YtelaliokmmaopaaDoor
open Go.RowKit
open Go.Lib (compareBytes)
attribute [local go_sem ↓] Go.wp_at_zero Go.wp_at_succ

theorem cmp_drop : ∀ (j : Nat) (l r : List UInt8), l.take j = r.take j → compareBytes l r = compareBytes (l.drop j) (r.drop j)
  | 0, _, _, _ => rfl
  | j + 1, [], [], _ => rfl
  | j + 1, [], y :: r, h => by simp at h
  | j + 1, x :: l, [], h => by simp at h
  | j + 1, x :: l, y :: r, h => by
    simp only [List.take_succ_cons, List.cons.injEq] at h
    obtain ⟨rfl, h⟩ := h
    rw [compareBytes, if_neg (UInt8.lt_irrefl x), if_neg (UInt8.lt_irrefl x), List.drop_succ_cons, List.drop_succ_cons]
    exact cmp_drop j l r h
theorem lt_diff {l r : List UInt8} {j : Nat} {x y : UInt8} (h : l.take j = r.take j) (hx : l[j]? = some x) (hy : r[j]? = some y) (hne : x ≠ y) : ltL l r = decide (x.toNat < y.toNat) := by
  obtain ⟨hjl, rfl⟩ := List.getElem?_eq_some_iff.1 hx
  obtain ⟨hjr, rfl⟩ := List.getElem?_eq_some_iff.1 hy
  unfold ltL
  rw [cmp_drop j l r h, List.drop_eq_getElem_cons hjl, List.drop_eq_getElem_cons hjr, compareBytes]
  by_cases h1 : l[j] < r[j]
  · rw [if_pos h1, decide_eq_true (u8_lt.1 h1)]; rfl
  · have h2 : r[j] < l[j] := by
      rw [u8_lt] at h1 ⊢
      have : l[j].toNat ≠ r[j].toNat := fun e => hne (UInt8.toNat_inj.1 e)
      omega
    rw [if_neg h1, if_pos h2, decide_eq_false (fun e => h1 (u8_lt.2 e))]; rfl
theorem lt_end {l r : List UInt8} {j : Nat} (h : l.take j = r.take j) (hj : j ≤ l.length ∧ j ≤ r.length) (he : j = l.length ∨ j = r.length) : ltL l r = decide (l.length < r.length) := by
  unfold ltL
  rw [cmp_drop j l r h]
  rcases he with e | e
  · rw [List.drop_of_length_le (by omega : l.length ≤ j)]
    by_cases hlt : l.length < r.length
    · rw [List.drop_eq_getElem_cons (by omega : j < r.length), compareBytes, decide_eq_true hlt]; rfl
    · rw [List.drop_of_length_le (by omega : r.length ≤ j), compareBytes, decide_eq_false hlt]; rfl
  · rw [List.drop_of_length_le (by omega : r.length ≤ j)]
    have hlt : ¬ l.length < r.length := by omega
    by_cases h2 : j < l.length
    · rw [List.drop_eq_getElem_cons h2, compareBytes, decide_eq_false hlt]; rfl
    · rw [List.drop_of_length_le (by omega : l.length ≤ j), compareBytes, decide_eq_false hlt]; rfl
set_option maxHeartbeats 2000000 in
theorem less_any (A A2 : Option Addr) (n c m d : Nat) (l r : List UInt8) (w : World) (hl : Rd w w.heap.size 1 A n (bys l)) (hr : Rd w w.heap.size 1 A2 m (bys r)) (hn : n ≤ 1000000000) (_ : m ≤ 1000000000) :
    Calls Tryd.prog 16 #[.slice A n c, .slice A2 m d] w fun e w' => e = .returned (.bool (ltL l r)) ∧ ∃ q, w' = w.drewN q := by
  have hll := hl.blen
  have hrl := hr.blen
  have Hll := Lib.hid hll
  have Hrl := Lib.hid hrl
  clear hll hrl
  go_enter Tryd.func16, Tryd.ntmps16
  go_wp2_with fail
  go_loopw [5] (fun i wr => ∃ j : Nat, i = .int .i64 j ∧ j ≤ n ∧ j ≤ m ∧ Hid (l.take j = r.take j) ∧ ∃ q, wr = w.drewN q) (fun i _ => n - (intOf i).toNat)
  case atStart => exact ⟨0, rfl, Nat.zero_le _, Nat.zero_le _, Lib.hid rfl, 0, rfl⟩
  case round =>
    obtain ⟨j, rfl, hj, hj2, hjt, q, rfl⟩ := hrel
    by_cases h1 : j < n
    · by_cases h2 : j < m
      · obtain ⟨b, o, u, rfl, hb, hx, hu, hc⟩ := hl.byte h1
        obtain ⟨b2, o2, u2, rfl, hb2, hx2, hu2, hc2⟩ := hr.byte h2
        have HX := Lib.hid hx
        have HX2 := Lib.hid hx2
        clear hx hx2
        have hj1 : (j : Int) < (n : Int) := by omega
        have hj3 : (j : Int) < (m : Int) := by omega
        by_cases huu : u = u2
        · have hne : ((u.toNat : Int) != (u2.toNat : Int)) = false := by rw [huu]; simp
          have HU := Lib.hid huu
          clear huu
          go_wp2_with fail
          go_quiet (fail)
          go_wp2
          go_roundw
          case rel => exact ⟨j + 1, by go_num, by omega, by omega, Lib.hid (by rw [take_step HX.out, take_step HX2.out, hjt.out, HU.out]), _, rfl⟩
          case measure => simp [intOf]; omega
        · have hne : ((u.toNat : Int) != (u2.toNat : Int)) = true := by
            rw [bne_iff_ne]; intro h; exact huu (UInt8.toNat_inj.1 (by omega))
          have Ht := Lib.hid (lt_diff hjt.out HX.out HX2.out huu)
          clear huu
          go_wp2_with fail
          go_quiet (fail)
          go_wp2_with fail
          go_quiet (fail)
          go_wp2
          go_ret
          exact ⟨ret_bool (by rw [Ht.out]), _, by simp only [World.drewN_drewN]; rfl⟩
      · have he := lt_end hjt.out ⟨by have := Hll.out; omega, by have := Hrl.out; omega⟩ (.inr (by have := Hrl.out; omega))
        rw [Hll.out, Hrl.out] at he
        have He := Lib.hid he
        clear he
        go_wp2
        go_ret
        exact ⟨ret_bool (by rw [He.out]), _, rfl⟩
    · have he := lt_end hjt.out ⟨by have := Hll.out; omega, by have := Hrl.out; omega⟩ (.inl (by have := Hll.out; omega))
      rw [Hll.out, Hrl.out] at he
      have He := Lib.hid he
      clear he
      go_wp2
      go_ret
      exact ⟨ret_bool (by rw [He.out]), _, rfl⟩
end Go.Proofs.YtelaliokmmaopaaDoor
