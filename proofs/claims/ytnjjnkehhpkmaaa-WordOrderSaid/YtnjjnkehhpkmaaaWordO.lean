/- The walk of WordOrder. -/
import Derived.Test.YtnjjnkehhpkmaaaWordL
namespace Go.Proofs.Ytnjjnkehhpkmaaa
open Go.RowKit

set_option maxHeartbeats 1000000 in
theorem wordOrder_walk (x a b : Int) (w : World) (_hx : -9223372036854775808 ≤ x ∧ x ≤ 9223372036854775807) (ha : 0 ≤ a ∧ a ≤ 65535) (hb : 0 ≤ b ∧ b ≤ 65535) :
    Calls Try.prog 3 #[.int .i64 x, .int .u16 a, .int .u16 b] w fun e w' => e = .returned (.bool true) ∧ Below w.heap.size w w' := by
  obtain ⟨k, hk⟩ : ∃ k : Nat, max (wid x) 2 = k := ⟨(max (wid x) 2).toNat, by omega⟩
  have hwb := wid_bd x
  have hk2 : 2 ≤ k := by omega
  have hk7 : k ≤ 7 := by omega
  have hwk : wid (k : Int) = k := wid_in _ (by omega) (by omega)
  have hwkn : (wid (k : Int)).toNat = k := by omega
  have put : ∀ (z : Int) (w1 : World), Below w.heap.size w w1 → Calls Try.prog 11 #[.slice none 0 0, .int .i64 k, .slice (some ⟨w1.heap.size, 0, none⟩) 1 1] (w1.alloc (.cells #[.int .i64 z] 3)) fun e w' =>
      ∃ A c, e = .returned (.slice A k c) ∧ k ≤ c ∧ Rd w' w'.heap.size 1 A k (bys (leB z k)) ∧ Below w.heap.size w w' ∧ Below w1.heap.size w1 w' := by
    intro z w1 hb1
    have hs1 := hb1.size
    refine (put_any none _ 0 0 1 1 k [] [z] _ Rd.nil_ ((Rd.oneI w1 _ z).more (by simp)) (by omega) (by omega)).mono ?_
    rintro e w2 ⟨v, rfl, hown, hb2⟩
    rw [hwkn, putB_one, Nat.zero_add, Nat.one_mul] at hown
    obtain ⟨A1, c1, rfl, hc1, _⟩ := own_form hown
    exact ⟨A1, c1, rfl, hc1, Rd.of_own hown, (hb1.alloc hs1 _).trans (hb2.mono (by simp; omega)), ((Below.refl _ _).alloc (Nat.le_refl _) _).trans (hb2.mono (by simp))⟩
  have Hput := Lib.hid put
  have hmax : (if wid x < 2 then (2 : Int) else wid x) = k := by split <;> omega
  have hta := ord_top a k ha.1 ha.2 hk2
  have htb := ord_top b k hb.1 hb.2 hk2
  have HT : Hid (a / 256 ^ k = b / 256 ^ k) := Lib.hid (hta.trans htb.symm)
  clear put hk hwb hwk hwkn hta htb
  go_enter Try.func3, Try.ntmps3
  go_wp2_with fail
  refine (wakes_any _).mono ?_
  rintro e w1 ⟨rfl, hb1⟩
  go_wp2_with fail
  refine (refwide_any x w1).mono ?_
  rintro e w2 ⟨rfl, rfl⟩
  go_wp2_with fail
  clear hmax
  refine (Hput.out a w1 hb1).mono ?_
  rintro e w2 ⟨A1, c1, rfl, hc1, hr1, hb2, _⟩
  go_wp2_with fail
  refine (Hput.out b w2 hb2).mono ?_
  rintro e w3 ⟨A2, c2, rfl, hc2, hr2, hb3, hb23⟩
  have hr1' : Rd w3 w3.heap.size 1 A1 k (bys (leB a k)) := (hr1.below hb23 (Nat.le_refl _)).more hb23.size
  clear hr1 Hput hb1 hb2 hb23
  go_wp2_with fail
  go_loopw [10] (fun i wr => ∃ j : Nat, j ≤ k ∧ i = .int .i64 ((j : Int) - 1) ∧ Hid (a / 256 ^ j = b / 256 ^ j) ∧ ∃ q, wr = w3.drewN q) (fun i _ => (intOf i + 1).toNat)
  case atStart => exact ⟨k, Nat.le_refl _, rfl, HT, 0, rfl⟩
  case round =>
    obtain ⟨j, hj, rfl, hjt, q, rfl⟩ := hrel
    rcases Nat.eq_zero_or_pos j with h0 | h0
    · subst h0
      have hab := hjt.out
      simp only [Int.pow_zero, Int.ediv_one] at hab
      subst hab
      go_wp2
      go_ret
      exact ⟨ret_bool (by simp), below_drewN hb3 _⟩
    · obtain ⟨i, rfl⟩ : ∃ i, j = i + 1 := ⟨j - 1, by omega⟩
      obtain ⟨b1, o1, u, rfl, _, hx, hu, hc⟩ := hr1'.byte (k := i) (by omega)
      obtain ⟨b2, o2, v, rfl, _, hy, hv, hd⟩ := hr2.byte (k := i) (by omega)
      rw [leB_get _ _ _ (by omega)] at hx hy
      injection hx with hx
      injection hy with hy
      have hik : (i : Int) < (k : Int) := by omega
      by_cases huv : u = v
      · have hs := ord_same a b i hjt.out (by rw [hx, hy, huv])
        have Hs := Lib.hid hs
        have hne : ((u.toNat : Int) != (v.toNat : Int)) = false := by rw [huv]; simp
        clear hx hy huv hs
        go_wp2_with fail
        go_quiet (fail)
        go_wp2
        go_roundw
        case rel => exact ⟨i, by omega, by go_num, Hs, _, rfl⟩
        case measure => simp [intOf]
      · have hne : ((u.toNat : Int) != (v.toNat : Int)) = true := by
          rw [bne_iff_ne]; intro h; exact huv (UInt8.toNat_inj.1 (by omega))
        have hlt : decide ((u.toNat : Int) < (v.toNat : Int)) = decide (a < b) := by
          rw [decide_eq_decide]
          constructor
          · intro h; exact ord_lt a b i hjt.out (by rw [hx, hy]; exact h)
          · intro h
            rcases Int.lt_trichotomy (u.toNat : Int) (v.toNat : Int) with h1 | h1 | h1
            · exact h1
            · exact absurd (UInt8.toNat_inj.1 (by omega)) huv
            · have := ord_lt b a i hjt.out.symm (by rw [hx, hy]; exact h1)
              omega
        have Hlt := Lib.hid hlt
        clear hx hy huv hlt
        go_wp2_with fail
        go_quiet (fail)
        go_wp2_with fail
        go_quiet (fail)
        go_wp2
        go_ret
        refine ⟨ret_bool ?_, ?_⟩
        · rw [beq_iff_eq, ← Hlt.out, decide_eq_decide]; omega
        · repeat (first | exact hb3 | refine below_drewN ?_ _)
end Go.Proofs.Ytnjjnkehhpkmaaa
