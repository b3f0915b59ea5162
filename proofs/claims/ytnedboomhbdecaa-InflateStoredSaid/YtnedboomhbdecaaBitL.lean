/- The walk of BitsCodes, and of the example that all laws of layer 4 begin with. -/
import Derived.Test.YtnedboomhbdecaaBit2
import Derived.Test.YtnedboomhbdecaaSame
namespace Go.Proofs.Ytnedboomhbdecaa
open Go.RowKit

theorem bitwakes_any (w : World) : Calls Try.prog 15 #[] w fun e w' => e = .returned (.bool true) ∧ Below w.heap.size w w' := by
  go_enter Try.func15, Try.ntmps15
  go_wp2_with fail
  refine (write_any w).mono ?_
  rintro e w1 ⟨rfl, hw1, hc1, hsz1⟩
  go_wp2_with fail
  refine (wbits_any w.heap.size _ [] 3 5 w1 hw1 (by simp)).mono ?_
  rintro e w2 ⟨rfl, S2, hw2, hc2, hs2⟩
  go_wp2_with fail
  refine (wcode_any w.heap.size S2 _ 2 1 w2 hw2 (by simp [lowB_len]; decide)).mono ?_
  rintro e w3 ⟨rfl, S3, hw3, hc3, hs3⟩
  have hbl : Below w.heap.size w w3 := by
    have h1 : Ch (fun k => k = w.heap.size) w w1 := hc1.mono (fun _ h => h.elim)
    have h2 := (h1.trans hc2 (fun i hi => .inl hi))
    have h3 := h2.trans hc3 (fun i hi => by
      rcases hs2 i hi with h | h
      · exact .inl h
      · exact .inr (by omega))
    exact h3.below (Nat.le_refl _) (fun i hi => by omega)
  have hpk : packB ([] ++ lowB (hel 3).toNat 5 ++ (lowB (hel 2).toNat 1).reverse) = [21] := by decide
  have hln : ([] ++ lowB (hel 3).toNat 5 ++ (lowB (hel 2).toNat 1).reverse).length = 5 := by decide
  have hby := wbytes_any w.heap.size S3 _ w3 hw3 (by rw [hln]; omega)
  rw [hpk, hln] at hby
  clear hpk hln hw1 hw2 hw3 hc1 hc2 hc3 hs2 hs3 hsz1
  go_wp2_with fail
  refine hby.mono ?_
  rintro e w4 ⟨A, c, rfl, hc, hr, hb4⟩
  have hbl4 := hbl.trans (hb4.mono hbl.size)
  go_wp2_with fail
  refine (same_any A _ ((5 + 7) / 8) 1 c _ [21] [21] _ ((hr.alloc (Nat.le_refl _) _).more (by simp)) ((Rd.lits w4 _ #[.int .u8 21] rfl).more (by simp)) (by omega) (by omega)).mono ?_
  rintro e w5 ⟨rfl, q, rfl⟩
  go_wp2
  go_ret
  exact ⟨rfl, below_drewN (hbl4.alloc hbl4.size _) _⟩

set_option maxHeartbeats 1000000 in
theorem bitsCodes_walk (x v : Int) (w : World) (hx : 0 ≤ x ∧ x ≤ 255) (hv : 0 ≤ v ∧ v ≤ 4294967295) :
    Calls Try.prog 3 #[.int .u8 x, .int .u32 v] w fun e w' => e = .returned (.bool true) ∧ Below w.heap.size w w' := by
  obtain ⟨k, hk⟩ : ∃ k : Nat, x % 25 = k := ⟨(x % 25).toNat, by omega⟩
  have hk25 : k < 25 := by omega
  have hhel : (hel (k : Int)).toNat = k := by unfold hel; omega
  have Hhel := Lib.hid hhel
  clear hhel
  go_enter Try.func3, Try.ntmps3
  go_wp2_with fail
  refine (bitwakes_any w).mono ?_
  rintro e w0 ⟨rfl, hb0⟩
  go_wp2_with fail
  rw [hk]
  clear hk
  refine (write_any w0).mono ?_
  rintro e w1 ⟨rfl, hw1, hc1, hsz1⟩
  go_wp2_with fail
  refine (write_any w1).mono ?_
  rintro e w2 ⟨rfl, hw2, hc2, hsz2⟩
  have hw1' := hw1.ch hc2 (fun _ _ h => h)
  go_wp2_with fail
  refine (wcode_any w0.heap.size _ [] k v w2 hw1' (by simp)).mono ?_
  rintro e w3 ⟨rfl, S3, hw3, hc3, hs3⟩
  have hw2' := hw2.ch hc3 (fun i hi h => by omega)
  rw [Hhel.out] at hw3
  go_wp2_with fail
  go_loop [8, 9, 23] (fun t _ i => ∃ j : Nat, j ≤ k ∧ i = .int .i64 j ∧ t = .int .i64 ((turnN j v : Nat) : Int)) (fun _ _ i => k - (intOf i).toNat)
  case atStart => exact ⟨0, Nat.zero_le _, rfl, rfl⟩
  case round =>
    obtain ⟨j, hj, rfl, rfl⟩ := hrel
    by_cases hlt : j < k
    · have hts := turnN_succ j v
      have ht := turnN_lt j v
      have hp : 2 ^ j ≤ 2 ^ 24 := Nat.pow_le_pow_right (by omega) (by omega)
      have ha := and1_i64 (v / 2 ^ j)
      have hbi := bitOf_int v j
      have hb1 : (bitOf v j).toNat ≤ 1 := by cases bitOf v j <;> decide
      have Hts := Lib.hid hts
      have hT : turnN j v ≤ 16777216 := by omega
      clear hts ht hp
      generalize turnN j v = T at *
      generalize (bitOf v j).toNat = B at *
      go_wp2_with fail
      go_round
      case rel => exact ⟨j + 1, by omega, by go_num, by rw [Hts.out]; go_num⟩
      case measure => simp [intOf]; omega
    · have : j = k := by omega
      subst this
      have hbits := wbits_any w1.heap.size _ [] j ((turnN j v : Nat) : Int) w3 hw2' (by simp)
      rw [Hhel.out, lowB_turnN, List.nil_append] at hbits
      rw [List.nil_append] at hw3
      have Hbits := Lib.hid hbits
      clear hbits
      generalize turnN j v = T at *
      go_wp2_with fail
      refine Hbits.out.mono ?_
      rintro e w4 ⟨rfl, S4, hw4, hc4, hs4⟩
      have hbl : Below w.heap.size w w4 := by
        have h1 : Below w0.heap.size w0 w1 := hc1.below (Nat.le_refl _) (fun _ h => h.elim)
        have h2 : Below w0.heap.size w1 w2 := hc2.below (by omega) (fun _ h => h.elim)
        have h3 : Below w0.heap.size w2 w3 := hc3.below (Nat.le_trans h1.size h2.size) (fun i hi => by omega)
        have h4 : Below w0.heap.size w3 w4 := hc4.below (Nat.le_trans h1.size (Nat.le_trans h2.size h3.size)) (fun i hi => by omega)
        exact hb0.trans ((h1.trans (h2.trans (h3.trans h4))).mono hb0.size)
      have hs2 := hc2.size
      have hw3' := hw3.ch hc4 (fun i hi h => by
        rcases hs3 i hi with h' | h'
        · omega
        · omega)
      have hlen : (lowB j v).reverse.length = j := by rw [List.length_reverse, lowB_len]
      have hA := fun W (hW : WrS W S3 w0.heap.size (lowB j v).reverse) => wbytes_any w0.heap.size S3 _ W hW (by rw [hlen]; omega)
      have hB := fun W (hW : WrS W S4 w1.heap.size (lowB j v).reverse) => wbytes_any w1.heap.size S4 _ W hW (by rw [hlen]; omega)
      have hLA := fun W (hW : WrS W S3 w0.heap.size (lowB j v).reverse) => wlen_any w0.heap.size S3 _ W hW
      have hLB := fun W (hW : WrS W S4 w1.heap.size (lowB j v).reverse) => wlen_any w1.heap.size S4 _ W hW
      rw [hlen] at hA hB hLA hLB
      have HA := Lib.hid hA
      have HB := Lib.hid hB
      have HLA := Lib.hid hLA
      have HLB := Lib.hid hLB
      clear hA hB hLA hLB hlen hw1 hw2 hw1' hw2' hc1 hc2 hc3 hc4
      generalize (lowB j v).reverse = L at *
      go_wp2_with fail
      refine (HA.out w4 hw3').mono ?_
      rintro e w5 ⟨A5, c5, rfl, hcc5, hr5, hb5⟩
      have hw5 := hw4.ch (Ch.of_below (S := fun _ => False) hb5 (Nat.le_refl _)) (fun _ _ h => h)
      have hw5' := hw3'.ch (Ch.of_below (S := fun _ => False) hb5 (Nat.le_refl _)) (fun _ _ h => h)
      go_wp2_with fail
      refine (HB.out w5 hw5).mono ?_
      rintro e w6 ⟨A6, c6, rfl, hcc6, hr6, hb6⟩
      have hw6 := hw5.ch (Ch.of_below (S := fun _ => False) hb6 (Nat.le_refl _)) (fun _ _ h => h)
      have hw6' := hw5'.ch (Ch.of_below (S := fun _ => False) hb6 (Nat.le_refl _)) (fun _ _ h => h)
      have hbl6 : Below w.heap.size w w6 := (hbl.trans (hb5.mono hbl.size)).trans (hb6.mono (Nat.le_trans hbl.size hb5.size))
      go_wp2_with fail
      refine (same_any A5 A6 _ _ c5 c6 _ _ w6 ((hr5.below hb6 (Nat.le_refl _)).more hb6.size) hr6 (by omega) (by omega)).mono ?_
      rintro e w7 ⟨rfl, q, rfl⟩
      rw [decide_eq_true rfl]
      have hw7 : WrS (w6.drewN q) S4 w1.heap.size L := hw6
      have hw7' : WrS (w6.drewN q) S3 w0.heap.size L := hw6'
      go_wp2_with fail
      refine (HLA.out _ hw7').mono ?_
      rintro e w8 ⟨rfl, rfl⟩
      go_wp2_with fail
      refine (HLB.out _ hw7).mono ?_
      rintro e w8 ⟨rfl, rfl⟩
      go_wp2
      go_ret
      exact ⟨rfl, below_drewN hbl6 _⟩
end Go.Proofs.Ytnedboomhbdecaa
