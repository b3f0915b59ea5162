/- The walks of the laws of layer 1. -/
import Derived.Test.YtnjjnkehhpkmaaaWord2
namespace Go.Proofs.Ytnjjnkehhpkmaaa
open Go.RowKit

theorem wakes_any (w : World) : Calls Try.prog 9 #[] w fun e w' => e = .returned (.bool true) ∧ Below w.heap.size w w' := by
  go_enter Try.func9, Try.ntmps9
  go_wp2_with fail
  refine (put_any none _ 0 0 1 1 2 [] [300] _ Rd.nil_ ((Rd.oneI w _ 300).more (by simp)) (by omega) (by omega)).mono ?_
  rintro e w1 ⟨v, rfl, hown, hb⟩
  obtain ⟨A1, c1, rfl, _, _⟩ := own_form hown
  have hr1 := Rd.of_own hown
  have hb1 : Below w.heap.size w w1 := ((Below.refl _ _).alloc (Nat.le_refl _) _).trans (hb.mono (by simp))
  have hsz := hb1.size
  have he : putB [] (wid 2).toNat [300] = [44, 1] := by decide
  have e2 : 0 + 1 * (wid 2).toNat = 2 := by decide
  rw [he] at hr1
  rw [e2] at hr1 ⊢
  clear hown hb
  go_wp2_with fail
  refine (same_any _ _ 2 2 _ _ [44, 1] [44, 1] _ ((hr1.alloc (Nat.le_refl _) _).more (by simp)) ((Rd.lits w1 _ #[.int .u8 44, .int .u8 1] rfl).more (by simp)) (by omega) (by omega)).mono ?_
  rintro e w2 ⟨rfl, q, rfl⟩
  go_wp2
  go_ret
  exact ⟨rfl, below_drewN (hb1.alloc hsz _) _⟩
theorem wordFits_walk (x z : Int) (w : World) (hx : -9223372036854775808 ≤ x ∧ x ≤ 9223372036854775807) (hz : -9223372036854775808 ≤ z ∧ z ≤ 9223372036854775807) :
    Calls Try.prog 8 #[.int .i64 x, .int .i64 z] w fun e w' => e = .returned (.bool true) ∧ Below w.heap.size w w' := by
  have hb := wid_bd x
  have e0 : (wid x).toNat ≤ 7 := by omega
  go_enter Try.func8, Try.ntmps8
  go_wp2_with fail
  refine (wakes_any _).mono ?_
  rintro e w1 ⟨rfl, hb1⟩
  go_wp2_with fail
  refine (put_any none _ 0 0 1 1 x [] [z] _ Rd.nil_ ((Rd.oneI w1 _ z).more (by simp)) (by omega) (by omega)).mono ?_
  rintro e w2 ⟨v, rfl, hown, hb2⟩
  obtain ⟨A1, c1, rfl, _, _⟩ := own_form hown
  have hr1 := Rd.of_own hown
  have hs1 := hb1.size
  have hb2' : Below w.heap.size w w2 := (hb1.alloc hs1 _).trans (hb2.mono (by simp; omega))
  have hs2 := hb2'.size
  obtain ⟨d, hd⟩ : ∃ d : Nat, (wid x).toNat = d := ⟨_, rfl⟩
  have Hd := Lib.hid hd
  have hwd : wid x = d := by omega
  have Hwd := Lib.hid hwd
  have hfb := fits_back d z
  rw [hd, putB_one, Nat.zero_add, Nat.one_mul] at hr1
  rw [hd, Nat.zero_add, Nat.one_mul]
  have hd7 : d ≤ 7 := by omega
  have hnc : d ≤ c1 := by omega
  have hgo := get_ok A1 d c1 0 x (leB z d) w2 hr1 hnc (by omega) (by omega)
  rw [hd, List.drop_zero, List.take_of_length_le (by rw [leB_len]; omega)] at hgo
  clear hown hb2 hd hwd hr1 hb
  have Hfb := Lib.hid hfb
  clear hfb
  generalize leN (leB z d) = y at *
  go_wp2_with fail
  refine hgo.mono ?_
  rintro e w3 ⟨rfl, hb3⟩
  have hb3' : Below w.heap.size w w3 := hb2'.trans (hb3.mono hs2)
  have hs3 := hb3'.size
  clear hgo
  go_wp2_with fail
  refine (fits_any x _ 1 1 [z] _ ((Rd.oneI w3 _ z).more (by simp)) (by omega) (by simp; omega)).mono ?_
  rintro e w4 ⟨rfl, rfl⟩
  rw [Hd.out, Hfb.out]
  go_wp2_with fail
  refine (fits_any x none 0 0 [] _ Rd.nil_ (by omega) (by simp)).mono ?_
  rintro e w4 ⟨rfl, rfl⟩
  go_wp2
  go_ret
  exact ⟨rfl, hb3'.alloc hs3 _⟩

set_option maxHeartbeats 2000000 in
/-- What Get and Cut say, and what the document says. -/
theorem wordGets_walk (A : Option Addr) (n c : Nat) (l : List UInt8) (at_ x : Int) (w : World) (hr : Rd w w.heap.size 1 A n (bys l)) (hnc : n ≤ c) (hcm : c ≤ maxLen)
    (ha : -9223372036854775808 ≤ at_ ∧ at_ ≤ 9223372036854775807) (hx : -9223372036854775808 ≤ x ∧ x ≤ 9223372036854775807) :
    Calls Try.prog 4 #[.slice A n c, .int .i64 at_, .int .i64 x] w fun e w' => e = .returned (.bool true) ∧ Below w.heap.size w w' := by
  unfold maxLen at hcm
  by_cases h300 : 300 < n
  · go_enter Try.func4, Try.ntmps4
    go_wp2_with fail
    refine (wakes_any _).mono ?_
    rintro e w1 ⟨rfl, hb1⟩
    go_wp2
    go_ret
    exact ⟨rfl, hb1⟩
  have hwb := wid_bd x
  by_cases h0 : at_ < 0
  · go_enter Try.func4, Try.ntmps4
    go_wp2_with fail
    refine (wakes_any _).mono ?_
    rintro e w1 ⟨rfl, hb1⟩
    go_wp2_with fail
    refine (get_arg A n c at_ x w1 h0).mono ?_
    rintro e w2 ⟨rfl, rfl⟩
    go_wp2_with fail
    refine (refwide_any x w1).mono ?_
    rintro e w2 ⟨rfl, rfl⟩
    go_wp2_with fail
    refine (cut_arg A n c at_ x w1 (.inl h0)).mono ?_
    rintro e w2 ⟨rfl, rfl⟩
    go_wp2
    go_ret
    exact ⟨rfl, hb1⟩
  by_cases h1 : (n : Int) < at_
  · go_enter Try.func4, Try.ntmps4
    go_wp2_with fail
    refine (wakes_any _).mono ?_
    rintro e w1 ⟨rfl, hb1⟩
    go_wp2_with fail
    refine (get_end A n c at_ x w1 (by omega) (by omega) (.inl h1)).mono ?_
    rintro e w2 ⟨rfl, rfl⟩
    go_wp2_with fail
    refine (refwide_any x w1).mono ?_
    rintro e w2 ⟨rfl, rfl⟩
    go_wp2_with fail
    by_cases hx0 : x < 0
    · refine (cut_arg A n c at_ x w1 (.inr ⟨by omega, hx0⟩)).mono ?_
      rintro e w2 ⟨rfl, rfl⟩
      go_wp2
      go_ret
      exact ⟨rfl, hb1⟩
    · refine (cut_end A n c at_ x w1 (by omega) (by omega) (by omega) (.inl h1)).mono ?_
      rintro e w2 ⟨rfl, rfl⟩
      go_wp2
      go_ret
      exact ⟨rfl, hb1⟩
  obtain ⟨k, rfl⟩ := Int.eq_ofNat_of_zero_le (show 0 ≤ at_ by omega)
  have second : ∀ w1, Below w.heap.size w w1 → Calls Try.prog 14 #[.slice A n c, .int .i64 k, .int .i64 x] w1 fun e w' => Below w.heap.size w w' ∧ 
      ((x < 0 ∧ e = .returned (.tuple #[.slice none 0 0, .int .i64 1])) ∨ (0 ≤ x ∧ (n : Int) - k < x ∧ e = .returned (.tuple #[.slice none 0 0, .int .i64 3])) ∨
        (∃ m : Nat, x = m ∧ k + m ≤ n ∧ ∃ A1 c1, m ≤ c1 ∧ e = .returned (.tuple #[.slice A1 m c1, .int .i64 0]) ∧ Rd w' w'.heap.size 1 A1 m (bys ((l.drop k).take m)))) := by
    intro w1 hb1
    by_cases hx0 : x < 0
    · refine (cut_arg A n c k x w1 (.inr ⟨by omega, hx0⟩)).mono ?_
      rintro e w2 ⟨rfl, rfl⟩
      exact ⟨hb1, .inl ⟨hx0, rfl⟩⟩
    · by_cases hx1 : (n : Int) - k < x
      · refine (cut_end A n c k x w1 (by omega) (by omega) (by omega) (.inr ⟨by omega, hx1⟩)).mono ?_
        rintro e w2 ⟨rfl, rfl⟩
        exact ⟨hb1, .inr (.inl ⟨by omega, hx1, rfl⟩)⟩
      · obtain ⟨m, rfl⟩ := Int.eq_ofNat_of_zero_le (show 0 ≤ x by omega)
        refine (cut_ok A n c k m l w1 ((hr.below hb1 (Nat.le_refl _)).more hb1.size) hnc (by omega) (by omega)).mono ?_
        rintro e w2 ⟨v, rfl, hown, hb2⟩
        obtain ⟨A1, c1, rfl, hmc, _⟩ := own_form hown
        exact ⟨hb1.trans (hb2.mono hb1.size), .inr (.inr ⟨m, rfl, by omega, A1, c1, hmc, rfl, Rd.of_own hown⟩)⟩
  have Hsec := Lib.hid second
  clear second
  by_cases h2 : (n : Int) - k < wid x
  · go_enter Try.func4, Try.ntmps4
    go_wp2_with fail
    refine (wakes_any _).mono ?_
    rintro e w1 ⟨rfl, hb1⟩
    go_wp2_with fail
    refine (get_end A n c k x w1 (by omega) (by omega) (.inr ⟨by omega, h2⟩)).mono ?_
    rintro e w2 ⟨rfl, rfl⟩
    go_wp2_with fail
    refine (refwide_any x w1).mono ?_
    rintro e w2 ⟨rfl, rfl⟩
    go_wp2_with fail
    refine (Hsec.out w1 hb1).mono ?_
    rintro e w2 ⟨hb2, ⟨hx0, rfl⟩ | ⟨hx0, hx1, rfl⟩ | ⟨m, rfl, hkm, A1, c1, hmc, rfl, hr1⟩⟩
    · go_wp2
      go_ret
      exact ⟨rfl, hb2⟩
    · go_wp2
      go_ret
      exact ⟨rfl, hb2⟩
    · go_wp2_with (
        (with_reducible refine at_slice ?_)
        refine cut_bys (hr.below hb2 (Nat.le_refl _)) hnc k m hkm rfl rfl rfl rfl rfl rfl ?_
        intro A2 c2 hr2 _ _)
      refine (same_any A1 A2 m m _ _ _ _ _ hr1 (hr2.more hb2.size) (by omega) (by omega)).mono ?_
      rintro e w3 ⟨rfl, q, rfl⟩
      go_wp2
      go_ret
      exact ⟨rfl, below_drewN hb2 _⟩
  · obtain ⟨d, hd⟩ : ∃ d : Nat, wid x = d := ⟨(wid x).toNat, by omega⟩
    have hget : ∀ w1, Below w.heap.size w w1 → Calls Try.prog 12 #[.slice A n c, .int .i64 k, .int .i64 x] w1 fun e w' =>
        e = .returned (.tuple #[.int .i64 (leN ((l.drop k).take d)), .int .i64 0]) ∧ Below w.heap.size w w' := by
      intro w1 hb1
      refine (get_ok A n c k x l w1 ((hr.below hb1 (Nat.le_refl _)).more hb1.size) hnc (by omega) (by omega)).mono ?_
      rintro e w2 ⟨rfl, hb2⟩
      exact ⟨by rw [hd, Int.toNat_natCast], hb1.trans (hb2.mono hb1.size)⟩
    have Hget := Lib.hid hget
    have Hd := Lib.hid hd
    have hd7 : d ≤ 7 := by omega
    have hkd : k + d ≤ n := by omega
    have hkd2 : (d : Int) ≤ n - k := by omega
    clear hget hd h2 hwb
    go_enter Try.func4, Try.ntmps4
    go_wp2_with fail
    refine (wakes_any _).mono ?_
    rintro e w1 ⟨rfl, hb1⟩
    go_wp2_with fail
    refine (Hget.out w1 hb1).mono ?_
    rintro e w2 ⟨rfl, hb2⟩
    go_wp2_with fail
    refine (refwide_any x w2).mono ?_
    rintro e w3 ⟨rfl, rfl⟩
    rw [Hd.out]
    go_wp2_with (
      (with_reducible refine at_slice ?_)
      refine cut_bys (hr.below hb2 (Nat.le_refl _)) hnc k d hkd rfl rfl rfl rfl rfl rfl ?_
      intro A2 c2 hr2 _ _)
    refine (number_any A2 d c2 _ _ (hr2.more hb2.size) hd7).mono ?_
    rintro e w3 ⟨rfl, rfl⟩
    clear hr2
    generalize leN ((l.drop k).take d) = y at *
    go_wp2_with fail
    refine (Hsec.out w2 hb2).mono ?_
    rintro e w3 ⟨hb3, ⟨hx0, rfl⟩ | ⟨hx0, hx1, rfl⟩ | ⟨m, rfl, hkm, A1, c1, hmc, rfl, hr1⟩⟩
    · go_wp2
      go_ret
      exact ⟨rfl, hb3⟩
    · go_wp2
      go_ret
      exact ⟨rfl, hb3⟩
    · go_wp2_with (
        (with_reducible refine at_slice ?_)
        refine cut_bys (hr.below hb3 (Nat.le_refl _)) hnc k m hkm rfl rfl rfl rfl rfl rfl ?_
        intro A3 c3 hr3 _ _)
      refine (same_any A1 A3 m m _ _ _ _ _ hr1 (hr3.more hb3.size) (by omega) (by omega)).mono ?_
      rintro e w4 ⟨rfl, q, rfl⟩
      go_wp2
      go_ret
      exact ⟨rfl, below_drewN hb3 _⟩
end Go.Proofs.Ytnjjnkehhpkmaaa
