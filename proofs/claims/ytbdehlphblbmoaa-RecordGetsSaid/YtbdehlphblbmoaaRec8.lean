/- The document's answer for record: wide. -/
import Derived.Test.YtbdehlphblbmoaaRec7
namespace Go.Proofs.Ytbdehlphblbmoaa
open Go.RowKit
attribute [local go_sem ↓] Go.wp_at_zero Go.wp_at_succ

/-- What the document's wide tail says. -/
def WRPost : Option (Int × Int × Int) → Ending → Prop
  | none, e => ∃ x y z b, e = .returned (.agg #[.int .i64 x, .int .i64 y, .int .i64 z, .bool b, .bool false])
  | some t, e => e = .returned (.agg #[.int .i64 t.1, .int .i64 t.2.1, .int .i64 t.2.2, .bool true, .bool true])
theorem below_set5 {B : Nat} {a w : World} (h : Below B a w) (u0 u1 u2 u3 u4 : Value) : Below B a (((((w.setCell ⟨B, 0, none⟩ u0).setCell ⟨B, 1, none⟩ u1).setCell ⟨B, 2, none⟩ u2).setCell ⟨B, 3, none⟩ u3).setCell ⟨B, 4, none⟩ u4) :=
  (below_set4 h u0 u1 u2 u3).setCell (p := ⟨B, 4, none⟩) (Nat.le_refl _) _
set_option maxHeartbeats 1000000 in
theorem rwide_any (A : Option Addr) (n c p : Nat) (L : List UInt8) (w : World) (hr : Rd w w.heap.size 1 A n (bys L)) (hnc : n ≤ c) (hn : n ≤ 1000000000) (hp : p ≤ n) :
    Calls Try.prog 21 #[.slice A n c, .int .i64 p] w fun e w' => WRPost (wideF L p) e ∧ Below w.heap.size w w' := by
  have hll := hr.blen
  have hr1 : Rd (w.alloc (.cells #[.int .i64 0, .int .i64 0, .int .i64 0, .bool false, .bool false] 30)) (w.alloc (.cells #[.int .i64 0, .int .i64 0, .int .i64 0, .bool false, .bool false] 30)).heap.size 1 A n (bys L) := (hr.alloc (Nat.le_refl _) _).more (by simp)
  by_cases hk20 : p < 20
  · have Hw := Lib.hid (show wideF L p = none by unfold wideF; rw [if_pos hk20])
    clear hll
    go_enter Try.func21, Try.ntmps21
    go_wp2
    exact bodyPost_ret (v := .agg #[.int .i64 0, .int .i64 0, .int .i64 0, .bool false, .bool false]) (by simp [results, Try.results21, go_sem]) rfl ⟨by rw [Hw.out]; exact ⟨_, _, _, _, rfl⟩, (Below.refl _ _).alloc (Nat.le_refl _) _⟩
  · obtain ⟨q, rfl⟩ : ∃ q, p = q + 20 := ⟨p - 20, by omega⟩
    have h20 : (20 : Int) ≤ (q : Int) + 20 := by omega
    clear hk20
    have Hw0 := Lib.hid (wideF_q L q)
    have Hs := Lib.hid (signed_any A n c q 6 7 L _ hr1 hnc hn (by omega))
    have Hr1 := Lib.hid hr1
    have Hll := Lib.hid hll
    clear hr hr1 hll
    rcases Bool.eq_false_or_eq_true (sgnB L q 6 7) with hsg | hsg
    · rw [hsg] at Hs
      go_enter Try.func21, Try.ntmps21
      go_wp2_with fail
      refine Hs.out.mono ?_
      rintro e w1 ⟨rfl, rfl⟩
      go_wp2_with fail
      rw [show (q : Int) + 20 - 12 = ((q + 8 : Nat) : Int) by omega]
      refine (at_long A n c (q + 8) L _ Hr1.out hnc hn (by omega)).mono ?_
      rintro e w1 ⟨rfl, rfl⟩
      have hlb := long8_bd L (q + 8)
      have Hsg := Lib.hid hsg
      clear hsg Hs
      by_cases hneg : long8 L (q + 8) < 0
      · have Hw := Lib.hid (show wideF L (q + 20) = none by rw [Hw0.out, Hsg.out, if_neg (by simp), if_pos (.inl hneg)])
        clear Hw0
        generalize long8 L (q + 8) = v at *
        go_wp2
        exact bodyPost_ret (v := .agg #[.int .i64 0, .int .i64 0, .int .i64 0, .bool false, .bool false]) (by simp [results, Try.results21, go_sem]) rfl ⟨by rw [Hw.out]; exact ⟨_, _, _, _, rfl⟩, (Below.refl _ _).alloc (Nat.le_refl _) _⟩
      · obtain ⟨m, hm⟩ : ∃ m : Nat, long8 L (q + 8) = m := ⟨(long8 L (q + 8)).toNat, by omega⟩
        rw [hm] at Hw0 hneg hlb ⊢
        rw [Int.toNat_natCast] at Hw0
        clear hm hneg
        by_cases hk5 : m + 56 ≤ n
        · have hs2 := signed_any A n c m 6 6 L _ Hr1.out hnc hn (by omega)
          rcases Bool.eq_false_or_eq_true (sgnB L m 6 6) with hsg2 | hsg2
          · rw [hsg2] at hs2
            have Hs2 := Lib.hid hs2
            have Hf := Lib.hid (show wideF L (q + 20) = if long8 L (m + 32) < 0 ∨ long8 L (m + 40) < 0 ∨ long8 L (m + 48) < 0 then none else some (long8 L (m + 32), long8 L (m + 40), long8 L (m + 48)) by
              rw [Hw0.out, Hsg.out, if_neg (by simp), if_neg (by rw [Hll.out]; omega), hsg2, if_neg (by simp)])
            clear hs2 hsg2 Hw0
            go_wp2_with fail
            refine Hs2.out.mono ?_
            rintro e w1 ⟨rfl, rfl⟩
            have h1 := Lib.hid (at_long A n c (m + 32) L _ Hr1.out hnc hn (by omega))
            have h2 := Lib.hid (at_long A n c (m + 40) L _ Hr1.out hnc hn (by omega))
            have h3 := Lib.hid (at_long A n c (m + 48) L _ Hr1.out hnc hn (by omega))
            generalize long8 L (m + 32) = x at *
            generalize long8 L (m + 40) = y at *
            generalize long8 L (m + 48) = z at *
            clear Hs2
            go_wp2_with fail
            refine h1.out.mono ?_
            rintro e w1 ⟨rfl, rfl⟩
            go_wp2_with fail
            refine h2.out.mono ?_
            rintro e w1 ⟨rfl, rfl⟩
            go_wp2_with fail
            refine h3.out.mono ?_
            rintro e w1 ⟨rfl, rfl⟩
            clear h1 h2 h3
            by_cases hx : x < 0
            · rw [if_pos (.inl hx)] at Hf
              have hdx : decide ((0 : Int) ≤ x) = false := by simp; omega
              go_wp2
              all_goals
                exact bodyPost_ret (v := .agg #[.int .i64 x, .int .i64 y, .int .i64 z, .bool true, .bool false]) (by simp [results, Try.results21, go_sem]) rfl ⟨by rw [Hf.out]; exact ⟨_, _, _, _, rfl⟩, by first | exact ((Below.refl _ _).alloc (Nat.le_refl _) _).alloc (by simp) _ | exact below_set5 (((Below.refl _ _).alloc (Nat.le_refl _) _).alloc (by simp) _) _ _ _ _ _⟩
            · have hdx : decide ((0 : Int) ≤ x) = true := by simp; omega
              by_cases hy : y < 0
              · rw [if_pos (.inr (.inl hy))] at Hf
                have hdy : decide ((0 : Int) ≤ y) = false := by simp; omega
                go_wp2
                all_goals
                  exact bodyPost_ret (v := .agg #[.int .i64 x, .int .i64 y, .int .i64 z, .bool true, .bool false]) (by simp [results, Try.results21, go_sem]) rfl ⟨by rw [Hf.out]; exact ⟨_, _, _, _, rfl⟩, by first | exact ((Below.refl _ _).alloc (Nat.le_refl _) _).alloc (by simp) _ | exact below_set5 (((Below.refl _ _).alloc (Nat.le_refl _) _).alloc (by simp) _) _ _ _ _ _⟩
              · have hdy : decide ((0 : Int) ≤ y) = true := by simp; omega
                by_cases hz : z < 0
                · rw [if_pos (.inr (.inr hz))] at Hf
                  have hdz : decide ((0 : Int) ≤ z) = false := by simp; omega
                  go_wp2
                  all_goals
                    exact bodyPost_ret (v := .agg #[.int .i64 x, .int .i64 y, .int .i64 z, .bool true, .bool false]) (by simp [results, Try.results21, go_sem]) rfl ⟨by rw [Hf.out]; exact ⟨_, _, _, _, rfl⟩, by first | exact ((Below.refl _ _).alloc (Nat.le_refl _) _).alloc (by simp) _ | exact below_set5 (((Below.refl _ _).alloc (Nat.le_refl _) _).alloc (by simp) _) _ _ _ _ _⟩
                · rw [if_neg (by omega)] at Hf
                  have hdz : decide ((0 : Int) ≤ z) = true := by simp; omega
                  go_wp2
                  all_goals
                    exact bodyPost_ret (v := .agg #[.int .i64 x, .int .i64 y, .int .i64 z, .bool true, .bool true]) (by simp [results, Try.results21, go_sem]) rfl ⟨by rw [Hf.out]; exact rfl, by first | exact ((Below.refl _ _).alloc (Nat.le_refl _) _).alloc (by simp) _ | exact below_set5 (((Below.refl _ _).alloc (Nat.le_refl _) _).alloc (by simp) _) _ _ _ _ _⟩
          · rw [hsg2] at hs2
            have Hs2 := Lib.hid hs2
            have Hw := Lib.hid (show wideF L (q + 20) = none by rw [Hw0.out, Hsg.out, if_neg (by simp), if_neg (by rw [Hll.out]; omega), if_pos hsg2])
            clear hs2 hsg2 Hw0
            go_wp2_with fail
            refine Hs2.out.mono ?_
            rintro e w1 ⟨rfl, rfl⟩
            go_wp2
            exact bodyPost_ret (v := .agg #[.int .i64 0, .int .i64 0, .int .i64 0, .bool false, .bool false]) (by simp [results, Try.results21, go_sem]) rfl ⟨by rw [Hw.out]; exact ⟨_, _, _, _, rfl⟩, (Below.refl _ _).alloc (Nat.le_refl _) _⟩
        · have Hw := Lib.hid (show wideF L (q + 20) = none by rw [Hw0.out, Hsg.out, if_neg (by simp), if_pos (.inr (by rw [Hll.out]; omega))])
          clear Hw0
          by_cases hmn : n < m
          · go_wp2
            exact bodyPost_ret (v := .agg #[.int .i64 0, .int .i64 0, .int .i64 0, .bool false, .bool false]) (by simp [results, Try.results21, go_sem]) rfl ⟨by rw [Hw.out]; exact ⟨_, _, _, _, rfl⟩, (Below.refl _ _).alloc (Nat.le_refl _) _⟩
          · go_wp2
            exact bodyPost_ret (v := .agg #[.int .i64 0, .int .i64 0, .int .i64 0, .bool false, .bool false]) (by simp [results, Try.results21, go_sem]) rfl ⟨by rw [Hw.out]; exact ⟨_, _, _, _, rfl⟩, (Below.refl _ _).alloc (Nat.le_refl _) _⟩
    · rw [hsg] at Hs
      have Hw := Lib.hid (show wideF L (q + 20) = none by rw [Hw0.out, if_pos hsg])
      go_enter Try.func21, Try.ntmps21
      go_wp2_with fail
      refine Hs.out.mono ?_
      rintro e w1 ⟨rfl, rfl⟩
      go_wp2
      exact bodyPost_ret (v := .agg #[.int .i64 0, .int .i64 0, .int .i64 0, .bool false, .bool false]) (by simp [results, Try.results21, go_sem]) rfl ⟨by rw [Hw.out]; exact ⟨_, _, _, _, rfl⟩, (Below.refl _ _).alloc (Nat.le_refl _) _⟩
end Go.Proofs.Ytbdehlphblbmoaa
