/- The walk of PageSeals. -/
import Derived.Test.YthflnndjjhifeaaPagL
import Derived.Test.YthflnndjjhifeaaZero
namespace Go.Proofs.Ythflnndjjhifeaa
open Go.RowKit

set_option maxHeartbeats 1000000 in
theorem pageSeals_main (z : Int) (A : Option Addr) (n c : Nat) (l : List UInt8) (y : Int) (w : World) (hr : Rd w w.heap.size 1 A n (bys l)) (hnc : n ≤ c) (hn : n ≤ 508)
    (hz0 : -9223372036854775808 ≤ z ∧ z ≤ 9223372036854775807) (hz : fitsB 3 [z] = true) (q : Int) (fy : Bool) (hfy : fitsB 3 [y] = fy) (h1 : (q == 0) = (y == z)) (h2 : fy = false → q = 1)
    (hO : ∀ W g, Bk W g 71 (bys (sealB z l)).toArray → Calls Try.prog 25 #[.int .i64 y, .slice (some ⟨g, 0, none⟩) 512 512] W fun e w' => ∃ v, e = .returned (.tuple #[v, .int .i64 q]) ∧ Below W.heap.size W w') :
    Calls Try.prog 7 #[.int .i64 z, .slice A n c, .int .i64 y] w fun e w' => e = .returned (.bool true) ∧ Below w.heap.size w w' := by
  have hl := hr.blen
  have hpad : padB l = l ++ List.replicate (508 - n) 0 := by rw [← hl]; rfl
  have HO := Lib.hid hO
  have Hz := Lib.hid hz
  have Hl := Lib.hid hl
  have Hpad := Lib.hid hpad
  have H1 := Lib.hid h1
  have H2 := Lib.hid h2
  have Hfy := Lib.hid hfy
  clear hO hz hl hpad h1 h2 hfy
  go_enter Try.func7, Try.ntmps7
  go_wp2_with fail
  refine (pagewakes_any w).mono ?_
  rintro e w1 ⟨rfl, hb1⟩
  go_wp2_with fail
  refine (pseal_ok z A n c l w1 ((hr.below hb1 (Nat.le_refl _)).more hb1.size) hnc Hz.out hz0 hn).mono ?_
  rintro e w2 ⟨g, rfl, hbk2, hg, hb2⟩
  have hbe2 := hb1.trans (hb2.mono hb1.size)
  go_wp2_with fail
  refine (reffits_any z w2).mono ?_
  rintro e w3 ⟨rfl, rfl⟩
  rw [Hz.out]
  go_wp2_with fail
  refine (popen_sealed z g _ l w2 hbk2 (by have := Hl.out; omega) Hz.out hz0).mono ?_
  rintro e w4 ⟨g4, rfl, hbk4, hg4, hb4⟩
  have hbe4 := hbe2.trans (hb4.mono hbe2.size)
  have hbk4' := hbk2.below hb4 hbk2.lt
  go_wp2_with fail
  refine (HO.out w4 g hbk4').mono ?_
  rintro e w5 ⟨v5, rfl, hb5⟩
  have hbe5 := hbe4.trans (hb5.mono hbe4.size)
  have hbk5 := hbk4'.below hb5 hbk4'.lt
  have hbk5' := hbk4.below hb5 hbk4.lt
  clear hbk4 hbk4' hbk2 hb1 hb2 hb4 hb5 hbe2 hbe4 HO
  have hsz5 := hbe5.size
  have hrb := hr.below hbe5 (Nat.le_refl _)
  have hgo : ∀ (w6 : World) (v6 : Value), w6.ownsRow w5.heap.size 5 1 v6 (0 + n) (bys ([] ++ l)) → w6.ownsRow w5.heap.size 5 1 v6 n (bys l) := by
    intro w6 v6 h1
    simpa only [Nat.zero_add, List.nil_append] using h1
  have HGO := Lib.hid hgo
  clear hgo
  have i1 : IntKind.i64.wrap (508 - (n : Int)) = 508 - (n : Int) := IntWalk.i64_in _ (by omega)
  go_wp2_with (first
    | (at_builtin
       refine ap_bys (own_lit0 w5 _) (hrb.alloc hsz5 _) ((Below.refl w5.heap.size w5).alloc (Nat.le_refl _) _) (by simp) (by omega) rfl rfl rfl ?_
       intro v6 w6 hown6 hb6 _ _
       have hown6' := HGO.out w6 v6 hown6)
    | (at_builtin
       refine ap_zeros hown6' (508 - n) (508 - (n : Int)) (by omega) hb6 hb6.size (by omega) rfl rfl rfl ?_
       intro v7 w7 hown7 hb7 _ _))
  rw [← Hpad.out, show n + (508 - n) = 508 by omega] at hown7
  obtain ⟨A7, c7, rfl, _, _⟩ := own_form hown7
  have hr7 := Rd.of_own hown7
  have hbe7 : Below w.heap.size w w7 := hbe5.trans (hb7.mono hsz5)
  have hbk7 := hbk5.below hb7 hbk5.lt
  have hbk7' := hbk5'.below hb7 hbk5'.lt
  clear hown6 hown6' hown7 hb6 hbk5 hbk5' HGO i1 hrb hb7
  refine (refpage_any z A n c l w7 ((hr.below hbe7 (Nat.le_refl _)).more hbe7.size) hn).mono ?_
  rintro e w8 ⟨r8, rfl, hown8, hb8⟩
  obtain ⟨A8, c8, rfl, _, _⟩ := own_form hown8
  have hr8 := Rd.of_own hown8
  have hbe8 := hbe7.trans (hb8.mono hbe7.size)
  have hbk8 := hbk7.below hb8 hbk7.lt
  have hbk8' := hbk7'.below hb8 hbk7'.lt
  have hr78 := (hr7.below hb8 (Nat.le_refl _)).more hb8.size
  have hlp : (sealB z l).length = 512 := sealB_len z l (by have := Hl.out; omega)
  have hlq : (padB l).length = 508 := padB_len l (by have := Hl.out; omega)
  have hrp := Rd.of_bkW hbk8 512 hlp
  have hrq := Rd.of_bkW hbk8' 508 hlq
  clear hown8 hb8 hbk7 hbk7' hbk8 hbk8' hr7 hlp hlq
  go_wp2_with fail
  refine (same_any _ A8 512 512 512 c8 _ _ w8 hrp hr8 (by omega) (by omega)).mono ?_
  rintro e w9 ⟨rfl, q9, rfl⟩
  rw [decide_eq_true rfl]
  go_wp2_with fail
  refine (same_any _ A7 508 508 508 c7 _ _ _ (hrq.drewN q9) (hr78.drewN q9) (by omega) (by omega)).mono ?_
  rintro e w10 ⟨rfl, q10, rfl⟩
  rw [decide_eq_true rfl]
  have hq : ((q == 0) == (y == z)) = true := by rw [H1.out]; simp
  go_wp2_with fail
  refine (reffits_any y _).mono ?_
  rintro e w11 ⟨rfl, rfl⟩
  have hbe10 := below_drewN hbe8 (q9 + q10)
  clear hrp hrq hr8 hr78 hq
  cases fy with
  | true =>
    rw [Hfy.out]
    go_wp2
    go_ret
    exact ⟨rfl, hbe10⟩
  | false =>
    rw [Hfy.out]
    obtain rfl : q = 1 := H2.out rfl
    go_wp2
    go_ret
    exact ⟨rfl, hbe10⟩
theorem pageSeals_walk (z : Int) (A : Option Addr) (n c : Nat) (l : List UInt8) (y : Int) (w : World) (hz0 : -9223372036854775808 ≤ z ∧ z ≤ 9223372036854775807) (hr : Rd w w.heap.size 1 A n (bys l)) (hnc : n ≤ c) (_hcm : c ≤ maxLen)
    (hy0 : -9223372036854775808 ≤ y ∧ y ≤ 9223372036854775807) :
    Calls Try.prog 7 #[.int .i64 z, .slice A n c, .int .i64 y] w fun e w' => e = .returned (.bool true) ∧ Below w.heap.size w w' := by
  have hcm := _hcm
  unfold maxLen at hcm
  by_cases h1 : 2000 < n
  · go_enter Try.func7, Try.ntmps7
    go_wp2_with fail
    refine (pagewakes_any w).mono ?_
    rintro e w1 ⟨rfl, hb1⟩
    go_wp2
    go_ret
    exact ⟨rfl, hb1⟩
  cases hz : fitsB 3 [z] with
  | false =>
    have Hz := Lib.hid hz
    clear hz
    go_enter Try.func7, Try.ntmps7
    go_wp2_with fail
    refine (pagewakes_any w).mono ?_
    rintro e w1 ⟨rfl, hb1⟩
    go_wp2_with fail
    refine (pseal_arg z A n c w1 Hz.out hz0).mono ?_
    rintro e w2 ⟨rfl, hb2⟩
    go_wp2_with fail
    refine (reffits_any z w2).mono ?_
    rintro e w3 ⟨rfl, rfl⟩
    rw [Hz.out]
    go_wp2
    go_ret
    exact ⟨rfl, hb1.trans (hb2.mono hb1.size)⟩
  | true =>
    by_cases h2 : 508 < n
    · have Hz := Lib.hid hz
      clear hz
      go_enter Try.func7, Try.ntmps7
      go_wp2_with fail
      refine (pagewakes_any w).mono ?_
      rintro e w1 ⟨rfl, hb1⟩
      go_wp2_with fail
      refine (pseal_long z A n c w1 Hz.out hz0 h2).mono ?_
      rintro e w2 ⟨rfl, hb2⟩
      go_wp2_with fail
      refine (reffits_any z w2).mono ?_
      rintro e w3 ⟨rfl, rfl⟩
      rw [Hz.out]
      go_wp2
      go_ret
      exact ⟨rfl, hb1.trans (hb2.mono hb1.size)⟩
    · have hl := hr.blen
      cases hy : fitsB 3 [y] with
      | false =>
        have hyz : (y == z) = false := by
          rw [beq_eq_false_iff_ne]; rintro rfl; rw [hz] at hy; cases hy
        refine pageSeals_main z A n c l y w hr hnc (by omega) hz0 hz 1 false hy (by rw [hyz]; rfl) (fun _ => rfl) (fun W g _ => (popen_arg y _ 512 512 W hy hy0).mono ?_)
        rintro e w' ⟨rfl, hb⟩
        exact ⟨_, rfl, hb⟩
      | true =>
        by_cases hyz : y = z
        · subst hyz
          refine pageSeals_main y A n c l y w hr hnc (by omega) hz0 hz 0 true hy (by simp) (fun h => by cases h) (fun W g hb => (popen_sealed y g _ l W hb (by omega) hz hz0).mono ?_)
          rintro e w' ⟨g', rfl, _, _, hb⟩
          exact ⟨_, rfl, hb⟩
        · refine pageSeals_main z A n c l y w hr hnc (by omega) hz0 hz 5 true hy (by simp [hyz]) (fun h => by cases h) (fun W g hb => (popen_other z y g _ l W hb (by omega) hz hy hy0 hyz).mono ?_)
          rintro e w' ⟨rfl, hb⟩
          exact ⟨_, rfl, hb⟩
end Go.Proofs.Ythflnndjjhifeaa
