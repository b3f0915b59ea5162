/- The walks of PageOpens and PageZeros. -/
import Derived.Test.YthflnndjjhifeaaPagS
namespace Go.Proofs.Ythflnndjjhifeaa
open Go.RowKit

set_option maxHeartbeats 1000000 in
theorem pageOpens_walk (z : Int) (A : Option Addr) (n c : Nat) (l : List UInt8) (w : World) (hz0 : -9223372036854775808 ≤ z ∧ z ≤ 9223372036854775807) (hr : Rd w w.heap.size 1 A n (bys l)) (hnc : n ≤ c) (_hcm : c ≤ maxLen) :
    Calls Try.prog 8 #[.int .i64 z, .slice A n c] w fun e w' => e = .returned (.bool true) ∧ Below w.heap.size w w' := by
  have hcm := _hcm
  unfold maxLen at hcm
  by_cases h1 : 2000 < n
  · go_enter Try.func8, Try.ntmps8
    go_wp2_with fail
    refine (pagewakes_any w).mono ?_
    rintro e w1 ⟨rfl, hb1⟩
    go_wp2
    go_ret
    exact ⟨rfl, hb1⟩
  cases hz : fitsB 3 [z] with
  | false =>
    have Hz := Lib.hid hz
    clear hz
    go_enter Try.func8, Try.ntmps8
    go_wp2_with fail
    refine (pagewakes_any w).mono ?_
    rintro e w1 ⟨rfl, hb1⟩
    go_wp2_with fail
    refine (popen_arg z A n c w1 Hz.out hz0).mono ?_
    rintro e w2 ⟨rfl, hb2⟩
    go_wp2_with fail
    refine (reffits_any z w2).mono ?_
    rintro e w3 ⟨rfl, rfl⟩
    rw [Hz.out]
    go_wp2
    go_ret
    exact ⟨rfl, hb1.trans (hb2.mono hb1.size)⟩
  | true =>
    by_cases h2 : n = 512
    · subst h2
      have hl := hr.blen
      have hcut : Rd w w.heap.size 1 A 508 (bys (l.take 508)) := by
        have := hr.bcut (k := 0) (m := 508) (by omega) (A' := A) (fun _ => by
          obtain ⟨b, o, rfl, _⟩ := hr.2 (by omega)
          simp [addLit])
        rwa [List.drop_zero] at this
      have hlt : (l.take 508).length = 508 := by rw [List.length_take]; omega
      have Hlt := Lib.hid hlt
      have hso := seal_open z l hl
      have Hz := Lib.hid hz
      by_cases hok : sumB z (l.take 508) = l.drop 508
      · have hOp := fun W (h : Rd W W.heap.size 1 A 512 (bys l)) => popen_ok z A c l W h hnc hok hz hz0
        have hSe := hso.2 hok
        have HOp := Lib.hid hOp
        have HSe := Lib.hid hSe
        clear hz hl hso hok hlt hOp hSe
        generalize l.take 508 = P at *
        go_enter Try.func8, Try.ntmps8
        go_wp2_with fail
        refine (pagewakes_any w).mono ?_
        rintro e w1 ⟨rfl, hb1⟩
        go_wp2_with fail
        refine (HOp.out w1 ((hr.below hb1 (Nat.le_refl _)).more hb1.size)).mono ?_
        rintro e w2 ⟨g2, rfl, hbk2, _, hb2⟩
        have hbe2 := hb1.trans (hb2.mono hb1.size)
        go_wp2_with fail
        refine (reffits_any z w2).mono ?_
        rintro e w3 ⟨rfl, rfl⟩
        rw [Hz.out]
        go_wp2_with fail
        refine (refpage_any z A 508 c P w2 ((hcut.below hbe2 (Nat.le_refl _)).more hbe2.size) (by omega)).mono ?_
        rintro e w4 ⟨r4, rfl, hown4, hb4⟩
        obtain ⟨A4, c4, rfl, _, _⟩ := own_form hown4
        have hr4 := Rd.of_own hown4
        have hbe4 := hbe2.trans (hb4.mono hbe2.size)
        have hbk4 := hbk2.below hb4 hbk2.lt
        clear hown4 hb4 hbk2
        go_wp2_with fail
        refine (same_any A A4 512 512 c c4 l _ w4 ((hr.below hbe4 (Nat.le_refl _)).more hbe4.size) hr4 (by omega) (by omega)).mono ?_
        rintro e w5 ⟨rfl, q5, rfl⟩
        rw [decide_eq_true HSe.out]
        have hrq := Rd.of_bkW hbk4 508 Hlt.out
        go_wp2_with fail
        refine (same_any _ A 508 508 508 c _ _ _ (hrq.drewN q5) (((hcut.below hbe4 (Nat.le_refl _)).more hbe4.size).drewN q5) (by omega) (by omega)).mono ?_
        rintro e w6 ⟨rfl, q6, rfl⟩
        rw [decide_eq_true rfl]
        go_wp2
        go_ret
        exact ⟨rfl, below_drewN hbe4 _⟩
      · have hOp := fun W (h : Rd W W.heap.size 1 A 512 (bys l)) => popen_sum z A c l W h hnc hok hz hz0
        have hSe : ¬ l = sealB z (l.take 508) := fun h => hok (hso.1 h)
        have HOp := Lib.hid hOp
        have HSe := Lib.hid hSe
        clear hz hl hso hok hlt hOp hSe
        generalize l.take 508 = P at *
        go_enter Try.func8, Try.ntmps8
        go_wp2_with fail
        refine (pagewakes_any w).mono ?_
        rintro e w1 ⟨rfl, hb1⟩
        go_wp2_with fail
        refine (HOp.out w1 ((hr.below hb1 (Nat.le_refl _)).more hb1.size)).mono ?_
        rintro e w2 ⟨rfl, hb2⟩
        have hbe2 := hb1.trans (hb2.mono hb1.size)
        go_wp2_with fail
        refine (reffits_any z w2).mono ?_
        rintro e w3 ⟨rfl, rfl⟩
        rw [Hz.out]
        go_wp2_with fail
        refine (refpage_any z A 508 c P w2 ((hcut.below hbe2 (Nat.le_refl _)).more hbe2.size) (by omega)).mono ?_
        rintro e w4 ⟨r4, rfl, hown4, hb4⟩
        obtain ⟨A4, c4, rfl, _, _⟩ := own_form hown4
        have hr4 := Rd.of_own hown4
        have hbe4 := hbe2.trans (hb4.mono hbe2.size)
        clear hown4 hb4
        go_wp2_with fail
        refine (same_any A A4 512 512 c c4 l _ w4 ((hr.below hbe4 (Nat.le_refl _)).more hbe4.size) hr4 (by omega) (by omega)).mono ?_
        rintro e w5 ⟨rfl, q5, rfl⟩
        rw [decide_eq_false HSe.out]
        go_wp2
        go_ret
        exact ⟨rfl, below_drewN hbe4 _⟩
    · have hne : ((n : Int) != 512) = true := by rw [bne_iff_ne]; omega
      have Hz := Lib.hid hz
      have H2 := Lib.hid h2
      clear hz h2
      go_enter Try.func8, Try.ntmps8
      go_wp2_with fail
      refine (pagewakes_any w).mono ?_
      rintro e w1 ⟨rfl, hb1⟩
      go_wp2_with fail
      refine (popen_size z A n c w1 Hz.out hz0 H2.out).mono ?_
      rintro e w2 ⟨rfl, hb2⟩
      go_wp2_with fail
      refine (reffits_any z w2).mono ?_
      rintro e w3 ⟨rfl, rfl⟩
      rw [Hz.out]
      go_wp2
      go_ret
      exact ⟨rfl, hb1.trans (hb2.mono hb1.size)⟩

theorem fits3_small (z : Int) (h : 0 ≤ z ∧ z ≤ 65535) : fitsB 3 [z] = true := by rw [fits3_eq]; simp; omega

set_option maxHeartbeats 1000000 in
theorem pageZeros_walk (z : Int) (A : Option Addr) (n c : Nat) (l : List UInt8) (y : Int) (w : World) (hz0 : 0 ≤ z ∧ z ≤ 65535) (hr : Rd w w.heap.size 1 A n (bys l)) (hnc : n ≤ c) (_hcm : c ≤ maxLen) (hcz : c ≤ 140737488351232) (hy0 : 0 ≤ y ∧ y ≤ 255) :
    Calls Try.prog 10 #[.int .u16 z, .slice A n c, .int .u8 y] w fun e w' => e = .returned (.bool true) ∧ Below w.heap.size w w' := by
  have hcm := _hcm
  unfold maxLen at hcm
  obtain ⟨m, rfl⟩ : ∃ m : Nat, y = m := ⟨y.toNat, by omega⟩
  by_cases h1 : 508 < n + m
  · have h1' : (508 : Int) < (n : Int) + (m : Int) := by omega
    go_enter Try.func10, Try.ntmps10
    go_wp2_with fail
    refine (pagewakes_any w).mono ?_
    rintro e w1 ⟨rfl, hb1⟩
    go_wp2
    go_ret
    exact ⟨rfl, hb1⟩
  · have h1' : ¬ (508 : Int) < (n : Int) + (m : Int) := by omega
    have hz := fits3_small z hz0
    have hl := hr.blen
    have hsz := seal_zeros z l m (by omega)
    have hsl := sealB_len z l (by omega)
    have Hz := Lib.hid hz
    have Hsz := Lib.hid hsz
    have Hsl := Lib.hid hsl
    have Hl := Lib.hid hl
    clear hz hsz hsl hl
    go_enter Try.func10, Try.ntmps10
    go_wp2_with fail
    refine (pagewakes_any w).mono ?_
    rintro e w1 ⟨rfl, hb1⟩
    go_wp2_with fail
    refine (pseal_ok z A n c l w1 ((hr.below hb1 (Nat.le_refl _)).more hb1.size) hnc Hz.out (by omega) (by omega)).mono ?_
    rintro e w2 ⟨g, rfl, hbk2, hg, hb2⟩
    have hbe2 := hb1.trans (hb2.mono hb1.size)
    have hsz2 := hbe2.size
    have hrb := hr.below hbe2 (Nat.le_refl _)
    have hgo : ∀ (w6 : World) (v6 : Value), w6.ownsRow w2.heap.size 5 1 v6 (0 + n) (bys ([] ++ l)) → w6.ownsRow w2.heap.size 5 1 v6 n (bys l) := by
      intro w6 v6 h1
      simpa only [Nat.zero_add, List.nil_append] using h1
    have HGO := Lib.hid hgo
    clear hgo
    go_wp2_with (first
      | (at_builtin
         refine ap_bys (own_lit0 w2 _) (hrb.alloc hsz2 _) ((Below.refl w2.heap.size w2).alloc (Nat.le_refl _) _) (by simp) (by omega) rfl rfl rfl ?_
         intro v6 w6 hown6 hb6 _ _
         have hown6' := HGO.out w6 v6 hown6)
      | (at_builtin
         refine ap_zeros hown6' m (m : Int) rfl hb6 hb6.size (by omega) rfl rfl rfl ?_
         intro v7 w7 hown7 hb7 _ _))
    obtain ⟨A7, c7, rfl, hc7, _⟩ := own_form hown7
    have hr7 := Rd.of_own hown7
    have hbe7 := hbe2.trans (hb7.mono hsz2)
    have hbk7 := hbk2.below hb7 hbk2.lt
    clear hown6 hown6' hown7 hb6 hb7 hbk2 HGO hrb
    refine (pseal_ok z A7 (n + m) c7 _ w7 hr7 hc7 Hz.out (by omega) (by omega)).mono ?_
    rintro e w8 ⟨g8, rfl, hbk8, hg8, hb8⟩
    rw [Hsz.out] at hbk8
    have hbe8 := hbe7.trans (hb8.mono hbe7.size)
    have hr8 := Rd.of_bkW hbk8 512 Hsl.out
    have hr8' := Rd.of_bkW (hbk7.below hb8 hbk7.lt) 512 Hsl.out
    clear hbk8 hbk7 hr7 hb8
    go_wp2_with fail
    refine (same_any _ _ 512 512 512 512 _ _ w8 hr8' hr8 (by omega) (by omega)).mono ?_
    rintro e w9 ⟨rfl, q9, rfl⟩
    rw [decide_eq_true rfl]
    go_wp2
    go_ret
    exact ⟨rfl, below_drewN hbe8 _⟩
end Go.Proofs.Ythflnndjjhifeaa
