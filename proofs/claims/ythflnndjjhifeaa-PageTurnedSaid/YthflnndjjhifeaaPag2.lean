/- Contracts of package page: Open. -/
import Derived.Test.YthflnndjjhifeaaPag1
import Derived.Test.YthflnndjjhifeaaConv
namespace Go.Proofs.Ythflnndjjhifeaa
open Go.RowKit
attribute [local go_sem ↓] Go.wp_at_zero Go.wp_at_succ

theorem popen_arg (z : Int) (A : Option Addr) (n c : Nat) (w : World) (hz : fitsB 3 [z] = false) (hz0 : -9223372036854775808 ≤ z ∧ z ≤ 9223372036854775807) :
    Calls Try.prog 25 #[.int .i64 z, .slice A n c] w fun e w' => e = .returned (.tuple #[.slice none 0 0, .int .i64 1]) ∧ Below w.heap.size w w' := by
  have w3 : (wid 3).toNat = 3 := by decide
  have hf := fits_any 3 _ 1 1 [z] _ ((Rd.oneI w 3 z).more (B' := (w.alloc (.cells #[.int .i64 z] 3)).heap.size) (by simp)) (by omega) (by simpa using hz0)
  rw [w3, hz] at hf
  clear w3 hz
  go_enter Try.func25, Try.ntmps25
  go_wp2_with fail
  refine hf.mono ?_
  rintro e w1 ⟨rfl, rfl⟩
  go_wp2
  go_ret2
  exact ⟨rfl, (Below.refl _ _).alloc (Nat.le_refl _) _⟩
theorem popen_size (z : Int) (A : Option Addr) (n c : Nat) (w : World) (hz : fitsB 3 [z] = true) (hz0 : -9223372036854775808 ≤ z ∧ z ≤ 9223372036854775807) (hn : n ≠ 512) :
    Calls Try.prog 25 #[.int .i64 z, .slice A n c] w fun e w' => e = .returned (.tuple #[.slice none 0 0, .int .i64 14]) ∧ Below w.heap.size w w' := by
  have w3 : (wid 3).toNat = 3 := by decide
  have hf := fits_any 3 _ 1 1 [z] _ ((Rd.oneI w 3 z).more (B' := (w.alloc (.cells #[.int .i64 z] 3)).heap.size) (by simp)) (by omega) (by simpa using hz0)
  rw [w3, hz] at hf
  have hne : ((n : Int) != 512) = true := by rw [bne_iff_ne]; omega
  clear w3 hz hn
  go_enter Try.func25, Try.ntmps25
  go_wp2_with fail
  refine hf.mono ?_
  rintro e w1 ⟨rfl, rfl⟩
  go_wp2
  go_ret2
  exact ⟨rfl, (Below.refl _ _).alloc (Nat.le_refl _) _⟩
set_option maxHeartbeats 1000000 in
theorem popen_sum (z : Int) (A : Option Addr) (c : Nat) (l : List UInt8) (w : World) (hr : Rd w w.heap.size 1 A 512 (bys l)) (hnc : 512 ≤ c) (hne : ¬ sumB z (l.take 508) = l.drop 508) (hz : fitsB 3 [z] = true) (hz0 : -9223372036854775808 ≤ z ∧ z ≤ 9223372036854775807) :
    Calls Try.prog 25 #[.int .i64 z, .slice A 512 c] w fun e w' => e = .returned (.tuple #[.slice none 0 0, .int .i64 5]) ∧ Below w.heap.size w w' := by
  have w3 : (wid 3).toNat = 3 := by decide
  have hf := fits_any 3 _ 1 1 [z] _ ((Rd.oneI w 3 z).more (B' := (w.alloc (.cells #[.int .i64 z] 3)).heap.size) (by simp)) (by omega) (by simpa using hz0)
  rw [w3, hz] at hf
  have hl := hr.blen
  obtain ⟨b, o, rfl, hbb, _⟩ := hr.2 (by omega)
  have hmk := mk_bys 508 508 508 rfl rfl (by omega)
  have hgen : (bys (List.replicate 508 0)).toArray = (bys (List.replicate 508 0)).toArray := rfl
  generalize hzz : (bys (List.replicate 508 0)).toArray = zz at hmk
  have Hzz := Lib.hid hzz
  clear w3 hz hgen hzz
  go_enter Try.func25, Try.ntmps25
  go_wp2_with fail
  refine hf.mono ?_
  rintro e w1 ⟨rfl, rfl⟩
  have hal : Bk ((w.alloc (.cells #[.int .i64 z] 3)).alloc (.cells zz 5)) (w.heap.size + 1) 5 (bys (List.replicate 508 0)).toArray := by rw [Hzz.out]; exact Bk.new' _ _ _ (by simp)
  have hbe : Below w.heap.size w ((w.alloc (.cells #[.int .i64 z] 3)).alloc (.cells zz 5)) := ((Below.refl _ _).alloc (Nat.le_refl _) _).alloc (by simp) _
  go_wp2_with (refine copy_bys hal (hr.below hbe (Nat.le_refl _)) 508 rfl (by rw [List.length_replicate]; omega) rfl rfl hbe (by omega) ?_; intro w2 hbk2 hbe2)
  have hlay : lay (List.replicate 508 0) 0 (l.take 508) = l.take 508 := by
    unfold lay
    rw [List.take_zero, List.nil_append, List.drop_of_length_le (by rw [List.length_replicate, List.length_take]; omega), List.append_nil]
  rw [hlay] at hbk2
  have hP : (l.take 508).length = 508 := by rw [List.length_take]; omega
  have hr2 := Rd.of_bk hbk2 0 508 (by omega)
  rw [List.drop_zero, List.take_of_length_le (by omega)] at hr2
  have hcut : Rd w w.heap.size 1 (some ⟨b, o + 508, none⟩) 4 (bys (l.drop 508)) := by
    have := hr.bcut (k := 508) (m := 4) (by omega) (A' := some ⟨b, o + 508, none⟩) (fun _ => by simp [addLit])
    rwa [List.take_of_length_le (by rw [List.length_drop]; omega)] at this
  have hq : ∀ w', Below w.heap.size w w' → (convert 22 9 (.slice (some ⟨b, o + 508, none⟩) 4 (c - 508))).run Try.prog w' = .ok (.string ⟨(l.drop 508).toArray⟩) w' := fun w' h => conv_bys (hcut.below h (Nat.le_refl _))
  have heq : (sumB z (l.take 508) == l.drop 508) = false := by simpa using hne
  clear hne
  have HQ := Lib.hid hq
  have HP := Lib.hid hP
  have hC : ∀ W w3 v3, Below w.heap.size w W → w3.ownsRow W.heap.size 5 1 v3 4 (bys (sumB z (l.take 508))) → Below W.heap.size W w3 → Bk W (w.heap.size + 1) 5 (bys (l.take 508)).toArray → ∃ A3 c3, v3 = .slice A3 4 c3 ∧ (convert 22 9 (.slice A3 4 c3)).run Try.prog w3 = .ok (.string ⟨(sumB z (l.take 508)).toArray⟩) w3 ∧ Below w.heap.size w w3 ∧ Bk w3 (w.heap.size + 1) 5 (bys (l.take 508)).toArray := by
    intro W w3 v3 hW hown3 hb3 hbk
    obtain ⟨A3, c3, rfl, hc3, _⟩ := own_form hown3
    exact ⟨A3, c3, rfl, conv_bys (Rd.of_own hown3), hW.trans (hb3.mono hW.size), hbk.below hb3 hbk.lt⟩
  have HC := Lib.hid hC
  have hq2 := hq w2 hbe2
  have hbe2d := hbe2.drew
  clear hq hC hal hbe hf hmk hcut hlay hl hP
  generalize hD : l.drop 508 = D at *
  generalize hPP : l.take 508 = P at *
  generalize hT : sumB z P = T at *
  have HT := Lib.hid hT
  have HPe := Lib.hid hPP
  clear hD hPP hT
  go_wp2_with fail
  have hq2d := HQ.out _ hbe2d
  have hbk2d := hbk2.drew
  have hc508 : ¬ c = 508 := by omega
  go_region_with (go_at_call 38; refine (psum_any z _ 508 508 P _ (by exact hr2) (by omega) (by omega)).mono ?_; rintro e w3 ⟨v3, rfl, hown3, hb3⟩; rw [HT.out] at hown3; obtain ⟨A3, c3, rfl, hq3, hbe3, hbk3⟩ := HC.out _ w3 v3 hbe2d hown3 hb3 hbk2d; have hq4 := HQ.out _ hbe3)
  all_goals (go_wp2; go_ret2; exact ⟨rfl, by assumption⟩)
set_option maxHeartbeats 1000000 in
theorem popen_ok (z : Int) (A : Option Addr) (c : Nat) (l : List UInt8) (w : World) (hr : Rd w w.heap.size 1 A 512 (bys l)) (hnc : 512 ≤ c) (hne : sumB z (l.take 508) = l.drop 508) (hz : fitsB 3 [z] = true) (hz0 : -9223372036854775808 ≤ z ∧ z ≤ 9223372036854775807) :
    Calls Try.prog 25 #[.int .i64 z, .slice A 512 c] w fun e w' => ∃ g, e = .returned (.tuple #[.slice (some ⟨g, 0, none⟩) 508 508, .int .i64 0]) ∧ Bk w' g 5 (bys (l.take 508)).toArray ∧ w.heap.size ≤ g ∧ Below w.heap.size w w' := by
  have w3 : (wid 3).toNat = 3 := by decide
  have hf := fits_any 3 _ 1 1 [z] _ ((Rd.oneI w 3 z).more (B' := (w.alloc (.cells #[.int .i64 z] 3)).heap.size) (by simp)) (by omega) (by simpa using hz0)
  rw [w3, hz] at hf
  have hl := hr.blen
  obtain ⟨b, o, rfl, hbb, _⟩ := hr.2 (by omega)
  have hmk := mk_bys 508 508 508 rfl rfl (by omega)
  have hgen : (bys (List.replicate 508 0)).toArray = (bys (List.replicate 508 0)).toArray := rfl
  generalize hzz : (bys (List.replicate 508 0)).toArray = zz at hmk
  have Hzz := Lib.hid hzz
  clear w3 hz hgen hzz
  go_enter Try.func25, Try.ntmps25
  go_wp2_with fail
  refine hf.mono ?_
  rintro e w1 ⟨rfl, rfl⟩
  have hal : Bk ((w.alloc (.cells #[.int .i64 z] 3)).alloc (.cells zz 5)) (w.heap.size + 1) 5 (bys (List.replicate 508 0)).toArray := by rw [Hzz.out]; exact Bk.new' _ _ _ (by simp)
  have hbe : Below w.heap.size w ((w.alloc (.cells #[.int .i64 z] 3)).alloc (.cells zz 5)) := ((Below.refl _ _).alloc (Nat.le_refl _) _).alloc (by simp) _
  go_wp2_with (refine copy_bys hal (hr.below hbe (Nat.le_refl _)) 508 rfl (by rw [List.length_replicate]; omega) rfl rfl hbe (by omega) ?_; intro w2 hbk2 hbe2)
  have hlay : lay (List.replicate 508 0) 0 (l.take 508) = l.take 508 := by
    unfold lay
    rw [List.take_zero, List.nil_append, List.drop_of_length_le (by rw [List.length_replicate, List.length_take]; omega), List.append_nil]
  rw [hlay] at hbk2
  have hP : (l.take 508).length = 508 := by rw [List.length_take]; omega
  have hr2 := Rd.of_bk hbk2 0 508 (by omega)
  rw [List.drop_zero, List.take_of_length_le (by omega)] at hr2
  have hcut : Rd w w.heap.size 1 (some ⟨b, o + 508, none⟩) 4 (bys (l.drop 508)) := by
    have := hr.bcut (k := 508) (m := 4) (by omega) (A' := some ⟨b, o + 508, none⟩) (fun _ => by simp [addLit])
    rwa [List.take_of_length_le (by rw [List.length_drop]; omega)] at this
  have hq : ∀ w', Below w.heap.size w w' → (convert 22 9 (.slice (some ⟨b, o + 508, none⟩) 4 (c - 508))).run Try.prog w' = .ok (.string ⟨(l.drop 508).toArray⟩) w' := fun w' h => conv_bys (hcut.below h (Nat.le_refl _))
  have heq : (sumB z (l.take 508) == l.drop 508) = true := by simpa using hne
  clear hne
  have HQ := Lib.hid hq
  have HP := Lib.hid hP
  have hC : ∀ W w3 v3, Below w.heap.size w W → w3.ownsRow W.heap.size 5 1 v3 4 (bys (sumB z (l.take 508))) → Below W.heap.size W w3 → Bk W (w.heap.size + 1) 5 (bys (l.take 508)).toArray → ∃ A3 c3, v3 = .slice A3 4 c3 ∧ (convert 22 9 (.slice A3 4 c3)).run Try.prog w3 = .ok (.string ⟨(sumB z (l.take 508)).toArray⟩) w3 ∧ Below w.heap.size w w3 ∧ Bk w3 (w.heap.size + 1) 5 (bys (l.take 508)).toArray := by
    intro W w3 v3 hW hown3 hb3 hbk
    obtain ⟨A3, c3, rfl, hc3, _⟩ := own_form hown3
    exact ⟨A3, c3, rfl, conv_bys (Rd.of_own hown3), hW.trans (hb3.mono hW.size), hbk.below hb3 hbk.lt⟩
  have HC := Lib.hid hC
  have hq2 := hq w2 hbe2
  have hbe2d := hbe2.drew
  clear hq hC hal hbe hf hmk hcut hlay hl hP
  generalize hD : l.drop 508 = D at *
  generalize hPP : l.take 508 = P at *
  generalize hT : sumB z P = T at *
  have HT := Lib.hid hT
  have HPe := Lib.hid hPP
  clear hD hPP hT
  go_wp2_with fail
  have hq2d := HQ.out _ hbe2d
  have hbk2d := hbk2.drew
  have hc508 : ¬ c = 508 := by omega
  go_region_with (go_at_call 38; refine (psum_any z _ 508 508 P _ (by exact hr2) (by omega) (by omega)).mono ?_; rintro e w3 ⟨v3, rfl, hown3, hb3⟩; rw [HT.out] at hown3; obtain ⟨A3, c3, rfl, hq3, hbe3, hbk3⟩ := HC.out _ w3 v3 hbe2d hown3 hb3 hbk2d; have hq4 := HQ.out _ hbe3)
  all_goals (go_wp2; go_ret2; exact ⟨_, rfl, by rw [HPe.out]; assumption, by omega, by assumption⟩)
end Go.Proofs.Ythflnndjjhifeaa
