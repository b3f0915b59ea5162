/- The walk of DosTexts. -/
import Derived.Test.YtmijgcmlpdehkaaDoorDosY
import Derived.Test.YtmijgcmlpdehkaaDoorDosK
import Derived.Lib.MinMaxS
namespace Go.Proofs.YtmijgcmlpdehkaaDoor
open Go.RowKit
attribute [local go_sem ↓] Go.wp_at_zero Go.wp_at_succ

theorem str_size (l : List UInt8) : (str l).size = l.length := by simp [str, ByteArray.size]
set_option maxHeartbeats 1000000 in
theorem dosTexts_nn (a b : Int) (w : World) (ha : -9223372036854775808 ≤ a ∧ a ≤ 9223372036854775807) (hb : -9223372036854775808 ≤ b ∧ b ≤ 9223372036854775807) (hra : ¬ RightN a) (hrb : ¬ RightN b) :
    Calls Tryd.prog 4 #[.int .i64 a, .int .i64 b] w fun e w' => e = .returned (.bool true) ∧ Below w.heap.size w w' := by
  have Ha := Lib.hid hra
  have Hb := Lib.hid hrb
  clear hra hrb
  go_enter Tryd.func4, Tryd.ntmps4
  go_wp2_with fail
  refine (doswakes_any w).mono ?_
  rintro e w1 ⟨rfl, hb1⟩
  go_wp2_with fail
  refine (text_no a w1 ha Ha.out).mono ?_
  rintro e w2 ⟨rfl, hb2⟩
  have hbe2 := hb1.trans (hb2.mono hb1.size)
  clear hb1 hb2
  go_wp2_with fail
  refine (text_no b w2 hb Hb.out).mono ?_
  rintro e w3 ⟨rfl, hb3⟩
  have hbe3 := hbe2.trans (hb3.mono hbe2.size)
  go_wp2
  go_ret
  exact ⟨rfl, hbe3⟩
set_option maxHeartbeats 1000000 in
theorem dosTexts_ny (a b : Int) (w : World) (ha : -9223372036854775808 ≤ a ∧ a ≤ 9223372036854775807) (hra : ¬ RightN a) (hrb : RightN b) (htab : Tab w.heap.size w) :
    Calls Tryd.prog 4 #[.int .i64 a, .int .i64 b] w fun e w' => e = .returned (.bool true) ∧ Below w.heap.size w w' := by
  have Ha := Lib.hid hra
  have Hb := Lib.hid hrb
  have Htab := Lib.hid htab
  clear hra hrb htab
  go_enter Tryd.func4, Tryd.ntmps4
  go_wp2_with fail
  refine (doswakes_any w).mono ?_
  rintro e w1 ⟨rfl, hb1⟩
  go_wp2_with fail
  refine (text_no a w1 ha Ha.out).mono ?_
  rintro e w2 ⟨rfl, hb2⟩
  have hbe2 := hb1.trans (hb2.mono hb1.size)
  clear hb1 hb2
  go_wp2_with fail
  refine (text_yes b w2 Hb.out ((Htab.out.on hbe2).up hbe2.size)).mono ?_
  rintro e w3 ⟨rfl, hb3⟩
  have hbe3 := hbe2.trans (hb3.mono hbe2.size)
  go_wp2
  go_ret
  exact ⟨rfl, hbe3⟩
set_option maxHeartbeats 1000000 in
theorem dosTexts_yn (a b : Int) (w : World) (hb : -9223372036854775808 ≤ b ∧ b ≤ 9223372036854775807) (hra : RightN a) (hrb : ¬ RightN b) (htab : Tab w.heap.size w) :
    Calls Tryd.prog 4 #[.int .i64 a, .int .i64 b] w fun e w' => e = .returned (.bool true) ∧ Below w.heap.size w w' := by
  have Ha := Lib.hid hra
  have Hb := Lib.hid hrb
  have Htab := Lib.hid htab
  clear hra hrb htab
  go_enter Tryd.func4, Tryd.ntmps4
  go_wp2_with fail
  refine (doswakes_any w).mono ?_
  rintro e w1 ⟨rfl, hb1⟩
  go_wp2_with fail
  refine (text_yes a w1 Ha.out ((Htab.out.on hb1).up hb1.size)).mono ?_
  rintro e w2 ⟨rfl, hb2⟩
  have hbe2 := hb1.trans (hb2.mono hb1.size)
  clear hb1 hb2
  go_wp2_with fail
  refine (text_no b w2 hb Hb.out).mono ?_
  rintro e w3 ⟨rfl, hb3⟩
  have hbe3 := hbe2.trans (hb3.mono hbe2.size)
  go_wp2
  go_ret
  exact ⟨rfl, hbe3⟩
set_option maxHeartbeats 1000000 in
theorem dosTexts_yy (a b : Int) (w : World) (hra : RightN a) (hrb : RightN b) (htab : Tab w.heap.size w) :
    Calls Tryd.prog 4 #[.int .i64 a, .int .i64 b] w fun e w' => e = .returned (.bool true) ∧ Below w.heap.size w w' := by
  have Ha := Lib.hid hra
  have Hb := Lib.hid hrb
  have Htab := Lib.hid htab
  have h1 := right_bd hra
  have h2 := right_bd hrb
  obtain ⟨a0, a1, _⟩ := h1
  obtain ⟨b0, b1, _⟩ := h2
  have hord := text_order hra hrb
  have hza : (str (textN a)).size = if a % 65536 = 0 then 10 else 19 := by rw [str_size, text_len]
  have hzb : (str (textN b)).size = if b % 65536 = 0 then 10 else 19 := by rw [str_size, text_len]
  have hord2 : (str (textN a)).size = (str (textN b)).size → (decide ((str (textN a)).data.toList < (str (textN b)).data.toList) = decide (a < b)) := by
    intro h
    rw [str_size, str_size] at h
    exact decide_eq_decide.2 (hord h)
  have Ho := Lib.hid hord2
  clear hra hrb htab hord hord2
  go_enter Tryd.func4, Tryd.ntmps4
  go_wp2_with fail
  refine (doswakes_any w).mono ?_
  rintro e w1 ⟨rfl, hb1⟩
  go_wp2_with fail
  refine (text_yes a w1 Ha.out ((Htab.out.on hb1).up hb1.size)).mono ?_
  rintro e w2 ⟨rfl, hb2⟩
  have hbe2 := hb1.trans (hb2.mono hb1.size)
  clear hb1 hb2
  go_wp2_with fail
  refine (text_yes b w2 Hb.out ((Htab.out.on hbe2).up hbe2.size)).mono ?_
  rintro e w3 ⟨rfl, hb3⟩
  have hbe3 := hbe2.trans (hb3.mono hbe2.size)
  clear hb3 hbe2
  generalize str (textN a) = S at *
  generalize str (textN b) = T at *
  by_cases ha0 : a % 65536 = 0
  · rw [if_pos ha0] at hza
    have ha0' : (a % 65536 == 0) = true := by simpa using ha0
    clear ha0
    by_cases hb0 : b % 65536 = 0
    · rw [if_pos hb0] at hzb
      have ho := Ho.out (hza.trans hzb.symm)
      clear hb0
      go_wp2
      go_ret
      exact ⟨ret_bool (by rw [Go.Proofs.bytesLess_eq, Lib.toList_data, Lib.toList_data, ho]; simp), hbe3⟩
    · rw [if_neg hb0] at hzb
      clear hb0
      go_wp2
      go_ret
      exact ⟨rfl, hbe3⟩
  · rw [if_neg ha0] at hza
    have ha0' : (a % 65536 == 0) = false := by simpa using ha0
    clear ha0
    by_cases hb0 : b % 65536 = 0
    · rw [if_pos hb0] at hzb
      clear hb0
      go_wp2
      go_ret
      exact ⟨rfl, hbe3⟩
    · rw [if_neg hb0] at hzb
      have ho := Ho.out (hza.trans hzb.symm)
      clear hb0
      go_wp2
      go_ret
      exact ⟨ret_bool (by rw [Go.Proofs.bytesLess_eq, Lib.toList_data, Lib.toList_data, ho]; simp), hbe3⟩
theorem dosTexts_walk (a b : Int) (w : World) (ha : -9223372036854775808 ≤ a ∧ a ≤ 9223372036854775807) (hb : -9223372036854775808 ≤ b ∧ b ≤ 9223372036854775807) (htab : Tab w.heap.size w) :
    Calls Tryd.prog 4 #[.int .i64 a, .int .i64 b] w fun e w' => e = .returned (.bool true) ∧ Below w.heap.size w w' := by
  by_cases hra : RightN a <;> by_cases hrb : RightN b
  · exact dosTexts_yy a b w hra hrb htab
  · exact dosTexts_yn a b w hb hra hrb htab
  · exact dosTexts_ny a b w ha hra hrb htab
  · exact dosTexts_nn a b w ha hb hra hrb
end Go.Proofs.YtmijgcmlpdehkaaDoor
