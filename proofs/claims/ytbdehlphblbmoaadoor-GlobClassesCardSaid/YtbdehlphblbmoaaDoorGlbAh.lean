/- GlobClasses. -/
import Derived.Test.YtbdehlphblbmoaaDoorGlbAf
namespace Go.Proofs.YtbdehlphblbmoaaDoor
open Go.RowKit
attribute [local go_sem ↓] Go.wp_at_zero Go.wp_at_succ

/-- The mark of a wrong rune. -/
def fffd : ByteArray := ⟨#[239, 191, 189]⟩
theorem enc_wrong {r : Int} (h : ¬ okR r) : Utf8.encode r = fffd := by
  have hv : Utf8.valid r = false := by
    unfold okR at h
    unfold Utf8.valid
    rw [Bool.eq_false_iff]
    intro hh
    simp at hh
    omega
  simp [Utf8.encode, hv, Utf8.runeError, fffd]
theorem new_cls (r : Int) (n : Nat) (h : 1 ≤ n) : newR n [] [91, 92, r, 93] = some [.cls false [(r, r)]] := by
  obtain ⟨m, rfl⟩ : ∃ m, n = m + 1 := ⟨n - 1, by omega⟩
  rw [newR_some (p := .cls false [(r, r)]) (k := []) (by simp [partR, isR, clsR, plainR]), newR_end]
  rfl
theorem new_ncls (r : Int) (n : Nat) (h : 1 ≤ n) : newR n [] [91, 33, 92, r, 93] = some [.cls true [(r, r)]] := by
  obtain ⟨m, rfl⟩ : ∃ m, n = m + 1 := ⟨n - 1, by omega⟩
  rw [newR_some (p := .cls true [(r, r)]) (k := []) (by simp [partR, isR, clsR, plainR]), newR_end]
  rfl
theorem mt_cls (n : Bool) (r x : Int) : mt [.cls n [(r, r)]] [x] = ((decide (x = r) != n) && x != 47) := by
  have e : (decide (r ≤ x) && decide (x ≤ r)) = decide (x = r) := by
    rw [Bool.eq_iff_iff]; simp; omega
  simp [mt, isStar, fitsB, inCls, e]
/-- A rune as a text. -/
def rtx (r : Int) : ByteArray := ⟨(Lib.encodeRune r).toArray⟩
theorem rtx_run {r : Int} (h : okR r) : rnB (rtx r) = [r] := by
  have := rnB_enc (rs := [r]) (by intro x hx; simp at hx; subst hx; exact h)
  rw [encL_one] at this
  exact this
theorem rtx_size (r : Int) : (rtx r).size ≤ 4 := by
  show (Array.size _) ≤ 4
  rw [List.size_toArray]
  exact (enc_pos r).2
theorem cls_text (r : Int) : (⟨#[91, 92]⟩ ++ rtx r ++ ⟨#[93]⟩ : ByteArray) = ⟨(encL [91, 92, r, 93]).toArray⟩ := by
  have e : encL [91, 92, r, 93] = [91, 92] ++ Lib.encodeRune r ++ [93] := by
    rw [show [91, 92, r, 93] = [91, 92] ++ ([r] ++ [93]) from rfl, encL_app, encL_app, encL_one, show encL [91, 92] = [91, 92] from by kernel_rfl, show encL [93] = [93] from by kernel_rfl, List.append_assoc]
  rw [e, ← ByteArray.mk_append_mk, ← ByteArray.mk_append_mk]
  rfl
theorem ncls_text (r : Int) : (⟨#[91, 33, 92]⟩ ++ rtx r ++ ⟨#[93]⟩ : ByteArray) = ⟨(encL [91, 33, 92, r, 93]).toArray⟩ := by
  have e : encL [91, 33, 92, r, 93] = [91, 33, 92] ++ Lib.encodeRune r ++ [93] := by
    rw [show [91, 33, 92, r, 93] = [91, 33, 92] ++ ([r] ++ [93]) from rfl, encL_app, encL_app, encL_one, show encL [91, 33, 92] = [91, 33, 92] from by kernel_rfl, show encL [93] = [93] from by kernel_rfl, List.append_assoc]
  rw [e, ← ByteArray.mk_append_mk, ← ByteArray.mk_append_mk]
  rfl
theorem cls_yes {r : Int} (h : okR r) (w : World) (hT : UT w) :
    Calls Tryd.prog 10 #[.string (⟨#[91, 92]⟩ ++ rtx r ++ ⟨#[93]⟩)] w fun e w' => ∃ g, e = .returned (.tuple #[.pointer (some ⟨g, 0, none⟩), .int .i64 0]) ∧ GlM w' w'.heap.size g [.cls false [(r, r)]] ∧ w.heap.size ≤ g ∧ Below w.heap.size w w' := by
  have hq : ∀ x ∈ [91, 92, r, 93], okR x := by
    intro x hx
    simp at hx
    rcases hx with rfl | rfl | rfl | rfl
    · exact .inl ⟨by omega, by omega⟩
    · exact .inl ⟨by omega, by omega⟩
    · exact h
    · exact .inl ⟨by omega, by omega⟩
  have hl := encL_len [91, 92, r, 93]
  simp only [List.length_cons, List.length_nil] at hl
  have hz : (⟨(encL [91, 92, r, 93]).toArray⟩ : ByteArray).size = (encL [91, 92, r, 93]).length := List.size_toArray
  rw [cls_text]
  refine new_yes _ _ w ?_ (valid_enc _ hq) ?_ hT
  · rw [hz]; omega
  · rw [rnB_enc hq, hz]
    exact new_cls r _ (by omega)
theorem ncls_yes {r : Int} (h : okR r) (w : World) (hT : UT w) :
    Calls Tryd.prog 10 #[.string (⟨#[91, 33, 92]⟩ ++ rtx r ++ ⟨#[93]⟩)] w fun e w' => ∃ g, e = .returned (.tuple #[.pointer (some ⟨g, 0, none⟩), .int .i64 0]) ∧ GlM w' w'.heap.size g [.cls true [(r, r)]] ∧ w.heap.size ≤ g ∧ Below w.heap.size w w' := by
  have hq : ∀ x ∈ [91, 33, 92, r, 93], okR x := by
    intro x hx
    simp at hx
    rcases hx with rfl | rfl | rfl | rfl | rfl
    · exact .inl ⟨by omega, by omega⟩
    · exact .inl ⟨by omega, by omega⟩
    · exact .inl ⟨by omega, by omega⟩
    · exact h
    · exact .inl ⟨by omega, by omega⟩
  have hl := encL_len [91, 33, 92, r, 93]
  simp only [List.length_cons, List.length_nil] at hl
  have hz : (⟨(encL [91, 33, 92, r, 93]).toArray⟩ : ByteArray).size = (encL [91, 33, 92, r, 93]).length := List.size_toArray
  rw [ncls_text]
  refine new_yes _ _ w ?_ (valid_enc _ hq) ?_ hT
  · rw [hz]; omega
  · rw [rnB_enc hq, hz]
    exact new_ncls r _ (by omega)
theorem cls_match (n : Bool) {r x : Int} (hx : okR x) (g B : Nat) (w : World) (h : GlM w B g [.cls n [(r, r)]]) (hB : B ≤ w.heap.size) :
    Calls Tryd.prog 11 #[.pointer (some ⟨g, 0, none⟩), .string (rtx x)] w fun e w' => e = .returned (.bool ((decide (x = r) != n) && x != 47)) ∧ Below w.heap.size w w' := by
  have := match_any g B _ (rtx x) w h hB (by have := rtx_size x; omega)
  rwa [rtx_run hx, mt_cls] at this
theorem rtx_inj {a b : Int} (ha : okR a) (hb : okR b) (h : rtx a = rtx b) : a = b := by
  have := rtx_run ha
  rw [h, rtx_run hb] at this
  injection this with h
  exact h.symm
theorem rtx_slash {a : Int} (ha : okR a) (h : (rtx a).toList = [47]) : a = 47 := by
  refine rtx_inj ha (.inl ⟨by omega, by omega⟩) (bytes_eq ?_)
  rw [h]; kernel_rfl
theorem globClasses_laid (W : World) (h : laidMet Tryd.prog Rows.globClassesRow.laid W) : UT W := ut_of h
set_option maxHeartbeats 4000000 in
set_option maxRecDepth 100000 in
theorem globClasses_walk (r o : Int) (w : World) (_ : -2147483648 ≤ r ∧ r ≤ 2147483647) (_ : -2147483648 ≤ o ∧ o ≤ 2147483647) (hT : UT w) :
    Calls Tryd.prog 3 #[.int .i32 r, .int .i32 o] w fun e w' => e = .returned (.bool true) ∧ Below w.heap.size w w' := by
  have H1 := Lib.hid (gwakes_any w hT)
  have hcv : ∀ r w, (convert 21 9 (.int .i32 r)).run Tryd.prog w = .ok (.string (Utf8.encode r)) w := fun r w => run_convert_int_string w _ _ _ _ (by kernel_rfl) Tryd.underlying9
  have hc1 := hcv r
  have hc2 := hcv o
  clear hcv
  obtain ⟨sa, hsa⟩ : ∃ sa, Utf8.encode r = sa := ⟨_, rfl⟩
  obtain ⟨sb, hsb⟩ : ∃ sb, Utf8.encode o = sb := ⟨_, rfl⟩
  rw [hsa] at hc1
  rw [hsb] at hc2
  have HT := Lib.hid hT
  clear hT
  rcases Bool.eq_false_or_eq_true (sa.toList == [239, 191, 189]) with ea | ea
  · clear hsa hsb
    go_enter Tryd.func3, Tryd.ntmps3
    go_wp2_with fail
    with_reducible refine H1.out.mono ?_
    rintro e w1 ⟨rfl, b1⟩
    have B1 := Lib.hid b1
    clear b1 H1
    go_wp2_with fail
    go_ret
    exact ⟨rfl, B1.out⟩
  rcases Bool.eq_false_or_eq_true (sb.toList == [239, 191, 189]) with eb | eb
  · clear hsa hsb
    go_enter Tryd.func3, Tryd.ntmps3
    go_wp2_with fail
    with_reducible refine H1.out.mono ?_
    rintro e w1 ⟨rfl, b1⟩
    have B1 := Lib.hid b1
    clear b1 H1
    go_wp2_with fail
    go_ret
    exact ⟨rfl, B1.out⟩
  have hf : fffd.toList = [239, 191, 189] := by kernel_rfl
  have kr : okR r := by
    by_cases h : okR r
    · exact h
    · rw [← hsa, enc_wrong h, hf] at ea; simp at ea
  have ko : okR o := by
    by_cases h : okR o
    · exact h
    · rw [← hsb, enc_wrong h, hf] at eb; simp at eb
  have hra : sa = rtx r := by rw [← hsa, enc_string kr]; rfl
  have hrb : sb = rtx o := by rw [← hsb, enc_string ko]; rfl
  have za : sa.size ≤ 4 := by rw [hra]; exact rtx_size r
  have e1 : 2 + sa.size ≤ 9223372036854775807 := by omega
  have e2 : 2 + sa.size + 1 ≤ 9223372036854775807 := by omega
  have e3 : 3 + sa.size ≤ 9223372036854775807 := by omega
  have e4 : 3 + sa.size + 1 ≤ 9223372036854775807 := by omega
  have HN1 := Lib.hid (fun w hT => cls_yes kr w hT)
  have HN2 := Lib.hid (fun w hT => ncls_yes kr w hT)
  have HMa := Lib.hid (fun n g B w h hB => cls_match n kr g B w (r := r) h hB)
  have HMb := Lib.hid (fun n g B w h hB => cls_match n ko g B w (r := r) h hB)
  have Ha47 := Lib.hid (show sa.toList = [47] ↔ r = 47 from ⟨fun h => rtx_slash kr (by rw [← hra]; exact h), fun h => by rw [hra, h]; kernel_rfl⟩)
  have Hb47 := Lib.hid (show sb.toList = [47] ↔ o = 47 from ⟨fun h => rtx_slash ko (by rw [← hrb]; exact h), fun h => by rw [hrb, h]; kernel_rfl⟩)
  have Hab := Lib.hid (show sa.toList = sb.toList ↔ o = r from ⟨fun h => rtx_inj ko kr (by rw [← hra, ← hrb]; exact (bytes_eq h).symm), fun h => by rw [hra, hrb, h]⟩)
  rw [← hra] at HN1 HN2 HMa
  rw [← hrb] at HMb
  clear hsa hsb hf kr ko hra hrb za
  obtain ⟨t1, ht1⟩ : ∃ t, decide (r = 47) = t := ⟨_, rfl⟩
  obtain ⟨t2, ht2⟩ : ∃ t, decide (o = 47) = t := ⟨_, rfl⟩
  obtain ⟨t3, ht3⟩ : ∃ t, decide (o = r) = t := ⟨_, rfl⟩
  have f1 : (r != 47) = !t1 := by rw [← ht1]; by_cases h : r = 47 <;> simp [h]
  have f2 : (o != 47) = !t2 := by rw [← ht2]; by_cases h : o = 47 <;> simp [h]
  have f3 : (decide (r = r)) = true := by simp
  rw [f1, f3] at HMa
  rw [f2, ht3] at HMb
  have g1 : (sa.toList == [47]) = t1 := by rw [Bool.eq_iff_iff, beq_iff_eq, Ha47.out, ← ht1]; simp
  have g2 : (sb.toList == [47]) = t2 := by rw [Bool.eq_iff_iff, beq_iff_eq, Hb47.out, ← ht2]; simp
  have g3 : (sa.toList == sb.toList) = t3 := by rw [Bool.eq_iff_iff, beq_iff_eq, Hab.out, ← ht3]; simp
  clear f1 f2 f3 ht1 ht2 ht3 Ha47 Hb47 Hab
  go_enter Tryd.func3, Tryd.ntmps3
  go_wp2_with fail
  with_reducible refine H1.out.mono ?_
  rintro e w1 ⟨rfl, b1⟩
  have B1 := Lib.hid b1
  have HN := Lib.hid (HN1.out w1 (HT.out.below b1))
  clear b1 H1
  go_wp2_with fail
  with_reducible refine HN.out.mono ?_
  rintro e w2 ⟨p1, rfl, m2, _, b2⟩
  have M2 := Lib.hid m2
  have B2 := Lib.hid (B1.out.trans (b2.mono B1.out.size))
  clear m2 b2 HN HN1 B1
  have HN := Lib.hid (HN2.out w2 (HT.out.below B2.out))
  go_wp2_with fail
  with_reducible refine HN.out.mono ?_
  rintro e w3 ⟨p2, rfl, m3, _, b3⟩
  have M3 := Lib.hid (And.intro m3 (M2.out.bl (Nat.le_refl _) b3))
  have hz3 := b3.size
  have B3 := Lib.hid (B2.out.trans (b3.mono B2.out.size))
  clear m3 b3 HN HN2 B2 M2
  have HM := Lib.hid (HMa.out false p1 _ w3 M3.out.2 hz3)
  go_wp2_with fail
  with_reducible refine HM.out.mono ?_
  rintro e w4 ⟨rfl, b4⟩
  have M4 := Lib.hid (And.intro (M3.out.1.bl (Nat.le_refl _) b4) (M3.out.2.bl hz3 b4))
  have hz4 := b4.size
  have B4 := Lib.hid (B3.out.trans (b4.mono B3.out.size))
  clear b4 HM B3 M3
  have HM := Lib.hid (HMa.out true p2 _ w4 M4.out.1 hz4)
  have HMb1 := Lib.hid (HMb.out false)
  have HMb2 := Lib.hid (HMb.out true)
  clear HMb HMa
  cases t1 <;> cases t2 <;> cases t3
  all_goals
    simp only [Bool.not_true, Bool.not_false, Bool.bne_true, Bool.bne_false, Bool.and_true, Bool.and_false, Bool.true_and, Bool.false_and] at HM HMb1 HMb2
    go_wp2_with fail
    with_reducible refine HM.out.mono ?_
    rintro e w5 ⟨rfl, b5⟩
    have M5 := Lib.hid (And.intro (M4.out.1.bl hz4 b5) (M4.out.2.bl (by omega) b5))
    have hz5 := b5.size
    have B5 := Lib.hid (B4.out.trans (b5.mono B4.out.size))
    clear b5 HM B4 M4
    have HM := Lib.hid (HMb1.out p1 _ w5 M5.out.2 (by omega))
    go_wp2_with fail
    with_reducible refine HM.out.mono ?_
    rintro e w6 ⟨rfl, b6⟩
    have M6 := Lib.hid (M5.out.1.bl (by omega) b6)
    have hz6 := b6.size
    have B6 := Lib.hid (B5.out.trans (b6.mono B5.out.size))
    clear b6 HM B5 M5
    have HM := Lib.hid (HMb2.out p2 _ w6 M6.out (by omega))
    go_wp2_with fail
    with_reducible refine HM.out.mono ?_
    rintro e w7 ⟨rfl, b7⟩
    have B7 := Lib.hid (B6.out.trans (b7.mono B6.out.size))
    clear b7 HM B6 M6
    go_wp2_with fail
    go_ret
    exact ⟨rfl, B7.out⟩
end Go.Proofs.YtbdehlphblbmoaaDoor
