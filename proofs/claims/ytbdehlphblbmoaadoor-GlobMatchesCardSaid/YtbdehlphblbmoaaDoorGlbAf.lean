/- GlobQuotes. -/
import Derived.Test.YtbdehlphblbmoaaDoorGlbAe
namespace Go.Proofs.YtbdehlphblbmoaaDoor
open Go.RowKit
attribute [local go_sem ↓] Go.wp_at_zero Go.wp_at_succ

theorem special_len {r : Int} (h : special r = true) : (Lib.encodeRune r).length = 1 := by
  unfold special at h
  simp only [Bool.or_eq_true, beq_iff_eq] at h
  rcases h with ((h | h) | h) | h <;> subst h <;> rfl
theorem quote_len : ∀ rs : List Int, (encL (quoteR rs)).length ≤ 2 * (encL rs).length
  | [] => by simp [quoteR, encL]
  | r :: rs => by
    have ih := quote_len rs
    have e1 : quoteR (r :: rs) = (if special r then [92, r] else [r]) ++ quoteR rs := by unfold quoteR; rw [List.flatMap_cons]
    have e2 : encL (r :: rs) = Lib.encodeRune r ++ encL rs := by unfold encL; rw [List.flatMap_cons]
    rw [e1, e2, encL_app, List.length_append, List.length_append]
    have hp := enc_pos r
    split
    · have e3 : encL [92, r] = Lib.encodeRune 92 ++ Lib.encodeRune r := by unfold encL; simp
      rw [e3, List.length_append, show (Lib.encodeRune 92).length = 1 from rfl]
      omega
    · rw [encL_one]; omega
theorem enc_back {s : ByteArray} (h : Lib.validD s.data.toList = true) : (⟨(encL (rnB s)).toArray⟩ : ByteArray) = s := by
  rw [rnB_L, enc_runes _ _ (Nat.le_refl _) h]
theorem enc_back' {s : ByteArray} (h : Lib.validD s.data.toList = true) : encL (rnB s) = s.data.toList := by
  rw [rnB_L, enc_runes _ _ (Nat.le_refl _) h]
theorem rnB_enc {rs : List Int} (h : ∀ r ∈ rs, okR r) : rnB ⟨(encL rs).toArray⟩ = rs := by
  rw [rnB_L]; exact runes_enc rs h
theorem rnB_inj {a b : ByteArray} (ha : Lib.validD a.data.toList = true) (hb : Lib.validD b.data.toList = true) (h : rnB a = rnB b) : a = b := by
  rw [← enc_back ha, ← enc_back hb, h]
theorem rnB_le (s : ByteArray) : (rnB s).length ≤ s.size := rnFrom_le s s.size 0
theorem bytes_eq {a b : ByteArray} (h : a.toList = b.toList) : a = b := by
  rw [ByteArray.toList_eq, ByteArray.toList_eq] at h
  cases a; cases b
  simp only [Array.toList_inj] at h
  rw [h]
/-- Read, said shortly. -/
theorem read_is (s : ByteArray) (hs : s.size ≤ 100000) (w : World) (c : Nat) (A : Option Addr) (hc : s.size ≤ c) (hr : Rd w w.heap.size 1 A s.size (bys s.data.toList)) :
    Calls Tryd.prog 17 #[.slice A s.size c] w fun e w' => ∃ x, e = .returned (.agg #[x, .bool (Lib.validD s.data.toList)]) ∧ Below w.heap.size w w' := by
  refine (read_any A s.size c w.heap.size _ w hr hc (Nat.le_refl _) hs).mono ?_
  rintro e w' ⟨hb, ⟨hv, _, _, _, h, _⟩ | ⟨hv, h⟩⟩
  · exact ⟨_, by rw [hv]; exact h, hb⟩
  · exact ⟨_, by rw [hv]; exact h, hb⟩
/-- The conversion ahead of Read. -/
theorem conv_read (s : ByteArray) (w : World) :
    ∃ c w', (convert 9 46 (.string s)).run Tryd.prog w = .ok (.slice (some ⟨w.heap.size, 0, none⟩) s.size c) w' ∧ s.size ≤ c ∧ Rd w' w'.heap.size 1 (some ⟨w.heap.size, 0, none⟩) s.size (bys s.data.toList) ∧ Below w.heap.size w w' := by
  obtain ⟨c, w', h1, h2, h3, h4, h5⟩ := conv_str s w
  exact ⟨c, w', h1, h2, by rw [h5]; exact h3, h4⟩
/-- A quoted text is a right pattern. -/
theorem quoted_yes (s : ByteArray) (w : World) (hs : s.size ≤ 50) (hv : Lib.validD s.data.toList = true) (hT : UT w) :
    Calls Tryd.prog 10 #[.string ⟨(encL (quoteR (rnB s))).toArray⟩] w fun e w' => ∃ g, e = .returned (.tuple #[.pointer (some ⟨g, 0, none⟩), .int .i64 0]) ∧ GlM w' w'.heap.size g ((rnB s).map .lit) ∧ w.heap.size ≤ g ∧ Below w.heap.size w w' := by
  have hq := quoteR_ok (rnB_ok s)
  have hl : (encL (rnB s)).length = s.size := by rw [enc_back' hv, Array.length_toList]; rfl
  have hz : (⟨(encL (quoteR (rnB s))).toArray⟩ : ByteArray).size = (encL (quoteR (rnB s))).length := by show (Array.size _) = _; simp
  refine new_yes _ _ w ?_ (valid_enc _ hq) ?_ hT
  · rw [hz]; have := quote_len (rnB s); omega
  · rw [rnB_enc hq, hz]
    exact new_quoted _ _ (encL_len _).1
theorem quoted_head (s : ByteArray) (g B : Nat) (w : World) (hv : Lib.validD s.data.toList = true) (hs : s.size ≤ 50) (h : GlM w B g ((rnB s).map .lit)) (hB : B ≤ w.heap.size) :
    Calls Tryd.prog 15 #[.pointer (some ⟨g, 0, none⟩)] w fun e w' => e = .returned (.tuple #[.string s, .bool true]) ∧ Below w.heap.size w w' := by
  have := head_any g B _ w h hB (fun r hr => by
    rw [List.mem_map] at hr
    obtain ⟨x, hx, he⟩ := hr
    injection he with he
    subst he
    exact rnB_ok s _ hx) (by rw [List.length_map]; have := rnB_le s; omega)
  rw [head_lits, enc_back hv] at this
  exact this
theorem quoted_match (s t : ByteArray) (g B : Nat) (w : World) (h : GlM w B g ((rnB s).map .lit)) (hB : B ≤ w.heap.size) (ht : t.size ≤ 1000) (hv : Lib.validD s.data.toList = true) (hv2 : Lib.validD t.data.toList = true) :
    Calls Tryd.prog 11 #[.pointer (some ⟨g, 0, none⟩), .string t] w fun e w' => e = .returned (.bool (decide (t = s))) ∧ Below w.heap.size w w' := by
  have := match_any g B _ t w h hB ht
  rw [mt_lits] at this
  rwa [show (decide (t = s)) = decide (rnB t = rnB s) from by
    by_cases e : t = s
    · subst e; simp
    · rw [decide_eq_false e, decide_eq_false fun h => e (rnB_inj hv2 hv h)]]
theorem fld_is (x y : Value) (w : World) : (Instr.field 44 (.agg #[x, y]) 1).run Tryd.prog w = .ok y w := by kernel_rfl
theorem globQuotes_laid (W : World) (h : laidMet Tryd.prog Rows.globQuotesRow.laid W) : UT W := ut_of h
set_option maxHeartbeats 4000000 in
set_option maxRecDepth 100000 in
theorem globQuotes_walk (a b : ByteArray) (w : World) (_ : a.size ≤ maxLen) (_ : b.size ≤ maxLen) (hT : UT w) :
    Calls Tryd.prog 7 #[.string a, .string b] w fun e w' => e = .returned (.bool true) ∧ Below w.heap.size w w' := by
  have H1 := Lib.hid (gwakes_any w hT)
  by_cases ha : 50 < a.size
  · have ha' : (50 : Int) < (a.size : Int) := by omega
    clear hT
    go_enter Tryd.func7, Tryd.ntmps7
    go_wp2_with fail
    with_reducible refine H1.out.mono ?_
    rintro e w1 ⟨rfl, b1⟩
    have B1 := Lib.hid b1
    clear b1 H1
    go_wp2_with fail
    go_ret
    exact ⟨rfl, B1.out⟩
  have ha' : ¬ (50 : Int) < (a.size : Int) := by omega
  by_cases hb : 300 < b.size
  · have hb' : (300 : Int) < (b.size : Int) := by omega
    clear hT
    go_enter Tryd.func7, Tryd.ntmps7
    go_wp2_with fail
    with_reducible refine H1.out.mono ?_
    rintro e w1 ⟨rfl, b1⟩
    have B1 := Lib.hid b1
    clear b1 H1
    go_wp2_with fail
    go_ret
    exact ⟨rfl, B1.out⟩
  have hb' : ¬ (300 : Int) < (b.size : Int) := by omega
  have hfld := fld_is
  have RA := Lib.hid (read_is a (by omega))
  have RB := Lib.hid (read_is b (by omega))
  have Ha := Lib.hid (show a.size ≤ 50 from by omega)
  have Hb := Lib.hid (show b.size ≤ 300 from by omega)
  have HT := Lib.hid hT
  clear ha hb hT
  go_enter Tryd.func7, Tryd.ntmps7
  go_wp2_with fail
  with_reducible refine H1.out.mono ?_
  rintro e w1 ⟨rfl, b1⟩
  obtain ⟨c1, w2, q1, q2, q3, q4⟩ := conv_read a w1
  have Q2 := Lib.hid q2
  have Q3 := Lib.hid q3
  have B2 := Lib.hid (b1.trans (q4.mono b1.size))
  clear b1 H1 q2 q3 q4
  go_wp2_with fail
  with_reducible refine (RA.out w2 _ _ Q2.out Q3.out).mono ?_
  rintro e w3 ⟨x1, rfl, b3⟩
  have B3 := Lib.hid (B2.out.trans (b3.mono B2.out.size))
  clear b3 q1 RA B2 Q2 Q3
  by_cases hva : Lib.validD a.data.toList = true
  case neg =>
    have hva' : Lib.validD a.data.toList = false := by simpa using hva
    rw [hva']
    clear hva
    go_wp2_with fail
    go_ret
    exact ⟨rfl, B3.out⟩
  rw [hva]
  obtain ⟨c2, w4, q1, q2, q3, q4⟩ := conv_read b w3
  have Q2 := Lib.hid q2
  have Q3 := Lib.hid q3
  have B4 := Lib.hid (B3.out.trans (q4.mono B3.out.size))
  clear q2 q3 q4
  have Hva := Lib.hid hva
  clear hva
  go_wp2_with fail
  with_reducible refine (RB.out w4 _ _ Q2.out Q3.out).mono ?_
  rintro e w5 ⟨x2, rfl, b5⟩
  have B5 := Lib.hid (B4.out.trans (b5.mono B4.out.size))
  clear b5 q1 RB B4 Q2 Q3 B3
  by_cases hvb : Lib.validD b.data.toList = true
  case neg =>
    have hvb' : Lib.validD b.data.toList = false := by simpa using hvb
    rw [hvb']
    clear hvb
    go_wp2_with fail
    go_ret
    exact ⟨rfl, B5.out⟩
  rw [hvb]
  have Hvb := Lib.hid hvb
  clear hvb
  have HQ := Lib.hid (quote_any a w5 (by have := Ha.out; omega))
  go_wp2_with fail
  with_reducible refine HQ.out.mono ?_
  rintro e w6 ⟨rfl, b6⟩
  have B6 := Lib.hid (B5.out.trans (b6.mono B5.out.size))
  clear b6 HQ B5
  have HN := Lib.hid (quoted_yes a w6 Ha.out Hva.out (HT.out.below B6.out))
  generalize (⟨(encL (quoteR (rnB a))).toArray⟩ : ByteArray) = qa at HN ⊢
  go_wp2_with fail
  with_reducible refine HN.out.mono ?_
  rintro e w7 ⟨g, rfl, m7, _, b7⟩
  have M7 := Lib.hid m7
  have B7 := Lib.hid (B6.out.trans (b7.mono B6.out.size))
  clear m7 b7 HN B6
  have HH := Lib.hid (quoted_head a g _ w7 Hva.out Ha.out M7.out (Nat.le_refl _))
  go_wp2_with fail
  with_reducible refine HH.out.mono ?_
  rintro e w8 ⟨rfl, b8⟩
  have M8 := Lib.hid (M7.out.bl (Nat.le_refl _) b8)
  have hz8 := b8.size
  have B8 := Lib.hid (B7.out.trans (b8.mono B7.out.size))
  clear b8 HH B7 M7
  have HM := Lib.hid (quoted_match a a g _ w8 M8.out hz8 (by have := Ha.out; omega) Hva.out Hva.out)
  rw [decide_eq_true (rfl : a = a)] at HM
  go_wp2_with fail
  with_reducible refine HM.out.mono ?_
  rintro e w9 ⟨rfl, b9⟩
  have M9 := Lib.hid (M8.out.bl hz8 b9)
  have hz9 := b9.size
  have B9 := Lib.hid (B8.out.trans (b9.mono B8.out.size))
  clear b9 HM B8 M8
  have HM := Lib.hid (quoted_match a b g _ w9 M9.out (by omega) (by have := Hb.out; omega) Hva.out Hvb.out)
  by_cases hab : b = a
  · subst hab
    rw [decide_eq_true (rfl : b = b)] at HM
    go_wp2_with fail
    with_reducible refine HM.out.mono ?_
    rintro e w10 ⟨rfl, b10⟩
    have B10 := Lib.hid (B9.out.trans (b10.mono B9.out.size))
    clear b10 HM B9 M9
    go_wp2_with fail
    go_ret
    exact ⟨rfl, B10.out⟩
  · rw [decide_eq_false hab] at HM
    have hab1 : ¬ a = b := fun h => hab h.symm
    have hab2 : ¬ a.toList = b.toList := fun h => hab1 (bytes_eq h)
    go_wp2_with fail
    with_reducible refine HM.out.mono ?_
    rintro e w10 ⟨rfl, b10⟩
    have B10 := Lib.hid (B9.out.trans (b10.mono B9.out.size))
    clear b10 HM B9 M9
    go_wp2_with fail
    go_ret
    refine ⟨ret_bool ?_, B10.out⟩
    simp [hab2]
end Go.Proofs.YtbdehlphblbmoaaDoor
