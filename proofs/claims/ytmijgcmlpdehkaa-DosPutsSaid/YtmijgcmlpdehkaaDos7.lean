/- The contract of the reference's Parse. -/
import Derived.Test.YtmijgcmlpdehkaaDos6
import Derived.Test.YtmijgcmlpdehkaaDosR
namespace Go.Proofs.Ytmijgcmlpdehkaa
open Go.RowKit

theorem nef {x c : Nat} {d : Int} (h : x = c) (hd : (c : Int) = d) : ((x : Int) != d) = false := by subst h hd; simp
/-- What the reference's Parse returns. -/
def RefPost (t : List UInt8) (e : Ending) : Prop := (MomT t ∧ e = .returned (.int .i64 (momN t))) ∨ (¬ MomT t ∧ e = .returned (.int .i64 (-1)))
set_option maxHeartbeats 1000000 in
theorem refparse_len (s : ByteArray) (w : World) (h : ¬ (s.size = 10 ∨ s.size = 19)) :
    Calls Try.prog 8 #[.string s] w fun e w' => RefPost s.data.toList e ∧ Below w.heap.size w w' := by
  have h10 : ((s.size : Int) != 10) = true := by rw [bne_iff_ne]; omega
  have h19 : ((s.size : Int) != 19) = true := by rw [bne_iff_ne]; omega
  have hno := mom_len s.data.toList (by simpa using h)
  have Hno := Lib.hid hno
  clear h hno
  go_enter Try.func8, Try.ntmps8
  go_wp2
  go_ret
  exact ⟨.inr ⟨Hno.out, rfl⟩, Below.refl _ _⟩
set_option maxHeartbeats 1000000 in
theorem refparse_10 (s : ByteArray) (w : World) (hn : 8 ≤ s.size) (h4 : (s[4]).toNat = 45) (h7 : (s[7]).toNat = 45) (h : s.size = 10) :
    Calls Try.prog 8 #[.string s] w fun e w' => RefPost s.data.toList e ∧ Below w.heap.size w w' := by
  have e10 : ((s.size : Int) != 10) = false := by rw [bne_eq_false_iff_eq]; omega
  have e19 : ((s.size : Int) == 19) = false := by rw [beq_eq_false_iff_ne]; omega
  have e4 := nef h4 (d := 45) rfl
  have e7 := nef h7 (d := 45) rfl
  have hln : s.data.toList.length = 10 := by simp; exact h
  obtain ⟨hm1, hm2⟩ := mom10 s.data.toList hln ((chr_get s 4 (by omega)).trans h4) ((chr_get s 7 (by omega)).trans h7)
  have hs : s.size ≤ 100 ∧ 10 ≤ s.size := by omega
  have Hm1 := Lib.hid hm1
  have Hm2 := Lib.hid hm2
  clear hm1 hm2 hln h4 h7 h
  go_enter Try.func8, Try.ntmps8
  go_wp2_with fail
  refine (refnum_any s 0 4 w (by omega) (by omega) hs.1).mono ?_
  rintro e w' ⟨rfl, rfl⟩
  go_wp2_with fail
  refine (refnum_any s 5 2 w (by omega) (by omega) hs.1).mono ?_
  rintro e w' ⟨rfl, rfl⟩
  go_wp2_with fail
  refine (refnum_any s 8 2 w (by omega) (by omega) hs.1).mono ?_
  rintro e w' ⟨rfl, rfl⟩
  clear e4 e7
  generalize numD s.data.toList 0 4 = n0 at *
  generalize numD s.data.toList 5 2 = n1 at *
  generalize numD s.data.toList 8 2 = n2 at *
  by_cases hR : Right6 n0 n1 n2 0 0 0
  · have hM := Hm1.out.2 hR
    have hN := Hm2.out hM
    have HM := Lib.hid hM
    have HN := Lib.hid hN
    have HR := Lib.hid hR
    clear hM hN hR
    go_wp2_with fail
    have hsix : Six (w.alloc (.cells #[.int .i64 n0, .int .i64 n1, .int .i64 n2, .int .i64 0, .int .i64 0, .int .i64 0] 3)) w.heap.size n0 n1 n2 0 0 0 := by
      have hb := Bk.new w 3 #[.int .i64 n0, .int .i64 n1, .int .i64 n2, .int .i64 0, .int .i64 0, .int .i64 0]
      exact ⟨hb.cell 0, hb.cell 1, hb.cell 2, hb.cell 3, hb.cell 4, hb.cell 5⟩
    refine (refnumber_yes _ 6 n0 n1 n2 0 0 0 _ hsix (by simp) HR.out).mono ?_
    rintro e w2 ⟨rfl, hb2⟩
    go_wp2
    go_ret
    exact ⟨.inl ⟨HM.out, ret_int (by rw [HN.out])⟩, ((Below.refl _ _).alloc (Nat.le_refl _) _).trans (hb2.mono (by simp))⟩
  · have hM : ¬ MomT s.data.toList := fun h => hR (Hm1.out.1 h)
    have HM := Lib.hid hM
    have HR := Lib.hid hR
    clear hM hR
    go_wp2_with fail
    have hsix : Six (w.alloc (.cells #[.int .i64 n0, .int .i64 n1, .int .i64 n2, .int .i64 0, .int .i64 0, .int .i64 0] 3)) w.heap.size n0 n1 n2 0 0 0 := by
      have hb := Bk.new w 3 #[.int .i64 n0, .int .i64 n1, .int .i64 n2, .int .i64 0, .int .i64 0, .int .i64 0]
      exact ⟨hb.cell 0, hb.cell 1, hb.cell 2, hb.cell 3, hb.cell 4, hb.cell 5⟩
    refine (refnumber_no _ 6 n0 n1 n2 0 0 0 _ hsix (by simp) HR.out).mono ?_
    rintro e w2 ⟨rfl, hb2⟩
    go_wp2
    go_ret
    exact ⟨.inr ⟨HM.out, rfl⟩, ((Below.refl _ _).alloc (Nat.le_refl _) _).trans (hb2.mono (by simp))⟩
theorem net {x c : Nat} {d : Int} (h : ¬ x = c) (hd : (c : Int) = d) : ((x : Int) != d) = true := by subst hd; rw [bne_iff_ne]; omega
set_option maxHeartbeats 1000000 in
/-- A separator of the date is wrong. -/
theorem refparse_date (s : ByteArray) (w : World) (hn : 10 ≤ s.size) (hL : ((s.size : Int) != 10) = false ∨ ((s.size : Int) != 10) = true ∧ ((s.size : Int) != 19) = false) (hno : ¬ MomT s.data.toList) (hb : ¬ (s[4]).toNat = 45 ∨ (s[4]).toNat = 45 ∧ ¬ (s[7]).toNat = 45) :
    Calls Try.prog 8 #[.string s] w fun e w' => RefPost s.data.toList e ∧ Below w.heap.size w w' := by
  have Hno := Lib.hid hno
  clear hno
  rcases hb with hb | ⟨hb, hb2⟩
  · have e4 := net hb (d := 45) rfl
    clear hb
    rcases hL with h1 | ⟨h1, h2⟩
    all_goals
      go_enter Try.func8, Try.ntmps8
      go_wp2
      go_ret
      exact ⟨.inr ⟨Hno.out, rfl⟩, Below.refl _ _⟩
  · have e4 := nef hb (d := 45) rfl
    have e7 := net hb2 (d := 45) rfl
    clear hb hb2
    rcases hL with h1 | ⟨h1, h2⟩
    all_goals
      go_enter Try.func8, Try.ntmps8
      go_wp2
      go_ret
      exact ⟨.inr ⟨Hno.out, rfl⟩, Below.refl _ _⟩
set_option maxHeartbeats 1000000 in
/-- A separator of the time is wrong. -/
theorem refparse_time (s : ByteArray) (w : World) (hn : 19 ≤ s.size) (h4 : (s[4]).toNat = 45) (h7 : (s[7]).toNat = 45) (hno : ¬ MomT s.data.toList)
    (hb : ¬ (s[10]).toNat = 32 ∨ (s[10]).toNat = 32 ∧ ¬ (s[13]).toNat = 58 ∨ (s[10]).toNat = 32 ∧ (s[13]).toNat = 58 ∧ ¬ (s[16]).toNat = 58) (h : s.size = 19) :
    Calls Try.prog 8 #[.string s] w fun e w' => RefPost s.data.toList e ∧ Below w.heap.size w w' := by
  have e10 : ((s.size : Int) != 10) = true := by rw [bne_iff_ne]; omega
  have e19 : ((s.size : Int) != 19) = false := by rw [bne_eq_false_iff_eq]; omega
  have e19b : ((s.size : Int) == 19) = true := by rw [beq_iff_eq]; omega
  have e4 := nef h4 (d := 45) rfl
  have e7 := nef h7 (d := 45) rfl
  have hs : s.size ≤ 100 := by omega
  have Hno := Lib.hid hno
  clear hno h4 h7 h
  have hbb := hb.imp (fun h => net h (d := 32) rfl) (fun h => h.imp (fun h => And.intro (nef h.1 (d := 32) rfl) (net h.2 (d := 58) rfl)) (fun h => And.intro (nef h.1 (d := 32) rfl) (And.intro (nef h.2.1 (d := 58) rfl) (net h.2.2 (d := 58) rfl))))
  clear hb
  rcases hbb with g1 | ⟨g1, g2⟩ | ⟨g1, g2, g3⟩
  all_goals
    go_enter Try.func8, Try.ntmps8
    go_wp2_with fail
    refine (refnum_any s 0 4 w (by omega) (by omega) hs).mono ?_
    rintro e w' ⟨rfl, rfl⟩
    go_wp2_with fail
    refine (refnum_any s 5 2 w (by omega) (by omega) hs).mono ?_
    rintro e w' ⟨rfl, rfl⟩
    go_wp2_with fail
    refine (refnum_any s 8 2 w (by omega) (by omega) hs).mono ?_
    rintro e w' ⟨rfl, rfl⟩
    go_wp2
    go_ret
    exact ⟨.inr ⟨Hno.out, rfl⟩, (Below.refl _ _).alloc (Nat.le_refl _) _⟩
set_option maxHeartbeats 2000000 in
theorem refparse_19 (s : ByteArray) (w : World) (hn : 19 ≤ s.size) (h4 : (s[4]).toNat = 45) (h7 : (s[7]).toNat = 45) (h10 : (s[10]).toNat = 32) (h13 : (s[13]).toNat = 58) (h16 : (s[16]).toNat = 58) (h : s.size = 19) :
    Calls Try.prog 8 #[.string s] w fun e w' => RefPost s.data.toList e ∧ Below w.heap.size w w' := by
  have e10 : ((s.size : Int) != 10) = true := by rw [bne_iff_ne]; omega
  have e19 : ((s.size : Int) != 19) = false := by rw [bne_eq_false_iff_eq]; omega
  have e19b : ((s.size : Int) == 19) = true := by rw [beq_iff_eq]; omega
  have e4 := nef h4 (d := 45) rfl
  have e7 := nef h7 (d := 45) rfl
  have g1 := nef h10 (d := 32) rfl
  have g2 := nef h13 (d := 58) rfl
  have g3 := nef h16 (d := 58) rfl
  have hln : s.data.toList.length = 19 := by simp; exact h
  obtain ⟨hm1, hm2⟩ := mom19 s.data.toList hln ((chr_get s 4 (by omega)).trans h4) ((chr_get s 7 (by omega)).trans h7) ((chr_get s 10 (by omega)).trans h10) ((chr_get s 13 (by omega)).trans h13) ((chr_get s 16 (by omega)).trans h16)
  have hs : s.size ≤ 100 := by omega
  have Hm1 := Lib.hid hm1
  have Hm2 := Lib.hid hm2
  clear hm1 hm2 hln h4 h7 h10 h13 h16 h
  go_enter Try.func8, Try.ntmps8
  go_wp2_with fail
  refine (refnum_any s 0 4 w (by omega) (by omega) hs).mono ?_
  rintro e w' ⟨rfl, rfl⟩
  go_wp2_with fail
  refine (refnum_any s 5 2 w (by omega) (by omega) hs).mono ?_
  rintro e w' ⟨rfl, rfl⟩
  go_wp2_with fail
  refine (refnum_any s 8 2 w (by omega) (by omega) hs).mono ?_
  rintro e w' ⟨rfl, rfl⟩
  generalize numD s.data.toList 0 4 = n0 at *
  generalize numD s.data.toList 5 2 = n1 at *
  generalize numD s.data.toList 8 2 = n2 at *
  go_wp2_with fail
  refine (refnum_any s 11 2 _ (by omega) (by omega) hs).mono ?_
  rintro e w' ⟨rfl, rfl⟩
  go_wp2_with fail
  refine (refnum_any s 14 2 _ (by omega) (by omega) hs).mono ?_
  rintro e w' ⟨rfl, rfl⟩
  go_wp2_with fail
  refine (refnum_any s 17 2 _ (by omega) (by omega) hs).mono ?_
  rintro e w' ⟨rfl, rfl⟩
  clear e4 e7 g1 g2 g3
  generalize numD s.data.toList 11 2 = n3 at *
  generalize numD s.data.toList 14 2 = n4 at *
  generalize numD s.data.toList 17 2 = n5 at *
  by_cases hR : Right6 n0 n1 n2 n3 n4 n5
  · have hM := Hm1.out.2 hR
    have hN := Hm2.out hM
    have HM := Lib.hid hM
    have HN := Lib.hid hN
    have HR := Lib.hid hR
    clear hM hN hR
    go_wp2_with fail
    have hsix : Six (w.alloc (.cells #[.int .i64 n0, .int .i64 n1, .int .i64 n2, .int .i64 n3, .int .i64 n4, .int .i64 n5] 3)) w.heap.size n0 n1 n2 n3 n4 n5 := by
      have hb := Bk.new w 3 #[.int .i64 n0, .int .i64 n1, .int .i64 n2, .int .i64 n3, .int .i64 n4, .int .i64 n5]
      exact ⟨hb.cell 0, hb.cell 1, hb.cell 2, hb.cell 3, hb.cell 4, hb.cell 5⟩
    refine (refnumber_yes _ 6 n0 n1 n2 n3 n4 n5 _ hsix (by simp) HR.out).mono ?_
    rintro e w2 ⟨rfl, hb2⟩
    go_wp2
    go_ret
    exact ⟨.inl ⟨HM.out, ret_int (by rw [HN.out])⟩, ((Below.refl _ _).alloc (Nat.le_refl _) _).trans (hb2.mono (by simp))⟩
  · have hM : ¬ MomT s.data.toList := fun h => hR (Hm1.out.1 h)
    have HM := Lib.hid hM
    have HR := Lib.hid hR
    clear hM hR
    go_wp2_with fail
    have hsix : Six (w.alloc (.cells #[.int .i64 n0, .int .i64 n1, .int .i64 n2, .int .i64 n3, .int .i64 n4, .int .i64 n5] 3)) w.heap.size n0 n1 n2 n3 n4 n5 := by
      have hb := Bk.new w 3 #[.int .i64 n0, .int .i64 n1, .int .i64 n2, .int .i64 n3, .int .i64 n4, .int .i64 n5]
      exact ⟨hb.cell 0, hb.cell 1, hb.cell 2, hb.cell 3, hb.cell 4, hb.cell 5⟩
    refine (refnumber_no _ 6 n0 n1 n2 n3 n4 n5 _ hsix (by simp) HR.out).mono ?_
    rintro e w2 ⟨rfl, hb2⟩
    go_wp2
    go_ret
    exact ⟨.inr ⟨HM.out, rfl⟩, ((Below.refl _ _).alloc (Nat.le_refl _) _).trans (hb2.mono (by simp))⟩
theorem refparse_any (s : ByteArray) (w : World) : Calls Try.prog 8 #[.string s] w fun e w' => RefPost s.data.toList e ∧ Below w.heap.size w w' := by
  by_cases hl : s.size = 10 ∨ s.size = 19
  · have hln : s.data.toList.length = s.size := by simp
    have hn : 10 ≤ s.size := by omega
    have hL : ((s.size : Int) != 10) = false ∨ ((s.size : Int) != 10) = true ∧ ((s.size : Int) != 19) = false := by rcases hl with h | h <;> rw [h] <;> decide
    by_cases h4 : (s[4]).toNat = 45
    · by_cases h7 : (s[7]).toNat = 45
      · by_cases h10 : s.size = 10
        · exact refparse_10 s w (by omega) h4 h7 h10
        · have h19 : s.size = 19 := by omega
          have hn19 : 19 ≤ s.size := by omega
          by_cases k10 : (s[10]).toNat = 32
          · by_cases k13 : (s[13]).toNat = 58
            · by_cases k16 : (s[16]).toNat = 58
              · exact refparse_19 s w hn19 h4 h7 k10 k13 k16 h19
              · exact refparse_time s w hn19 h4 h7 (mom_sep _ 16 58 (by omega) rfl (by decide) (by rw [chr_get s 16 (by omega)]; exact k16)) (.inr (.inr ⟨k10, k13, k16⟩)) h19
            · exact refparse_time s w hn19 h4 h7 (mom_sep _ 13 58 (by omega) rfl (by decide) (by rw [chr_get s 13 (by omega)]; exact k13)) (.inr (.inl ⟨k10, k13⟩)) h19
          · exact refparse_time s w hn19 h4 h7 (mom_sep _ 10 32 (by omega) rfl (by decide) (by rw [chr_get s 10 (by omega)]; exact k10)) (.inl k10) h19
      · exact refparse_date s w hn hL (mom_sep _ 7 45 (by omega) rfl (by decide) (by rw [chr_get s 7 (by omega)]; exact h7)) (.inr ⟨h4, h7⟩)
    · exact refparse_date s w hn hL (mom_sep _ 4 45 (by omega) rfl (by decide) (by rw [chr_get s 4 (by omega)]; exact h4)) (.inl h4)
  · exact refparse_len s w hl
end Go.Proofs.Ytmijgcmlpdehkaa
