/- The document's answer for record: Find. -/
import Derived.Test.YtbdehlphblbmoaaRec8
namespace Go.Proofs.Ytbdehlphblbmoaa
open Go.RowKit
attribute [local go_sem ↓] Go.wp_at_zero Go.wp_at_succ

/-- What the document's Find says. -/
def RFPost : Option ((Int × Int × Int) × Bool) → Ending → Prop
  | none, e => e = .returned (.agg #[.int .i64 0, .int .i64 0, .int .i64 0, .bool false, .bool false])
  | some t, e => e = .returned (.agg #[.int .i64 t.1.1, .int .i64 t.1.2.1, .int .i64 t.1.2.2, .bool t.2, .bool true])
set_option maxHeartbeats 1000000 in
theorem rfind_any (A : Option Addr) (n c : Nat) (L : List UInt8) (w : World) (hr : Rd w w.heap.size 1 A n (bys L)) (hnc : n ≤ c) (hn : n ≤ 1000000000) :
    Calls Try.prog 7 #[.slice A n c] w fun e w' => RFPost (findF L) e ∧ Below w.heap.size w w' := by
  have Hll := Lib.hid hr.blen
  have Hr := Lib.hid hr
  clear hr
  obtain ⟨lo, hlo⟩ : ∃ lo : Nat, lo = n - 65557 := ⟨_, rfl⟩
  have Hlo := Lib.hid hlo
  have hlo1 : n ≤ lo + 65557 := by omega
  have hlo2 : lo = 0 ∨ n = lo + 65557 := by omega
  have Hlo2 := Lib.hid hlo2
  clear hlo hlo2
  go_enter Try.func7, Try.ntmps7
  go_wp2_with fail
  go_loopw [3] (fun a wr => ∃ (j : Nat) (x : Int), a = .int .i64 x ∧ Hid (FI L n lo j x) ∧ x ≤ n ∧ -22 ≤ x ∧ Below w.heap.size w wr ∧ Bk wr w.heap.size 30 #[.int .i64 0, .int .i64 0, .int .i64 0, .bool false, .bool false]) (fun a _ => (intOf a + 100).toNat)
  case atStart =>
    obtain ⟨j, hj⟩ := FI_start Hll.out Hlo.out
    exact ⟨j, _, rfl, Lib.hid hj, by omega, by omega, (Below.refl _ _).alloc (Nat.le_refl _) _, Bk.new _ _ _⟩
  case round =>
    obtain ⟨j, x, rfl, hI, hxn, hx22, hbl, hrs⟩ := hrel
    have r0 : wr.cell? ⟨w.heap.size, 0, none⟩ = some (.int .i64 0) := hrs.cell 0
    have r1 : wr.cell? ⟨w.heap.size, 1, none⟩ = some (.int .i64 0) := hrs.cell 1
    have r2 : wr.cell? ⟨w.heap.size, 2, none⟩ = some (.int .i64 0) := hrs.cell 2
    have r3 : wr.cell? ⟨w.heap.size, 3, none⟩ = some (.bool false) := hrs.cell 3
    have r4 : wr.cell? ⟨w.heap.size, 4, none⟩ = some (.bool false) := hrs.cell 4
    have f0 := hrs.free 0
    have f1 := hrs.free 1
    have f2 := hrs.free 2
    have f3 := hrs.free 3
    have f4 := hrs.free 4
    have hlt := hrs.lt
    have Hres := Lib.hid (And.intro hbl hrs)
    have hz := hbl.size
    clear hbl hrs
    by_cases hx : x < lo
    · have Hf := Lib.hid (FI_end hI.out hx)
      clear hI
      by_cases hx0 : x < 0
      · go_wp2
        exact bodyPost_ret (v := .agg #[.int .i64 0, .int .i64 0, .int .i64 0, .bool false, .bool false]) (by simp [results, Try.results7, go_sem, r0, r1, r2, r3, r4]) rfl ⟨by rw [Hf.out]; exact rfl, below_set5 Hres.out.1 _ _ _ _ _⟩
      · have hd1 : decide ((n : Int) - 65557 ≤ x) = false := by have := Hlo2.out; simp; omega
        have hx1 : x < (n : Int) - 65557 := by have := Hlo2.out; omega
        go_wp2
        exact bodyPost_ret (v := .agg #[.int .i64 0, .int .i64 0, .int .i64 0, .bool false, .bool false]) (by simp [results, Try.results7, go_sem, r0, r1, r2, r3, r4]) rfl ⟨by rw [Hf.out]; exact rfl, below_set5 Hres.out.1 _ _ _ _ _⟩
    · obtain ⟨p, rfl, hp1, hp2, hst, hgo⟩ := FI_at hI.out hx
      have Hst := Lib.hid hst
      have Hgo := Lib.hid hgo
      have Hrr := Lib.hid ((Hr.out.below Hres.out.1 (Nat.le_refl _)).more hz)
      clear hst hgo hI hx
      have hs := signed_any A n c p 5 6 L wr Hrr.out hnc hn (by omega)
      rcases Bool.eq_false_or_eq_true (sgnB L p 5 6) with hsg | hsg
      · rw [hsg] at hs
        have Hs := Lib.hid hs
        have hstop : stopB L p = ((p : Int) + 22 + nAt L (p + 20) 2 == (n : Int)) := by unfold stopB; rw [hsg, Hll.out]; rfl
        have Hstop := Lib.hid hstop
        have bd := nAt_2 L (p + 20)
        have h1 := Lib.hid (at_num A n c (p + 20) 2 L wr Hrr.out hnc hn (by omega) (by omega) (by omega))
        clear hs hsg hstop
        generalize nAt L (p + 20) 2 = u at *
        go_wp2_with fail
        refine Hs.out.mono ?_
        rintro e w1 ⟨rfl, rfl⟩
        go_wp2_with fail
        refine h1.out.mono ?_
        rintro e w1 ⟨rfl, rfl⟩
        clear h1 Hs
        by_cases he : (p : Int) + 22 + u = n
        · have hne : (((p : Int) + 22 + u) != (n : Int)) = false := by simp [he]
          have Hf := Lib.hid (Hst.out (by rw [Hstop.out]; simp [he]))
          clear he
          have h1 := Lib.hid (at_num A n c (p + 10) 2 L wr Hrr.out hnc hn (by omega) (by omega) (by omega))
          have h2 := Lib.hid (at_num A n c (p + 12) 4 L wr Hrr.out hnc hn (by omega) (by omega) (by omega))
          have h3 := Lib.hid (at_num A n c (p + 16) 4 L wr Hrr.out hnc hn (by omega) (by omega) (by omega))
          have htl : tl L p = (nAt L (p + 10) 2, nAt L (p + 12) 4, nAt L (p + 16) 4) := rfl
          have ba := nAt_2 L (p + 10)
          have bb := nAt_4 L (p + 12)
          have bc := nAt_4 L (p + 16)
          have Htl := Lib.hid htl
          clear htl
          generalize nAt L (p + 10) 2 = x at *
          generalize nAt L (p + 12) 4 = y at *
          generalize nAt L (p + 16) 4 = z at *
          go_wp2_with fail
          refine h1.out.mono ?_
          rintro e w1 ⟨rfl, rfl⟩
          go_wp2_with fail
          refine h2.out.mono ?_
          rintro e w1 ⟨rfl, rfl⟩
          go_wp2_with fail
          refine h3.out.mono ?_
          rintro e w1 ⟨rfl, rfl⟩
          clear h1 h2 h3
          have hon : onesB (x, y, z) = (x == 65535 || (y == 4294967295 || z == 4294967295)) := rfl
          have Hon := Lib.hid hon
          have hrw : Rd (wr.alloc (.cells #[.int .i64 x, .int .i64 y, .int .i64 z, .bool false] 25)) (wr.alloc (.cells #[.int .i64 x, .int .i64 y, .int .i64 z, .bool false] 25)).heap.size 1 A n (bys L) := (Hrr.out.alloc (Nat.le_refl _) _).more (by simp)
          have hwd := rwide_any A n c p L _ hrw hnc hn (by omega)
          have Hwd := Lib.hid hwd
          clear hon hrw hwd
          by_cases hx1 : x = 65535
          · have hd1 : (x == 65535) = true := by simp [hx1]
            have Ho := Lib.hid (show onesB (x, y, z) = true by rw [Hon.out, hx1]; rfl)
            clear hx1
            have hrs : findF L = (wideF L p).map (·, true) := by rw [Hf.out]; unfold resAt; rw [Htl.out, Ho.out]; rfl
            have Hrs := Lib.hid hrs
            clear hrs
            go_wp2_with fail
            refine Hwd.out.mono ?_
            rintro e w9 ⟨hwp, hb9⟩
            have q8 := Bk.below (Bk.alloc Hres.out.2 _) hb9 (by simp <;> omega)
            have q0 : w9.cell? ⟨w.heap.size, 0, none⟩ = some (.int .i64 0) := q8.cell 0
            have q1 : w9.cell? ⟨w.heap.size, 1, none⟩ = some (.int .i64 0) := q8.cell 1
            have q2 : w9.cell? ⟨w.heap.size, 2, none⟩ = some (.int .i64 0) := q8.cell 2
            have q3 : w9.cell? ⟨w.heap.size, 3, none⟩ = some (.bool false) := q8.cell 3
            have q4 : w9.cell? ⟨w.heap.size, 4, none⟩ = some (.bool false) := q8.cell 4
            have k0 := q8.free 0
            have k1 := q8.free 1
            have k2 := q8.free 2
            have k3 := q8.free 3
            have k4 := q8.free 4
            have hlt9 := q8.lt
            have Hb9 := Lib.hid ((Hres.out.1.alloc hz _).trans (hb9.mono (by simp <;> omega)))
            have Q8 := Lib.hid q8
            clear hb9 q8 r0 r1 r2 r3 r4 f0 f1 f2 f3 f4 Hwd
            rcases hF : wideF L p with _ | ⟨a0, a1, a2⟩
            · rw [hF] at hwp Hrs
              obtain ⟨b0, b1, b2, b3, rfl⟩ := hwp
              clear hF
              go_wp2
              exact bodyPost_ret (v := .agg #[.int .i64 0, .int .i64 0, .int .i64 0, .bool false, .bool false]) (by simp [results, Try.results7, go_sem, q0, q1, q2, q3, q4, hlt9]) rfl ⟨by rw [Hrs.out]; exact rfl, by first | exact (below_set5 Hb9.out _ _ _ _ _).alloc (by simp <;> omega) _ | exact below_set5 (Hb9.out.alloc (by omega) _) _ _ _ _ _⟩
            · rw [hF] at hwp Hrs
              obtain rfl : e = .returned (.agg #[.int .i64 a0, .int .i64 a1, .int .i64 a2, .bool true, .bool true]) := hwp
              clear hF
              have hq := (((((Q8.out.set 0 (.int .i64 a0)).set 1 (.int .i64 a1)).set 2 (.int .i64 a2)).set 3 (.bool true)).set 4 (.bool true))
              simp only [List.setIfInBounds_toArray, List.set_cons_zero, List.set_cons_succ] at hq
              have Hq := Lib.hid hq
              clear hq
              go_wp2
              have s0 := Hq.out.cell 0
              have s1 := Hq.out.cell 1
              have s2 := Hq.out.cell 2
              have s3 := Hq.out.cell 3
              have s4 := Hq.out.cell 4
              exact bodyPost_ret (v := .agg #[.int .i64 a0, .int .i64 a1, .int .i64 a2, .bool true, .bool true]) (by simp [results, Try.results7, go_sem, s0, s1, s2, s3, s4, hlt9]) rfl ⟨by rw [Hrs.out]; exact rfl, by first | exact (below_set5 Hb9.out _ _ _ _ _).alloc (by simp <;> omega) _ | exact below_set5 (Hb9.out.alloc (by omega) _) _ _ _ _ _⟩
          · have hd1 : (x == 65535) = false := by simpa using hx1
            rw [hd1, Bool.false_or] at Hon
            clear hx1
            by_cases hx1 : y = 4294967295
            · have hd2 : (y == 4294967295) = true := by simp [hx1]
              have Ho := Lib.hid (show onesB (x, y, z) = true by rw [Hon.out, hx1]; rfl)
              clear hx1
              have hrs : findF L = (wideF L p).map (·, true) := by rw [Hf.out]; unfold resAt; rw [Htl.out, Ho.out]; rfl
              have Hrs := Lib.hid hrs
              clear hrs
              go_wp2_with fail
              refine Hwd.out.mono ?_
              rintro e w9 ⟨hwp, hb9⟩
              have q8 := Bk.below (Bk.alloc Hres.out.2 _) hb9 (by simp <;> omega)
              have q0 : w9.cell? ⟨w.heap.size, 0, none⟩ = some (.int .i64 0) := q8.cell 0
              have q1 : w9.cell? ⟨w.heap.size, 1, none⟩ = some (.int .i64 0) := q8.cell 1
              have q2 : w9.cell? ⟨w.heap.size, 2, none⟩ = some (.int .i64 0) := q8.cell 2
              have q3 : w9.cell? ⟨w.heap.size, 3, none⟩ = some (.bool false) := q8.cell 3
              have q4 : w9.cell? ⟨w.heap.size, 4, none⟩ = some (.bool false) := q8.cell 4
              have k0 := q8.free 0
              have k1 := q8.free 1
              have k2 := q8.free 2
              have k3 := q8.free 3
              have k4 := q8.free 4
              have hlt9 := q8.lt
              have Hb9 := Lib.hid ((Hres.out.1.alloc hz _).trans (hb9.mono (by simp <;> omega)))
              have Q8 := Lib.hid q8
              clear hb9 q8 r0 r1 r2 r3 r4 f0 f1 f2 f3 f4 Hwd
              rcases hF : wideF L p with _ | ⟨a0, a1, a2⟩
              · rw [hF] at hwp Hrs
                obtain ⟨b0, b1, b2, b3, rfl⟩ := hwp
                clear hF
                go_wp2
                exact bodyPost_ret (v := .agg #[.int .i64 0, .int .i64 0, .int .i64 0, .bool false, .bool false]) (by simp [results, Try.results7, go_sem, q0, q1, q2, q3, q4, hlt9]) rfl ⟨by rw [Hrs.out]; exact rfl, by first | exact (below_set5 Hb9.out _ _ _ _ _).alloc (by simp <;> omega) _ | exact below_set5 (Hb9.out.alloc (by omega) _) _ _ _ _ _⟩
              · rw [hF] at hwp Hrs
                obtain rfl : e = .returned (.agg #[.int .i64 a0, .int .i64 a1, .int .i64 a2, .bool true, .bool true]) := hwp
                clear hF
                have hq := (((((Q8.out.set 0 (.int .i64 a0)).set 1 (.int .i64 a1)).set 2 (.int .i64 a2)).set 3 (.bool true)).set 4 (.bool true))
                simp only [List.setIfInBounds_toArray, List.set_cons_zero, List.set_cons_succ] at hq
                have Hq := Lib.hid hq
                clear hq
                go_wp2
                have s0 := Hq.out.cell 0
                have s1 := Hq.out.cell 1
                have s2 := Hq.out.cell 2
                have s3 := Hq.out.cell 3
                have s4 := Hq.out.cell 4
                exact bodyPost_ret (v := .agg #[.int .i64 a0, .int .i64 a1, .int .i64 a2, .bool true, .bool true]) (by simp [results, Try.results7, go_sem, s0, s1, s2, s3, s4, hlt9]) rfl ⟨by rw [Hrs.out]; exact rfl, by first | exact (below_set5 Hb9.out _ _ _ _ _).alloc (by simp <;> omega) _ | exact below_set5 (Hb9.out.alloc (by omega) _) _ _ _ _ _⟩
            · have hd2 : (y == 4294967295) = false := by simpa using hx1
              rw [hd2, Bool.false_or] at Hon
              clear hx1
              by_cases hx1 : z = 4294967295
              · have hd3 : (z == 4294967295) = true := by simp [hx1]
                have Ho := Lib.hid (show onesB (x, y, z) = true by rw [Hon.out, hx1]; rfl)
                clear hx1
                have hrs : findF L = (wideF L p).map (·, true) := by rw [Hf.out]; unfold resAt; rw [Htl.out, Ho.out]; rfl
                have Hrs := Lib.hid hrs
                clear hrs
                go_wp2_with fail
                refine Hwd.out.mono ?_
                rintro e w9 ⟨hwp, hb9⟩
                have q8 := Bk.below (Bk.alloc Hres.out.2 _) hb9 (by simp <;> omega)
                have q0 : w9.cell? ⟨w.heap.size, 0, none⟩ = some (.int .i64 0) := q8.cell 0
                have q1 : w9.cell? ⟨w.heap.size, 1, none⟩ = some (.int .i64 0) := q8.cell 1
                have q2 : w9.cell? ⟨w.heap.size, 2, none⟩ = some (.int .i64 0) := q8.cell 2
                have q3 : w9.cell? ⟨w.heap.size, 3, none⟩ = some (.bool false) := q8.cell 3
                have q4 : w9.cell? ⟨w.heap.size, 4, none⟩ = some (.bool false) := q8.cell 4
                have k0 := q8.free 0
                have k1 := q8.free 1
                have k2 := q8.free 2
                have k3 := q8.free 3
                have k4 := q8.free 4
                have hlt9 := q8.lt
                have Hb9 := Lib.hid ((Hres.out.1.alloc hz _).trans (hb9.mono (by simp <;> omega)))
                have Q8 := Lib.hid q8
                clear hb9 q8 r0 r1 r2 r3 r4 f0 f1 f2 f3 f4 Hwd
                rcases hF : wideF L p with _ | ⟨a0, a1, a2⟩
                · rw [hF] at hwp Hrs
                  obtain ⟨b0, b1, b2, b3, rfl⟩ := hwp
                  clear hF
                  go_wp2
                  exact bodyPost_ret (v := .agg #[.int .i64 0, .int .i64 0, .int .i64 0, .bool false, .bool false]) (by simp [results, Try.results7, go_sem, q0, q1, q2, q3, q4, hlt9]) rfl ⟨by rw [Hrs.out]; exact rfl, by first | exact (below_set5 Hb9.out _ _ _ _ _).alloc (by simp <;> omega) _ | exact below_set5 (Hb9.out.alloc (by omega) _) _ _ _ _ _⟩
                · rw [hF] at hwp Hrs
                  obtain rfl : e = .returned (.agg #[.int .i64 a0, .int .i64 a1, .int .i64 a2, .bool true, .bool true]) := hwp
                  clear hF
                  have hq := (((((Q8.out.set 0 (.int .i64 a0)).set 1 (.int .i64 a1)).set 2 (.int .i64 a2)).set 3 (.bool true)).set 4 (.bool true))
                  simp only [List.setIfInBounds_toArray, List.set_cons_zero, List.set_cons_succ] at hq
                  have Hq := Lib.hid hq
                  clear hq
                  go_wp2
                  have s0 := Hq.out.cell 0
                  have s1 := Hq.out.cell 1
                  have s2 := Hq.out.cell 2
                  have s3 := Hq.out.cell 3
                  have s4 := Hq.out.cell 4
                  exact bodyPost_ret (v := .agg #[.int .i64 a0, .int .i64 a1, .int .i64 a2, .bool true, .bool true]) (by simp [results, Try.results7, go_sem, s0, s1, s2, s3, s4, hlt9]) rfl ⟨by rw [Hrs.out]; exact rfl, by first | exact (below_set5 Hb9.out _ _ _ _ _).alloc (by simp <;> omega) _ | exact below_set5 (Hb9.out.alloc (by omega) _) _ _ _ _ _⟩
              · have hd3 : (z == 4294967295) = false := by simpa using hx1
                have Ho := Lib.hid (show onesB (x, y, z) = false by rw [Hon.out]; simpa using hx1)
                have hrs : findF L = some ((x, y, z), false) := by rw [Hf.out]; unfold resAt; rw [Htl.out, Ho.out]; rfl
                have Hrs := Lib.hid hrs
                have hq := (((((Bk.alloc Hres.out.2 (.cells #[.int .i64 x, .int .i64 y, .int .i64 z, .bool false] 25)).set 0 (.int .i64 x)).set 1 (.int .i64 y)).set 2 (.int .i64 z)).set 3 (.bool false)).set 4 (.bool true)
                simp only [List.setIfInBounds_toArray, List.set_cons_zero, List.set_cons_succ] at hq
                have hq2 := (((((Hres.out.2).set 0 (.int .i64 x)).set 1 (.int .i64 y)).set 2 (.int .i64 z)).set 3 (.bool false)).set 4 (.bool true)
                simp only [List.setIfInBounds_toArray, List.set_cons_zero, List.set_cons_succ] at hq2
                have Hq := Lib.hid hq2
                clear hrs hx1 hq hq2
                go_wp2
                have s0 := Hq.out.cell 0
                have s1 := Hq.out.cell 1
                have s2 := Hq.out.cell 2
                have s3 := Hq.out.cell 3
                have s4 := Hq.out.cell 4
                exact bodyPost_ret (v := .agg #[.int .i64 x, .int .i64 y, .int .i64 z, .bool false, .bool true]) (by simp [results, Try.results7, go_sem, s0, s1, s2, s3, s4, hlt]) rfl ⟨by rw [Hrs.out]; exact rfl, by first | exact (below_set5 Hres.out.1 _ _ _ _ _).alloc (by simp <;> omega) _ | exact below_set5 (Hres.out.1.alloc (by omega) _) _ _ _ _ _⟩
        · have hne : (((p : Int) + 22 + u) != (n : Int)) = true := by rw [bne_iff_ne]; exact he
          have Hns := Lib.hid (show stopB L p = false by rw [Hstop.out]; simpa using he)
          clear he
          go_wp2
          go_roundw
          case rel => exact ⟨_, _, rfl, Lib.hid (Hgo.out Hns.out), by omega, by omega, Hres.out.1, Hres.out.2⟩
          case measure => simp [intOf]; omega
      · rw [hsg] at hs
        have Hs := Lib.hid hs
        have Hns := Lib.hid (show stopB L p = false by unfold stopB; rw [hsg]; rfl)
        clear hs hsg
        go_wp2_with fail
        refine Hs.out.mono ?_
        rintro e w1 ⟨rfl, rfl⟩
        go_wp2
        go_roundw
        case rel => exact ⟨_, _, rfl, Lib.hid (Hgo.out Hns.out), by omega, by omega, Hres.out.1, Hres.out.2⟩
        case measure => simp [intOf]; omega
end Go.Proofs.Ytbdehlphblbmoaa
