/- Contract of package record: Find. -/
import Derived.Test.YtbdehlphblbmoaaRec5
namespace Go.Proofs.Ytbdehlphblbmoaa
open Go.RowKit
attribute [local go_sem ↓] Go.wp_at_zero Go.wp_at_succ

/-- What Find says. -/
def FPost : Option ((Int × Int × Int) × Bool) → Ending → Prop
  | none, e => e = .returned (.tuple #[.agg #[.int .i64 0, .int .i64 0, .int .i64 0, .bool false], .int .i64 4])
  | some t, e => e = .returned (.tuple #[.agg #[.int .i64 t.1.1, .int .i64 t.1.2.1, .int .i64 t.1.2.2, .bool t.2], .int .i64 0])
/-- What stands at the loop's head: the place, how many are still to be looked at. -/
def FI (L : List UInt8) (n lo j : Nat) (x : Int) : Prop := findF L = findD L lo j ∧ (j = 0 → x < lo) ∧ (0 < j → x = (lo : Int) + j - 1 ∧ lo + j + 21 ≤ n)
theorem FI_start {L : List UInt8} {n lo : Nat} (h : L.length = n) (hlo : lo = n - 65557) : ∃ j, FI L n lo j ((n : Int) - 22) := by
  unfold FI findF
  rw [h]
  by_cases hn : n < 22
  · exact ⟨0, by rw [if_pos hn]; rfl, by omega, by omega⟩
  · exact ⟨n - 21 - lo, by rw [if_neg hn, hlo], by omega, by omega⟩
theorem FI_end {L : List UInt8} {n lo j : Nat} {x : Int} (h : FI L n lo j x) (hx : x < lo) : findF L = none := by
  obtain ⟨h1, h2, h3⟩ := h
  have : j = 0 := by
    rcases Nat.eq_zero_or_pos j with h0 | h0
    · exact h0
    · have := h3 h0; omega
  rw [h1, this]; rfl
theorem FI_at {L : List UInt8} {n lo j : Nat} {x : Int} (h : FI L n lo j x) (hx : ¬ x < lo) :
    ∃ p : Nat, x = p ∧ lo ≤ p ∧ p + 22 ≤ n ∧ (stopB L p = true → findF L = resAt L p) ∧ (stopB L p = false → FI L n lo (p - lo) ((p : Int) - 1)) := by
  obtain ⟨h1, h2, h3⟩ := h
  have hj : 0 < j := by
    rcases Nat.eq_zero_or_pos j with h0 | h0
    · exact absurd (h2 h0) hx
    · exact h0
  obtain ⟨k, rfl⟩ : ∃ k, j = k + 1 := ⟨j - 1, by omega⟩
  have h4 := h3 hj
  refine ⟨lo + k, by omega, by omega, by omega, fun hs => ?_, fun hs => ?_⟩
  · rw [h1]; show (if stopB L (lo + k) = true then resAt L (lo + k) else findD L lo k) = _; rw [if_pos hs]
  · have e : lo + k - lo = k := by omega
    rw [e]
    refine ⟨?_, by omega, by omega⟩
    rw [h1]; show (if stopB L (lo + k) = true then resAt L (lo + k) else findD L lo k) = _; rw [hs]; rfl
set_option maxHeartbeats 1000000 in
theorem find_any (A : Option Addr) (n c : Nat) (L : List UInt8) (w : World) (hr : Rd w w.heap.size 1 A n (bys L)) (hnc : n ≤ c) (hn : n ≤ 1000000000) :
    Calls Try.prog 6 #[.slice A n c] w fun e w' => FPost (findF L) e ∧ Below w.heap.size w w' := by
  have Hll := Lib.hid hr.blen
  have Hr := Lib.hid hr
  clear hr
  obtain ⟨lo, hlo⟩ : ∃ lo : Nat, (if (65535 : Int) < (n : Int) - 22 then (n : Int) - 22 - 65535 else 0) = (lo : Int) := ⟨n - 65557, by split <;> omega⟩
  have hlo2 := hlo
  have hlo3 : lo = n - 65557 := by split at hlo2 <;> omega
  have Hlo := Lib.hid hlo3
  clear hlo2 hlo3
  go_enter Try.func6, Try.ntmps6
  go_wp2_with fail
  clear hlo
  go_loopw [5] (fun a wr => ∃ (j : Nat) (x : Int), a = .int .i64 x ∧ Hid (FI L n lo j x) ∧ x ≤ n ∧ Below w.heap.size w wr ∧ Bk wr w.heap.size 25 #[.int .i64 0, .int .i64 0, .int .i64 0, .bool false]) (fun a _ => (intOf a - lo + 1).toNat)
  case atStart =>
    obtain ⟨j, hj⟩ := FI_start Hll.out Hlo.out
    exact ⟨j, _, rfl, Lib.hid hj, by omega, (Below.refl _ _).alloc (Nat.le_refl _) _, Bk.new _ _ _⟩
  case round =>
    obtain ⟨j, x, rfl, hI, hxn, hbl, hrs⟩ := hrel
    by_cases hx : x < lo
    · have Hf := Lib.hid (FI_end hI.out hx)
      have r0 : wr.cell? ⟨w.heap.size, 0, none⟩ = some (.int .i64 0) := hrs.cell 0
      have r1 : wr.cell? ⟨w.heap.size, 1, none⟩ = some (.int .i64 0) := hrs.cell 1
      have r2 : wr.cell? ⟨w.heap.size, 2, none⟩ = some (.int .i64 0) := hrs.cell 2
      have r3 : wr.cell? ⟨w.heap.size, 3, none⟩ = some (.bool false) := hrs.cell 3
      have f0 := hrs.free 0
      have f1 := hrs.free 1
      have f2 := hrs.free 2
      have f3 := hrs.free 3
      have Hbl := Lib.hid hbl
      clear hbl hrs hI
      go_wp2
      exact bodyPost_ret (v := .tuple #[.agg #[.int .i64 0, .int .i64 0, .int .i64 0, .bool false], .int .i64 4]) (by simp [results, Try.results6, go_sem, r0, r1, r2, r3]) rfl ⟨by rw [Hf.out]; exact rfl, below_set4 Hbl.out _ _ _ _⟩
    · obtain ⟨p, rfl, hp1, hp2, hst, hgo⟩ := FI_at hI.out hx
      have Hst := Lib.hid hst
      have Hgo := Lib.hid hgo
      have hrz := hrs.lt
      clear hst hgo hI hx
      go_wp2_with fail
      refine (tail_any _).mono ?_
      rintro e w1 ⟨rfl, hb1⟩
      have v1 : Wd w w1 A n c wr.heap.size p 0 := ⟨(hbl.alloc (by omega) _).trans (hb1.mono (by simp <;> omega)),
          Bk.below (Bk.alloc hrs _) hb1 (by simp <;> omega), Bk.below (Bk.new' _ _ _ (by simp)) hb1 (by simp), hrz⟩
      have hs := rsign_any wr.heap.size A n c p 5 6 L w1 v1.rd (v1.rb Hr.out) hnc hn
      have V1 := Lib.hid v1
      clear v1 hb1 hbl hrs hrz
      generalize wr.heap.size = g at *
      go_wp2_with fail
      refine hs.mono ?_
      rintro e w2 ⟨rfl, p2, e2, hr2, hc2, hor⟩
      have v2 := V1.out.ch hc2 hr2
      clear hs hr2 hc2 V1
      rcases hor with ⟨_, hsg, rfl, rfl⟩ | ⟨hno, he2⟩
      · have Hsg := Lib.hid hsg
        clear hsg
        have hq := num_ok g A n c (p + 4) 4 L w2 v2.rd (v2.rb Hr.out) hnc hn (by omega) (by omega)
        have V := Lib.hid v2
        clear v2
        go_wp2_with fail
        refine hq.mono ?_
        rintro e w3 ⟨rfl, hq1, hq2⟩
        have v2 := V.out.ch hq2 hq1
        rw [show p + 4 + 4 = p + 8 by omega] at v2
        clear hq hq1 hq2 V
        have hq := num_ok g A n c (p + 8) 2 L w3 v2.rd (v2.rb Hr.out) hnc hn (by omega) (by omega)
        have V := Lib.hid v2
        clear v2
        go_wp2_with fail
        refine hq.mono ?_
        rintro e w4 ⟨rfl, hq1, hq2⟩
        have v2 := V.out.ch hq2 hq1
        rw [show p + 8 + 2 = p + 10 by omega] at v2
        clear hq hq1 hq2 V
        have hq := num_ok g A n c (p + 10) 2 L w4 v2.rd (v2.rb Hr.out) hnc hn (by omega) (by omega)
        have V := Lib.hid v2
        clear v2
        go_wp2_with fail
        refine hq.mono ?_
        rintro e w5 ⟨rfl, hq1, hq2⟩
        have v2 := V.out.ch hq2 hq1
        rw [show p + 10 + 2 = p + 12 by omega] at v2
        clear hq hq1 hq2 V
        have hq := num_ok g A n c (p + 12) 4 L w5 v2.rd (v2.rb Hr.out) hnc hn (by omega) (by omega)
        have V := Lib.hid v2
        clear v2
        go_wp2_with fail
        refine hq.mono ?_
        rintro e w6 ⟨rfl, hq1, hq2⟩
        have v2 := V.out.ch hq2 hq1
        rw [show p + 12 + 4 = p + 16 by omega] at v2
        clear hq hq1 hq2 V
        have hq := num_ok g A n c (p + 16) 4 L w6 v2.rd (v2.rb Hr.out) hnc hn (by omega) (by omega)
        have V := Lib.hid v2
        clear v2
        go_wp2_with fail
        refine hq.mono ?_
        rintro e w7 ⟨rfl, hq1, hq2⟩
        have v2 := V.out.ch hq2 hq1
        rw [show p + 16 + 4 = p + 20 by omega] at v2
        clear hq hq1 hq2 V
        have htl : tl L p = (nAt L (p + 10) 2, nAt L (p + 12) 4, nAt L (p + 16) 4) := rfl
        have hstop : stopB L p = ((p : Int) + 22 + nAt L (p + 20) 2 == (n : Int)) := by unfold stopB; rw [Hsg.out, Hll.out]; rfl
        have ba := nAt_2 L (p + 10)
        have bb := nAt_4 L (p + 12)
        have bc := nAt_4 L (p + 16)
        have bd := nAt_2 L (p + 20)
        have hq := num_ok g A n c (p + 20) 2 L (w7.alloc (.cells #[.int .i64 (nAt L (p + 10) 2), .int .i64 (nAt L (p + 12) 4), .int .i64 (nAt L (p + 16) 4), .bool false] 25)) (Bk.alloc v2.rd _) (((v2.rb Hr.out).alloc (Nat.le_refl _) _).more (by simp)) hnc hn (by omega) (by omega)
        have Htl := Lib.hid htl
        have Hstop := Lib.hid hstop
        have Hq := Lib.hid hq
        clear htl hstop hq
        generalize nAt L (p + 10) 2 = x at *
        generalize nAt L (p + 12) 4 = y at *
        generalize nAt L (p + 16) 4 = z at *
        generalize nAt L (p + 20) 2 = u at *
        have V := Lib.hid v2
        clear v2
        go_wp2_with fail
        refine Hq.out.mono ?_
        rintro e w8 ⟨rfl, hq1, hq2⟩
        have hgl7 := RR.lt V.out.rd
        have c1 : w8.cell? ⟨g, 1, none⟩ = some (.int .i64 ((p : Int) + 22)) := Bk.cell hq1 1
        have c2 : w8.cell? ⟨g, 2, none⟩ = some (.int .i64 0) := Bk.cell hq1 2
        have ht8 := (Bk.new w7 25 #[.int .i64 x, .int .i64 y, .int .i64 z, .bool false]).ch hq2 (fun h => by have : w7.heap.size = g := h; omega)
        have hz7 := V.out.bl.size
        have hgt := V.out.gt
        have hres : Below w.heap.size w w8 ∧ Bk w8 w.heap.size 25 #[.int .i64 0, .int .i64 0, .int .i64 0, .bool false] :=
          ⟨(V.out.bl.alloc hz7 _).trans (hq2.below (by simp <;> omega) (fun i hi => by have : i = g := hi; omega)), Bk.ch (Bk.alloc V.out.rs _) hq2 (fun h => by have : w.heap.size = g := h; omega)⟩
        have t0 : w8.cell? ⟨w7.heap.size, 0, none⟩ = some (.int .i64 x) := ht8.cell 0
        have t1 : w8.cell? ⟨w7.heap.size, 1, none⟩ = some (.int .i64 y) := ht8.cell 1
        have t2 : w8.cell? ⟨w7.heap.size, 2, none⟩ = some (.int .i64 z) := ht8.cell 2
        have t3 : w8.cell? ⟨w7.heap.size, 3, none⟩ = some (.bool false) := ht8.cell 3
        have hz8 := hres.1.size
        have hz9 := hq2.size
        have r0 : w8.cell? ⟨w.heap.size, 0, none⟩ = some (.int .i64 0) := hres.2.cell 0
        have r1 : w8.cell? ⟨w.heap.size, 1, none⟩ = some (.int .i64 0) := hres.2.cell 1
        have r2 : w8.cell? ⟨w.heap.size, 2, none⟩ = some (.int .i64 0) := hres.2.cell 2
        have r3 : w8.cell? ⟨w.heap.size, 3, none⟩ = some (.bool false) := hres.2.cell 3
        have f0 := hres.2.free 0
        have f1 := hres.2.free 1
        have f2 := hres.2.free 2
        have f3 := hres.2.free 3
        have hlt8 := hres.2.lt
        have Hres := Lib.hid hres
        clear hq1 hq2 Hq V ht8 hres hz7
        by_cases he : (p : Int) + 22 + u = n
        · have hne : (((p : Int) + 22 + u) != (n : Int)) = false := by simp [he]
          have Hf := Lib.hid (Hst.out (by rw [Hstop.out]; simp [he]))
          have Hr8 := Lib.hid ((Hr.out.below Hres.out.1 (Nat.le_refl _)).more hz8)
          have Hhe := Lib.hid he
          clear he
          have hon : onesB (x, y, z) = (x == 65535 || (y == 4294967295 || z == 4294967295)) := rfl
          have Hon := Lib.hid hon
          clear hon
          by_cases hx1 : x = 65535
          · have hd1 : (x != 65535) = false := by simp [hx1]
            have Ho := Lib.hid (show onesB (x, y, z) = true by rw [Hon.out, hx1]; rfl)
            clear hx1
            have hwd := widest_any A n c p L w8 Hr8.out hnc hn (by omega)
            have hrs : findF L = (wideF L p).map (·, true) := by rw [Hf.out]; unfold resAt; rw [Htl.out, Ho.out]; rfl
            have Hrs := Lib.hid hrs
            clear hrs
            go_wp2_with fail
            refine hwd.mono ?_
            rintro e w9 ⟨hwp, hb9⟩
            clear hwd
            have q8 := Bk.below Hres.out.2 hb9 hlt8
            have q0 : w9.cell? ⟨w.heap.size, 0, none⟩ = some (.int .i64 0) := q8.cell 0
            have q1 : w9.cell? ⟨w.heap.size, 1, none⟩ = some (.int .i64 0) := q8.cell 1
            have q2 : w9.cell? ⟨w.heap.size, 2, none⟩ = some (.int .i64 0) := q8.cell 2
            have q3 : w9.cell? ⟨w.heap.size, 3, none⟩ = some (.bool false) := q8.cell 3
            have k0 := q8.free 0
            have k1 := q8.free 1
            have k2 := q8.free 2
            have k3 := q8.free 3
            have hlt9 := q8.lt
            have Hb9 := Lib.hid (Hres.out.1.trans (hb9.mono hz8))
            have Q8 := Lib.hid q8
            clear hb9 q8 t0 t1 t2 t3 r0 r1 r2 r3 f0 f1 f2 f3
            rcases hF : wideF L p with _ | ⟨a0, a1, a2⟩
            · rw [hF] at hwp Hrs
              obtain ⟨b0, b1, b2, b3, rfl⟩ := hwp
              clear hF
              go_wp2
              exact bodyPost_ret (v := .tuple #[.agg #[.int .i64 0, .int .i64 0, .int .i64 0, .bool false], .int .i64 4]) (by simp [results, Try.results6, go_sem, q0, q1, q2, q3, hlt9]) rfl ⟨by rw [Hrs.out]; exact rfl, by first | exact (below_set4 Hb9.out _ _ _ _).alloc (by simp <;> omega) _ | exact below_set4 (Hb9.out.alloc (by omega) _) _ _ _ _⟩
            · rw [hF] at hwp Hrs
              obtain rfl : e = .returned (.tuple #[.agg #[.int .i64 a0, .int .i64 a1, .int .i64 a2, .bool true], .bool true]) := hwp
              clear hF
              have hq := ((((Q8.out.set 0 (.int .i64 a0)).set 1 (.int .i64 a1)).set 2 (.int .i64 a2)).set 3 (.bool true))
              simp only [List.setIfInBounds_toArray, List.set_cons_zero, List.set_cons_succ] at hq
              have Hq := Lib.hid hq
              clear hq
              go_wp2
              have s0 := Hq.out.cell 0
              have s1 := Hq.out.cell 1
              have s2 := Hq.out.cell 2
              have s3 := Hq.out.cell 3
              exact bodyPost_ret (v := .tuple #[.agg #[.int .i64 a0, .int .i64 a1, .int .i64 a2, .bool true], .int .i64 0]) (by simp [results, Try.results6, go_sem, s0, s1, s2, s3, hlt9]) rfl ⟨by rw [Hrs.out]; exact rfl, by first | exact (below_set4 Hb9.out _ _ _ _).alloc (by simp <;> omega) _ | exact below_set4 (Hb9.out.alloc (by omega) _) _ _ _ _⟩
          · have hd1 : (x != 65535) = true := by rw [bne_iff_ne]; exact hx1
            have hd1' : (x == 65535) = false := by simpa using hx1
            rw [hd1', Bool.false_or] at Hon
            clear hx1 hd1'
            by_cases hx1 : y = 4294967295
            · have hd2 : (y != 4294967295) = false := by simp [hx1]
              have Ho := Lib.hid (show onesB (x, y, z) = true by rw [Hon.out, hx1]; rfl)
              clear hx1
              have hwd := widest_any A n c p L w8 Hr8.out hnc hn (by omega)
              have hrs : findF L = (wideF L p).map (·, true) := by rw [Hf.out]; unfold resAt; rw [Htl.out, Ho.out]; rfl
              have Hrs := Lib.hid hrs
              clear hrs
              go_wp2_with fail
              refine hwd.mono ?_
              rintro e w9 ⟨hwp, hb9⟩
              clear hwd
              have q8 := Bk.below Hres.out.2 hb9 hlt8
              have q0 : w9.cell? ⟨w.heap.size, 0, none⟩ = some (.int .i64 0) := q8.cell 0
              have q1 : w9.cell? ⟨w.heap.size, 1, none⟩ = some (.int .i64 0) := q8.cell 1
              have q2 : w9.cell? ⟨w.heap.size, 2, none⟩ = some (.int .i64 0) := q8.cell 2
              have q3 : w9.cell? ⟨w.heap.size, 3, none⟩ = some (.bool false) := q8.cell 3
              have k0 := q8.free 0
              have k1 := q8.free 1
              have k2 := q8.free 2
              have k3 := q8.free 3
              have hlt9 := q8.lt
              have Hb9 := Lib.hid (Hres.out.1.trans (hb9.mono hz8))
              have Q8 := Lib.hid q8
              clear hb9 q8 t0 t1 t2 t3 r0 r1 r2 r3 f0 f1 f2 f3
              rcases hF : wideF L p with _ | ⟨a0, a1, a2⟩
              · rw [hF] at hwp Hrs
                obtain ⟨b0, b1, b2, b3, rfl⟩ := hwp
                clear hF
                go_wp2
                exact bodyPost_ret (v := .tuple #[.agg #[.int .i64 0, .int .i64 0, .int .i64 0, .bool false], .int .i64 4]) (by simp [results, Try.results6, go_sem, q0, q1, q2, q3, hlt9]) rfl ⟨by rw [Hrs.out]; exact rfl, by first | exact (below_set4 Hb9.out _ _ _ _).alloc (by simp <;> omega) _ | exact below_set4 (Hb9.out.alloc (by omega) _) _ _ _ _⟩
              · rw [hF] at hwp Hrs
                obtain rfl : e = .returned (.tuple #[.agg #[.int .i64 a0, .int .i64 a1, .int .i64 a2, .bool true], .bool true]) := hwp
                clear hF
                have hq := ((((Q8.out.set 0 (.int .i64 a0)).set 1 (.int .i64 a1)).set 2 (.int .i64 a2)).set 3 (.bool true))
                simp only [List.setIfInBounds_toArray, List.set_cons_zero, List.set_cons_succ] at hq
                have Hq := Lib.hid hq
                clear hq
                go_wp2
                have s0 := Hq.out.cell 0
                have s1 := Hq.out.cell 1
                have s2 := Hq.out.cell 2
                have s3 := Hq.out.cell 3
                exact bodyPost_ret (v := .tuple #[.agg #[.int .i64 a0, .int .i64 a1, .int .i64 a2, .bool true], .int .i64 0]) (by simp [results, Try.results6, go_sem, s0, s1, s2, s3, hlt9]) rfl ⟨by rw [Hrs.out]; exact rfl, by first | exact (below_set4 Hb9.out _ _ _ _).alloc (by simp <;> omega) _ | exact below_set4 (Hb9.out.alloc (by omega) _) _ _ _ _⟩
            · have hd2 : (y != 4294967295) = true := by rw [bne_iff_ne]; exact hx1
              have hd2' : (y == 4294967295) = false := by simpa using hx1
              rw [hd2', Bool.false_or] at Hon
              clear hx1 hd2'
              by_cases hx1 : z = 4294967295
              · have hd3 : (z != 4294967295) = false := by simp [hx1]
                have Ho := Lib.hid (show onesB (x, y, z) = true by rw [Hon.out, hx1]; rfl)
                clear hx1
                have hwd := widest_any A n c p L w8 Hr8.out hnc hn (by omega)
                have hrs : findF L = (wideF L p).map (·, true) := by rw [Hf.out]; unfold resAt; rw [Htl.out, Ho.out]; rfl
                have Hrs := Lib.hid hrs
                clear hrs
                go_wp2_with fail
                refine hwd.mono ?_
                rintro e w9 ⟨hwp, hb9⟩
                clear hwd
                have q8 := Bk.below Hres.out.2 hb9 hlt8
                have q0 : w9.cell? ⟨w.heap.size, 0, none⟩ = some (.int .i64 0) := q8.cell 0
                have q1 : w9.cell? ⟨w.heap.size, 1, none⟩ = some (.int .i64 0) := q8.cell 1
                have q2 : w9.cell? ⟨w.heap.size, 2, none⟩ = some (.int .i64 0) := q8.cell 2
                have q3 : w9.cell? ⟨w.heap.size, 3, none⟩ = some (.bool false) := q8.cell 3
                have k0 := q8.free 0
                have k1 := q8.free 1
                have k2 := q8.free 2
                have k3 := q8.free 3
                have hlt9 := q8.lt
                have Hb9 := Lib.hid (Hres.out.1.trans (hb9.mono hz8))
                have Q8 := Lib.hid q8
                clear hb9 q8 t0 t1 t2 t3 r0 r1 r2 r3 f0 f1 f2 f3
                rcases hF : wideF L p with _ | ⟨a0, a1, a2⟩
                · rw [hF] at hwp Hrs
                  obtain ⟨b0, b1, b2, b3, rfl⟩ := hwp
                  clear hF
                  go_wp2
                  exact bodyPost_ret (v := .tuple #[.agg #[.int .i64 0, .int .i64 0, .int .i64 0, .bool false], .int .i64 4]) (by simp [results, Try.results6, go_sem, q0, q1, q2, q3, hlt9]) rfl ⟨by rw [Hrs.out]; exact rfl, by first | exact (below_set4 Hb9.out _ _ _ _).alloc (by simp <;> omega) _ | exact below_set4 (Hb9.out.alloc (by omega) _) _ _ _ _⟩
                · rw [hF] at hwp Hrs
                  obtain rfl : e = .returned (.tuple #[.agg #[.int .i64 a0, .int .i64 a1, .int .i64 a2, .bool true], .bool true]) := hwp
                  clear hF
                  have hq := ((((Q8.out.set 0 (.int .i64 a0)).set 1 (.int .i64 a1)).set 2 (.int .i64 a2)).set 3 (.bool true))
                  simp only [List.setIfInBounds_toArray, List.set_cons_zero, List.set_cons_succ] at hq
                  have Hq := Lib.hid hq
                  clear hq
                  go_wp2
                  have s0 := Hq.out.cell 0
                  have s1 := Hq.out.cell 1
                  have s2 := Hq.out.cell 2
                  have s3 := Hq.out.cell 3
                  exact bodyPost_ret (v := .tuple #[.agg #[.int .i64 a0, .int .i64 a1, .int .i64 a2, .bool true], .int .i64 0]) (by simp [results, Try.results6, go_sem, s0, s1, s2, s3, hlt9]) rfl ⟨by rw [Hrs.out]; exact rfl, by first | exact (below_set4 Hb9.out _ _ _ _).alloc (by simp <;> omega) _ | exact below_set4 (Hb9.out.alloc (by omega) _) _ _ _ _⟩
              · have hd3 : (z != 4294967295) = true := by rw [bne_iff_ne]; exact hx1
                have Ho := Lib.hid (show onesB (x, y, z) = false by rw [Hon.out]; simpa using hx1)
                have hrs : findF L = some ((x, y, z), false) := by rw [Hf.out]; unfold resAt; rw [Htl.out, Ho.out]; rfl
                have Hrs := Lib.hid hrs
                clear hrs hx1
                have hq := ((((Hres.out.2.set 0 (.int .i64 x)).set 1 (.int .i64 y)).set 2 (.int .i64 z)).set 3 (.bool false))
                simp only [List.setIfInBounds_toArray, List.set_cons_zero, List.set_cons_succ] at hq
                have Hq := Lib.hid hq
                clear hq
                go_wp2
                have s0 := Hq.out.cell 0
                have s1 := Hq.out.cell 1
                have s2 := Hq.out.cell 2
                have s3 := Hq.out.cell 3
                exact bodyPost_ret (v := .tuple #[.agg #[.int .i64 x, .int .i64 y, .int .i64 z, .bool false], .int .i64 0]) (by simp [results, Try.results6, go_sem, s0, s1, s2, s3, hlt8]) rfl ⟨by rw [Hrs.out]; exact rfl, below_set4 Hres.out.1 _ _ _ _⟩
        · have hne : (((p : Int) + 22 + u) != (n : Int)) = true := by rw [bne_iff_ne]; exact he
          have Hns := Lib.hid (show stopB L p = false by rw [Hstop.out]; simpa using he)
          clear he
          go_wp2
          go_roundw
          case rel => exact ⟨_, _, rfl, Lib.hid (Hgo.out Hns.out), by omega, Hres.out.1, Hres.out.2⟩
          case measure => simp [intOf]; omega
      · have Hns := Lib.hid (show stopB L p = false by
          rcases hno with hno | hno
          · omega
          · unfold stopB; rw [hno]; rfl)
        have hn4 := num_err g A n c p2 e2 4 w2 v2.rd he2
        have hn2 := num_err g A n c p2 e2 2 w2 v2.rd he2
        clear hno
        go_wp2_with fail
        refine hn4.mono ?_
        rintro e w3 ⟨rfl, rfl⟩
        go_wp2_with fail
        refine hn2.mono ?_
        rintro e w3 ⟨rfl, rfl⟩
        go_wp2_with fail
        refine hn2.mono ?_
        rintro e w3 ⟨rfl, rfl⟩
        go_wp2_with fail
        refine hn4.mono ?_
        rintro e w3 ⟨rfl, rfl⟩
        go_wp2_with fail
        refine hn4.mono ?_
        rintro e w3 ⟨rfl, rfl⟩
        clear hn4 hn2
        have hrr : RR (w2.alloc (.cells #[.int .i64 0, .int .i64 0, .int .i64 0, .bool false] 25)) g A n c p2 e2 := Bk.alloc v2.rd _
        have hn2 := num_err g A n c p2 e2 2 _ hrr he2
        have c2 : w2.cell? ⟨g, 2, none⟩ = some (.int .i64 e2) := Bk.cell v2.rd 2
        have hglt : g < w2.heap.size := RR.lt v2.rd
        have he3 : (e2 != 0) = true := by rw [bne_iff_ne]; exact he2
        have hfin : Below w.heap.size w (w2.alloc (.cells #[.int .i64 0, .int .i64 0, .int .i64 0, .bool false] 25)) ∧ Bk (w2.alloc (.cells #[.int .i64 0, .int .i64 0, .int .i64 0, .bool false] 25)) w.heap.size 25 #[.int .i64 0, .int .i64 0, .int .i64 0, .bool false] :=
          ⟨v2.bl.alloc v2.bl.size _, Bk.alloc v2.rs _⟩
        have Hfin := Lib.hid hfin
        clear hrr v2 hfin
        go_wp2_with fail
        refine hn2.mono ?_
        rintro e w3 ⟨rfl, rfl⟩
        clear hn2
        go_wp2
        go_roundw
        case rel => exact ⟨_, _, rfl, Lib.hid (Hgo.out Hns.out), by omega, Hfin.out.1, Hfin.out.2⟩
        case measure => simp [intOf]; omega
end Go.Proofs.Ytbdehlphblbmoaa
