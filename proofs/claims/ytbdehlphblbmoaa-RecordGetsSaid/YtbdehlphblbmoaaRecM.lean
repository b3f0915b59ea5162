/- Contracts of package record: GetCentral. Written by recgen.py. -/
import Derived.Test.YtbdehlphblbmoaaRecL
namespace Go.Proofs.Ytbdehlphblbmoaa
open Go.RowKit
attribute [local go_sem ↓] Go.wp_at_zero Go.wp_at_succ

set_option maxHeartbeats 4000000 in
set_option maxRecDepth 100000 in
theorem getcentral_any (A : Option Addr) (n c : Nat) (a : Int) (L : List UInt8) (w : World) (hr : Rd w w.heap.size 1 A n (bys L)) (hnc : n ≤ c) (hn : n ≤ 1000000000) (ha : -9223372036854775808 ≤ a ∧ a ≤ 9223372036854775807) :
    Calls Try.prog 11 #[.slice A n c, .int .i64 a] w fun e w' => GHP w.heap.size (anyG gcG 1 2 L a) e w' ∧ Below w.heap.size w w' := by
  have hll := hr.blen
  have Hr := Lib.hid hr
  have Hll := Lib.hid hll
  clear hr hll
  obtain ⟨p, hp⟩ : ∃ p : Nat, a.toNat = p := ⟨_, rfl⟩
  have Hp := Lib.hid hp
  obtain ⟨F, hF⟩ : ∃ F : Int, frG L a 1 2 = F := ⟨_, rfl⟩
  have HF := Lib.hid hF
  clear hp hF
  go_enter Try.func11, Try.ntmps11
  go_wp2_with fail
  refine (central_any _).mono ?_
  rintro e w1 ⟨rfl, hb1⟩
  have bl1 : Below w.heap.size w w1 := ((((Below.refl _ _).alloc (Nat.le_refl _) _).alloc (by simp) _).alloc (by simp <;> omega) _).trans (hb1.mono (by simp <;> omega))
  have rs1 : Bk w1 w.heap.size 35 hd0 := Bk.below (Bk.alloc (Bk.alloc (Bk.new w 35 hd0) _) _) hb1 (by simp <;> omega)
  have rr1 : RR w1 (w.heap.size + 1) A n c a 0 := Bk.below (Bk.alloc (Bk.new' _ _ _ (by simp)) _) hb1 (by simp <;> omega)
  have hd1 : Bk w1 (w.heap.size + 1 + 1) 35 (hdC 0 0 0 0 0 0 0 (.slice none 0 0) false) := Bk.below (Bk.new' _ _ _ (by simp)) hb1 (by simp)
  have lg : w.heap.size < w.heap.size + 1 := by omega
  have lh : w.heap.size + 1 < w.heap.size + 1 + 1 := by omega
  clear hb1
  generalize w.heap.size + 1 + 1 = h at *
  generalize w.heap.size + 1 = g at *
  have hs := sign_q g A n c a 1 2 L w1 rr1 ((Hr.out.below bl1 (Nat.le_refl _)).more bl1.size) hnc hn
  rw [HF.out, Hp.out] at hs
  have Hs := Lib.hid hs
  have V1 := Lib.hid (And.intro bl1 (And.intro rs1 hd1))
  clear hs bl1 rs1 hd1 rr1
  go_wp2_with fail
  refine Hs.out.mono ?_
  rintro e w2 ⟨rfl, q2, k2⟩
  have V2 := Lib.hid (show Gl w w2 g h F A n c (p + 4) F (hdC 0 0 0 0 0 0 0 (.slice none 0 0) false) from ⟨V1.out.1.trans (k2.below V1.out.1.size (fun i hi => by have : i = g := hi; omega)), V1.out.2.1.ch k2 (by omega), q2, V1.out.2.2.ch k2 (by omega), lg, lh⟩)
  clear q2 k2 V1 Hs
  have p4 : (256 : Int) ^ 4 = 4294967296 := by decide
  have p2 : (256 : Int) ^ 2 = 65536 := by decide
  have Hn := Lib.hid (num_q F g A n c (p + 4) 4 F L w2 V2.out.rq (V2.out.rb Hr.out) hnc hn (by omega))
  go_wp2_with fail
  refine Hn.out.mono ?_
  rintro e w3 ⟨x3, e3, rfl, xa3, xb3, i3, _, q3, k3⟩
  rw [p4] at xb3
  have V3 := Lib.hid (V2.out.step q3 k3)
  have I3 := Lib.hid i3
  clear q3 k3 V2 i3 Hn
  have Hn := Lib.hid (core_q F g A n c (p + 4 + 4) w.heap.size e3 L h 0 0 0 0 0 0 0 (.slice none 0 0) false w3 V3.out.rq (V3.out.rb' Hr.out) (by omega) (by omega) hnc hn V3.out.hd (by omega))
  go_wp2_with fail
  refine Hn.out.mono ?_
  rintro e w4 ⟨f0, f1, f2, f3, f4, f5, e4, rfl, i4, q4, b4, k4⟩
  have V4 := Lib.hid (V3.out.to q4 b4 k4)
  have I4 := Lib.hid i4
  clear q4 k4 b4 V3 i4 Hn
  have Hn := Lib.hid (num_q F g A n c (p + 4 + 4 + 20) 2 e4 L w4 V4.out.rq (V4.out.rb Hr.out) hnc hn (by omega))
  go_wp2_with fail
  refine Hn.out.mono ?_
  rintro e w5 ⟨x5, e5, rfl, xa5, xb5, i5, _, q5, k5⟩
  rw [p2] at xb5
  have V5 := Lib.hid (V4.out.step q5 k5)
  have I5 := Lib.hid i5
  obtain ⟨n1, rfl⟩ : ∃ k : Nat, x5 = k := ⟨x5.toNat, by omega⟩
  clear q5 k5 V4 i5 Hn
  have Hn := Lib.hid (num_q F g A n c (p + 4 + 4 + 20 + 2) 2 e5 L w5 V5.out.rq (V5.out.rb Hr.out) hnc hn (by omega))
  go_wp2_with fail
  refine Hn.out.mono ?_
  rintro e w6 ⟨x6, e6, rfl, xa6, xb6, i6, _, q6, k6⟩
  rw [p2] at xb6
  have V6 := Lib.hid (V5.out.step q6 k6)
  have I6 := Lib.hid i6
  obtain ⟨k1, rfl⟩ : ∃ k : Nat, x6 = k := ⟨x6.toNat, by omega⟩
  clear q6 k6 V5 i6 Hn
  have Hn := Lib.hid (num_q F g A n c (p + 4 + 4 + 20 + 2 + 2) 2 e6 L w6 V6.out.rq (V6.out.rb Hr.out) hnc hn (by omega))
  go_wp2_with fail
  refine Hn.out.mono ?_
  rintro e w7 ⟨x7, e7, rfl, xa7, xb7, i7, _, q7, k7⟩
  rw [p2] at xb7
  have V7 := Lib.hid (V6.out.step q7 k7)
  have I7 := Lib.hid i7
  obtain ⟨d1, rfl⟩ : ∃ k : Nat, x7 = k := ⟨x7.toNat, by omega⟩
  clear q7 k7 V6 i7 Hn
  have Hn := Lib.hid (num_q F g A n c (p + 4 + 4 + 20 + 2 + 2 + 2) 4 e7 L w7 V7.out.rq (V7.out.rb Hr.out) hnc hn (by omega))
  go_wp2_with fail
  refine Hn.out.mono ?_
  rintro e w8 ⟨x8, e8, rfl, xa8, xb8, i8, _, q8, k8⟩
  rw [p4] at xb8
  have V8 := Lib.hid (V7.out.step q8 k8)
  have I8 := Lib.hid i8
  clear q8 k8 V7 i8 Hn
  have Hn := Lib.hid (num_q F g A n c (p + 4 + 4 + 20 + 2 + 2 + 2 + 4) 4 e8 L w8 V8.out.rq (V8.out.rb Hr.out) hnc hn (by omega))
  go_wp2_with fail
  refine Hn.out.mono ?_
  rintro e w9 ⟨x9, e9, rfl, xa9, xb9, i9, _, q9, k9⟩
  rw [p4] at xb9
  have V9 := Lib.hid (V8.out.step q9 k9)
  have I9' := Lib.hid i9
  clear q9 k9 V8 i9 Hn
  have Hn := Lib.hid (num_q F g A n c (p + 4 + 4 + 20 + 2 + 2 + 2 + 4 + 4) 4 e9 L w9 V9.out.rq (V9.out.rb Hr.out) hnc hn (by omega))
  go_wp2_with fail
  refine Hn.out.mono ?_
  rintro e w10 ⟨x10, e10, rfl, xa10, xb10, i10, _, q10, k10⟩
  rw [p4] at xb10
  have V10 := Lib.hid (V9.out.step q10 k10)
  have I10 := Lib.hid i10
  have Her := Lib.hid (fun h => q10.er h)
  have v10 := V10.out
  have hlt10 := v10.hd.lt
  have z6 : w10.frozen? ⟨h, 6, none⟩ = false := v10.hd.free 6
  have s6 : w10.cell? ⟨h, 6, none⟩ = some (.int .i64 0) := v10.hd.cell 6
  have VA : Hid (Gl w (w10.setCell ⟨h, 6, none⟩ (.int .i64 x10)) g h F A n c (p + 4 + 4 + 20 + 2 + 2 + 2 + 4 + 4 + 4) e10 (hdC f0 f1 f2 f3 f4 f5 x10 (.slice none 0 0) false)) := Lib.hid (v10.set 6 (.int .i64 x10))
  clear q10 k10 V9 i10 Hn v10 V10
  go_wp2_with fail
  generalize w10.setCell ⟨h, 6, none⟩ (.int .i64 x10) = wA at *
  clear z6 s6 hlt10
  have Hn := Lib.hid (cut_q F g A n c (p + 4 + 4 + 20 + 2 + 2 + 2 + 4 + 4 + 4) n1 e10 L wA VA.out.rq (VA.out.rb Hr.out) hnc hn)
  refine Hn.out.mono ?_
  rintro e w11 ⟨A11, m11, c11, l11, e11, rfl, hm11, i11, o11, hmn11, q11, k11⟩
  have v11 := VA.out.step q11 k11
  have hlt11 := v11.hd.lt
  have z7 : w11.frozen? ⟨h, 7, none⟩ = false := v11.hd.free 7
  have s7 : w11.cell? ⟨h, 7, none⟩ = some (.slice none 0 0) := v11.hd.cell 7
  have V11 : Hid (Gl w (w11.setCell ⟨h, 7, none⟩ (.slice A11 m11 c11)) g h F A n c (p + 4 + 4 + 20 + 2 + 2 + 2 + 4 + 4 + 4 + n1) e11 (hdC f0 f1 f2 f3 f4 f5 x10 (.slice A11 m11 c11) false)) := Lib.hid (v11.set 7 (.slice A11 m11 c11))
  have hszA : h < wA.heap.size := VA.out.hd.lt
  have O11 : Hid ((w11.setCell ⟨h, 7, none⟩ (.slice A11 m11 c11)).ownsRow wA.heap.size 5 1 (.slice A11 m11 c11) m11 (bys l11)) :=
    Lib.hid (own_ch o11 ((Ch.refl (fun i => i = h) w11).set (p := ⟨h, 7, none⟩) (.inl rfl) _) (fun i hi => by have := (o11.lt i hi).1; omega))
  have I11 := Lib.hid i11
  clear q11 k11 v11 i11 o11 VA Hn
  go_wp2_with fail
  generalize w11.setCell ⟨h, 7, none⟩ (.slice A11 m11 c11) = wB at *
  clear z7 s7 hlt11
  have Hn := Lib.hid (cut_q F g A n c (p + 4 + 4 + 20 + 2 + 2 + 2 + 4 + 4 + 4 + n1) k1 e11 L wB V11.out.rq (V11.out.rb Hr.out) hnc hn)
  refine Hn.out.mono ?_
  rintro e w12 ⟨A12, m12, c12, l12, e12, rfl, hm12, i12, o12, hmn12, q12, k12⟩
  have V12 := Lib.hid (V11.out.step q12 k12)
  have O12 := Lib.hid (own_ch O11.out k12 (fun i hi => by have := (O11.out.lt i hi).1; omega))
  have X12 := Lib.hid o12
  have hszB : g < wB.heap.size := V11.out.rq.lt
  have I12 := Lib.hid i12
  clear q12 k12 i12 o12 O11 V11 Hn
  have Hn := Lib.hid (cut_q F g A n c (p + 4 + 4 + 20 + 2 + 2 + 2 + 4 + 4 + 4 + n1 + k1) d1 e12 L w12 V12.out.rq (V12.out.rb Hr.out) hnc hn)
  go_wp2_with fail
  refine Hn.out.mono ?_
  rintro e w9 ⟨A13, m13, c13, l13, e9, rfl, hm13, i9, o13, hmn13, q9, k9⟩
  have v9 := V12.out.step q9 k9
  have V9 := Lib.hid v9
  have O9 := Lib.hid (own_ch O12.out k9 (fun i hi => by have := (O12.out.lt i hi).1; omega))
  have X9 := Lib.hid (Rd.of_own (own_ch X12.out k9 (fun i hi => by have := (X12.out.lt i hi).1; omega)))
  have I9 := Lib.hid i9
  have d2 : w9.cell? ⟨g, 2, none⟩ = some (.int .i64 e9) := q9.c2
  obtain ⟨r0, r1, r2, r3, r4, r5, r6, r7, r8⟩ := cells9 v9.rs
  obtain ⟨z0, z1, z2, z3, z4, z5, z6, z7, z8⟩ := frees9 v9.rs
  have hlt := v9.rs.lt
  have hlg := v9.rq.lt
  clear Hn q9 k9 v9 i9 o13 O12 X12 V12 p2 p4
  by_cases he : e9 = 0
  · subst he
    have hF0 := V9.out.rq.F0
    obtain ⟨h12, hle9, hd13, _⟩ := I9.out rfl
    obtain ⟨h11, _, hm12k, hl12⟩ := I12.out h12
    obtain ⟨h10, _, hmn, hl11⟩ := I11.out h11
    obtain ⟨h9, _, hat⟩ := I10.out h10
    obtain ⟨h8, _, _⟩ := I9'.out h9
    obtain ⟨h7, _, _⟩ := I8.out h8
    obtain ⟨h6, _, hd1⟩ := I7.out h7
    obtain ⟨h5, _, hk1⟩ := I6.out h6
    obtain ⟨h4, _, hn1⟩ := I5.out h5
    obtain ⟨h3, _, hf0, hf1, hf2, hf3, hf4, hf5⟩ := I4.out.2 h4
    subst hm12k
    have hN : (nAt L (p + 28) 2).toNat = n1 := by rw [show p + 28 = p + 4 + 4 + 20 by omega, ← hn1]; simp
    have hK : (nAt L (p + 30) 2).toNat = m12 := by rw [show p + 30 = p + 4 + 4 + 20 + 2 by omega, ← hk1]; simp
    have hD : (nAt L (p + 32) 2).toNat = d1 := by rw [show p + 32 = p + 4 + 4 + 20 + 2 + 2 by omega, ← hd1]; simp
    have hl12' : l12 = (L.drop (p + 46 + n1)).take m12 := by rw [hl12]
    have hl11' : l11 = (L.drop (p + 46)).take n1 := by rw [hl11]
    have hle : p + 46 + n1 + m12 + d1 ≤ L.length := by rw [Hll.out]; omega
    have hf4' : f4 = nAt L (p + 20) 4 := by rw [hf4]
    have hf5' : f5 = nAt L (p + 24) 4 := by rw [hf5]
    have hat' : x10 = nAt L (p + 42) 4 := by rw [hat]
    have Hbad := Lib.hid (show widG l12 [f5, f4, x10] = none → anyG gcG 1 2 L a = .inl 4 from fun h => by
      rw [anyG_go (HF.out.trans hF0), Hp.out]
      exact gcG_bad hN hK hD hle (by rw [← hl12', ← h, hf4', hf5', hat']))
    have Hok := Lib.hid (show ∀ s cc aa wd, widG l12 [f5, f4, x10] = some ([s, cc, aa], wd) → anyG gcG 1 2 L a = .inr ⟨f0, f1, f2, f3, cc, s, aa, l11, wd, ((p + 4 + 4 + 20 + 2 + 2 + 2 + 4 + 4 + 4 + n1 + m12 + d1 : Nat) : Int)⟩ from fun s cc aa wd h => by
      rw [anyG_go (HF.out.trans hF0), Hp.out, gcG_ok hN hK hD hle (by rw [← hl12', ← h, hf4', hf5', hat']), hf0, hf1, hf2, hf3, hl11'])
    clear hF0 h12 hle9 hd13 h11 hl12 h10 hmn hl11 h9 hat h8 h7 h6 hd1 h5 hk1 h4 hn1 h3 hf0 hf1 hf2 hf3 hf4 hf5 hN hK hD hl12' hl11' hle hf4' hf5' hat' I3 I4 I5 I6 I7 I8 I9' I10 I11 I12 I9 Her
    have vA := V9.out.alloc (.cells (ptC 3 h) 64)
    have hx9 := X9.out.alloc (Nat.le_refl _) (.cells (ptC 3 h) 64)
    have hw := widen_any A12 m12 c12 l12 w9.heap.size 3 3 h 64 f0 f1 f2 f3 (V3 f5 f4 x10) (.slice A11 m11 c11) false (w9.alloc (.cells (ptC 3 h) 64)) (hx9.more (by simp)) hm12 (by omega) (by omega) (Nat.le_refl _) (Bk.new _ _ _) vA.hd (by have := V9.out.hd.lt; omega)
    have oA := O9.out.alloc (.cells (ptC 3 h) 64)
    rw [ptC_three] at vA hw oA
    have VA := Lib.hid vA
    have Hw := Lib.hid hw
    have OA := Lib.hid oA
    clear vA hw oA hx9 V9 O9 X9 r0 r1 r2 r3 r4 r5 r6 r7 r8 z0 z1 z2 z3 z4 z5 z6 z7 z8 hlt hlg
    go_wp2_with fail
    refine Hw.out.mono ?_
    rintro e w10 ⟨V', b1, b2, rfl, wq, b10, k10⟩
    have v10 := VA.out.to (VA.out.rq.ch k10 (by omega)) b10 (k10.mono (fun i h => .inr h))
    have o10 := own_ch OA.out k10 (fun i hi => by have := (OA.out.lt i hi).1; omega)
    have t8 : w10.cell? ⟨h, 8, none⟩ = some (.bool false) := v10.hd.cell 8
    have y8 : w10.frozen? ⟨h, 8, none⟩ = false := v10.hd.free 8
    have hlh := v10.hd.lt
    have V11 : Hid (Gl w (w10.setCell ⟨h, 8, none⟩ (.bool b1)) g h F A n c (p + 4 + 4 + 20 + 2 + 2 + 2 + 4 + 4 + 4 + n1 + m12 + d1) 0 (hdC f0 f1 f2 f3 (V' 1) (V' 0) (V' 2) (.slice A11 m11 c11) b1)) := Lib.hid (v10.set 8 (.bool b1))
    have O11 : Hid ((w10.setCell ⟨h, 8, none⟩ (.bool b1)).ownsRow wA.heap.size 5 1 (.slice A11 m11 c11) m11 (bys l11)) :=
      Lib.hid (own_ch o10 ((Ch.refl (fun i => i = h) w10).set (p := ⟨h, 8, none⟩) (.inl rfl) _) (fun i hi => by have := (o10.lt i hi).1; omega))
    have R10 := Lib.hid v10.rs
    clear v10 o10 b10 k10 VA Hw OA
    rcases wq with ⟨rfl, hwi, hkp⟩ | ⟨rfl, hwi⟩
    · have Hres := Lib.hid (Hok.out _ _ _ _ hwi)
      clear hwi hkp Hbad Hok d2
      go_wp2_with fail
      generalize w10.setCell ⟨h, 8, none⟩ (.bool b1) = w13 at *
      clear t8 y8 hlh
      obtain ⟨r0, r1, r2, r3, r4, r5, r6, r7, r8⟩ := cells9 V11.out.rs
      obtain ⟨z0, z1, z2, z3, z4, z5, z6, z7, z8⟩ := frees9 V11.out.rs
      obtain ⟨s0, s1, s2, s3, s4, s5, s6, s7, s8⟩ := cells9 V11.out.hd
      have c1 := V11.out.rq.c1
      have hlt := V11.out.rs.lt
      generalize p + 4 + 4 + 20 + 2 + 2 + 2 + 4 + 4 + 4 + n1 + m12 + d1 = P at *
      have Hq := Lib.hid ((V11.out.rs).set9 (.int .i64 f0) (.int .i64 f1) (.int .i64 f2) (.int .u32 f3) (.int .i64 (V' 1)) (.int .i64 (V' 0)) (.int .i64 (V' 2)) (.slice A11 m11 c11) (.bool b1))
      have Hrd := Lib.hid (own_drew (own_base (base' := w.heap.size) (own_ch O11.out (ch_set9 w13 w.heap.size (.int .i64 f0) (.int .i64 f1) (.int .i64 f2) (.int .u32 f3) (.int .i64 (V' 1)) (.int .i64 (V' 0)) (.int .i64 (V' 2)) (.slice A11 m11 c11) (.bool b1)) (fun i hi => by have := (O11.out.lt i hi).1; omega)) (by omega)))
      have Hbl := Lib.hid ((below_set9 V11.out.bl (Nat.le_refl _) (.int .i64 f0) (.int .i64 f1) (.int .i64 f2) (.int .u32 f3) (.int .i64 (V' 1)) (.int .i64 (V' 0)) (.int .i64 (V' 2)) (.slice A11 m11 c11) (.bool b1)).drew)
      generalize V' 0 = y0 at *
      generalize V' 1 = y1 at *
      generalize V' 2 = y2 at *
      clear ha Hp HF
      go_region
      all_goals
        go_wp2
        have q0 := Hq.out.cell 0
        have q1 := Hq.out.cell 1
        have q2 := Hq.out.cell 2
        have q3 := Hq.out.cell 3
        have q4 := Hq.out.cell 4
        have q5 := Hq.out.cell 5
        have q6 := Hq.out.cell 6
        have q7 := Hq.out.cell 7
        have q8 := Hq.out.cell 8
        refine bodyPost_ret (v := .tuple #[.agg (hdC f0 f1 f2 f3 y1 y0 y2 (.slice A11 m11 c11) b1), .int .i64 (P : Int), .int .i64 0]) (by simp [results, Try.results11, go_sem, hdC, q0, q1, q2, q3, q4, q5, q6, q7, q8]) rfl ⟨?_, Hbl.out⟩
        rw [Hres.out]
        exact ⟨A11, m11, c11, rfl, hm11, Hrd.out⟩
    · have Hres := Lib.hid (Hbad.out hwi)
      clear hwi Hbad Hok d2
      obtain ⟨r0, r1, r2, r3, r4, r5, r6, r7, r8⟩ := cells9 R10.out
      obtain ⟨z0, z1, z2, z3, z4, z5, z6, z7, z8⟩ := frees9 R10.out
      have hlt := R10.out.lt
      clear ha
      go_wp2
      exact bodyPost_ret (v := .tuple #[.agg hd0, .int .i64 0, .int .i64 4]) (by simp [results, Try.results11, go_sem, hd0, hdC, r0, r1, r2, r3, r4, r5, r6, r7, r8]) rfl ⟨by rw [Hres.out]; rfl, below_set9 V11.out.bl (Nat.le_refl _) _ _ _ _ _ _ _ _ _⟩
  · have hb9 : (e9 != 0) = true := by simpa using he
    have Hres := Lib.hid (show anyG gcG 1 2 L a = .inl e9 by
      rcases V9.out.rq.er he with ⟨h1, h2, h3⟩ | ⟨h1, h2⟩
      · rw [anyG_go (by rw [HF.out]; exact h1), Hp.out, h2]
        refine gcG_end ?_
        by_cases h10 : e10 = 0
        · obtain ⟨h9, _, hat⟩ := I10.out h10
          obtain ⟨h8, _, _⟩ := I9'.out h9
          obtain ⟨h7, _, _⟩ := I8.out h8
          obtain ⟨h6, _, hd1⟩ := I7.out h7
          obtain ⟨h5, _, hk1⟩ := I6.out h6
          obtain ⟨h4, _, hn1⟩ := I5.out h5
          right
          rw [Hll.out, show p + 28 = p + 4 + 4 + 20 by omega, ← hn1, show p + 30 = p + 4 + 4 + 20 + 2 by omega, ← hk1, show p + 32 = p + 4 + 4 + 20 + 2 + 2 by omega, ← hd1]
          simp
          omega
        · rcases Her.out h10 with ⟨_, _, h3⟩ | ⟨h4, _⟩
          · left; rw [Hll.out]; omega
          · exact absurd h1 h4
      · rw [anyG_no (by rw [HF.out]; exact h1), HF.out, h2])
    clear he
    go_wp2_with fail
    go_region
    all_goals
      go_wp2
      exact bodyPost_ret (v := .tuple #[.agg hd0, .int .i64 0, .int .i64 e9]) (by simp [results, Try.results11, go_sem, hd0, hdC, r0, r1, r2, r3, r4, r5, r6, r7, r8]) rfl ⟨by rw [Hres.out]; rfl, (below_set9 V9.out.bl (Nat.le_refl _) _ _ _ _ _ _ _ _ _).drew⟩
end Go.Proofs.Ytbdehlphblbmoaa
