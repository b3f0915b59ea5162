/- Contracts of package record: GetLocal. -/
import Derived.Test.YtbdehlphblbmoaaRecK
namespace Go.Proofs.Ytbdehlphblbmoaa
open Go.RowKit
attribute [local go_sem ↓] Go.wp_at_zero Go.wp_at_succ

theorem local_any (w : World) : Calls Try.prog 22 #[] w fun e w' => e = .returned (sgV 3 4) ∧ Below w.heap.size w w' := by
  go_enter Try.func22, Try.ntmps22
  go_wp2
  exact bodyPost_ret (v := .agg #[.int .u8 80, .int .u8 75, .int .u8 3, .int .u8 4]) (by simp [results, Try.results22, go_sem]) rfl ⟨rfl, (Below.refl _ _).alloc (Nat.le_refl _) _⟩
theorem central_any (w : World) : Calls Try.prog 29 #[] w fun e w' => e = .returned (sgV 1 2) ∧ Below w.heap.size w w' := by
  go_enter Try.func29, Try.ntmps29
  go_wp2
  exact bodyPost_ret (v := .agg #[.int .u8 80, .int .u8 75, .int .u8 1, .int .u8 2]) (by simp [results, Try.results29, go_sem]) rfl ⟨rfl, (Below.refl _ _).alloc (Nat.le_refl _) _⟩
/-- A head's cells, none told. -/
def hd0 : Array Value := hdC 0 0 0 0 0 0 0 (.slice none 0 0) false
/-- What a head's reader tells. -/
def GHP (base : Nat) (r : Sum Int HdG) (e : Ending) (w' : World) : Prop := match r with
  | .inl E => e = .returned (.tuple #[.agg hd0, .int .i64 0, .int .i64 E])
  | .inr x => ∃ A m c, e = .returned (.tuple #[.agg (hdC x.flags x.method x.dos x.crc x.csize x.size x.at_ (.slice A m c) x.wide), .int .i64 x.fin, .int .i64 0]) ∧ m ≤ c ∧ w'.ownsRow base 5 1 (.slice A m c) m (bys x.name)
/-- What stands while a head is read: the result's cells, a reader, the head. -/
structure Gl (w w1 : World) (g h : Nat) (F : Int) (A : Option Addr) (n c P : Nat) (e : Int) (cs : Array Value) : Prop where
  bl : Below w.heap.size w w1
  rs : Bk w1 w.heap.size 35 hd0
  rq : RQ F w1 g A n c P e
  hd : Bk w1 h 35 cs
  lg : w.heap.size < g
  lh : g < h
section
variable {w w1 w2 : World} {g h : Nat} {F : Int} {A : Option Addr} {n c P : Nat} {e : Int} {cs : Array Value}
theorem Gl.rb {L : List UInt8} (v : Gl w w1 g h F A n c P e cs) (h : Rd w w.heap.size 1 A n (bys L)) : Rd w1 w1.heap.size 1 A n (bys L) := (h.below v.bl (Nat.le_refl _)).more v.bl.size
theorem Gl.rb' {L : List UInt8} (v : Gl w w1 g h F A n c P e cs) (h : Rd w w.heap.size 1 A n (bys L)) : Rd w1 w.heap.size 1 A n (bys L) := (h.below v.bl (Nat.le_refl _))
theorem Gl.to {P' : Nat} {e' : Int} {cs' : Array Value} (v : Gl w w1 g h F A n c P e cs) (hq : RQ F w2 g A n c P' e') (hh : Bk w2 h 35 cs') (hc : Ch (fun i => i = g ∨ i = h) w1 w2) : Gl w w2 g h F A n c P' e' cs' :=
  ⟨v.bl.trans (hc.below v.bl.size (fun i hi => by have := v.lg; have := v.lh; omega)), v.rs.ch hc (by have := v.lg; have := v.lh; omega), hq, hh, v.lg, v.lh⟩
theorem Gl.step {P' : Nat} {e' : Int} (v : Gl w w1 g h F A n c P e cs) (hq : RQ F w2 g A n c P' e') (hc : Ch (fun i => i = g) w1 w2) : Gl w w2 g h F A n c P' e' cs :=
  v.to hq (v.hd.ch hc (by have := v.lh; omega)) (hc.mono (fun i h => .inl h))
theorem Gl.set (v : Gl w w1 g h F A n c P e cs) (i : Nat) (u : Value) : Gl w (w1.setCell ⟨h, i, none⟩ u) g h F A n c P e (cs.setIfInBounds i u) := by
  have hc : Ch (fun i => i = h) w1 (w1.setCell ⟨h, i, none⟩ u) := (Ch.refl (fun i => i = h) w1).set (p := ⟨h, i, none⟩) (.inl rfl) _
  exact v.to (v.rq.ch hc (by have := v.lh; omega)) (v.hd.set i u) (hc.mono (fun i h => .inr h))
end
theorem Gl.alloc {w w1 : World} {g h : Nat} {F : Int} {A : Option Addr} {n c P : Nat} {e : Int} {cs : Array Value} (v : Gl w w1 g h F A n c P e cs) (o : Obj) : Gl w (w1.alloc o) g h F A n c P e cs :=
  v.to (v.rq.ch (S := fun _ => False) ((Ch.refl _ w1).alloc o) (fun h => h)) (v.hd.alloc o) ((Ch.refl _ w1).alloc o)
theorem ptC_two (h : Nat) : ptC 2 h = #[.pointer (some ⟨h, 5, none⟩), .pointer (some ⟨h, 4, none⟩)] := rfl
theorem ptC_three (h : Nat) : ptC 3 h = #[.pointer (some ⟨h, 5, none⟩), .pointer (some ⟨h, 4, none⟩), .pointer (some ⟨h, 6, none⟩)] := rfl
theorem cells9 {w : World} {g : Nat} {T : TypeId} {c0 c1 c2 c3 c4 c5 c6 c7 c8 : Value} (h : Bk w g T #[c0, c1, c2, c3, c4, c5, c6, c7, c8]) :
    w.cell? ⟨g, 0, none⟩ = some c0 ∧ w.cell? ⟨g, 1, none⟩ = some c1 ∧ w.cell? ⟨g, 2, none⟩ = some c2 ∧ w.cell? ⟨g, 3, none⟩ = some c3 ∧ w.cell? ⟨g, 4, none⟩ = some c4 ∧ w.cell? ⟨g, 5, none⟩ = some c5 ∧ w.cell? ⟨g, 6, none⟩ = some c6 ∧ w.cell? ⟨g, 7, none⟩ = some c7 ∧ w.cell? ⟨g, 8, none⟩ = some c8 :=
  ⟨h.cell 0, h.cell 1, h.cell 2, h.cell 3, h.cell 4, h.cell 5, h.cell 6, h.cell 7, h.cell 8⟩
theorem frees9 {w : World} {g : Nat} {T : TypeId} {cs : Array Value} (h : Bk w g T cs) :
    w.frozen? ⟨g, 0, none⟩ = false ∧ w.frozen? ⟨g, 1, none⟩ = false ∧ w.frozen? ⟨g, 2, none⟩ = false ∧ w.frozen? ⟨g, 3, none⟩ = false ∧ w.frozen? ⟨g, 4, none⟩ = false ∧ w.frozen? ⟨g, 5, none⟩ = false ∧ w.frozen? ⟨g, 6, none⟩ = false ∧ w.frozen? ⟨g, 7, none⟩ = false ∧ w.frozen? ⟨g, 8, none⟩ = false :=
  ⟨h.free 0, h.free 1, h.free 2, h.free 3, h.free 4, h.free 5, h.free 6, h.free 7, h.free 8⟩
theorem Bk.set9 {w : World} {g : Nat} {T : TypeId} {c0 c1 c2 c3 c4 c5 c6 c7 c8 : Value} (h : Bk w g T #[c0, c1, c2, c3, c4, c5, c6, c7, c8]) (u0 u1 u2 u3 u4 u5 u6 u7 u8 : Value) :
    Bk (((((((((w.setCell ⟨g, 0, none⟩ u0).setCell ⟨g, 1, none⟩ u1).setCell ⟨g, 2, none⟩ u2).setCell ⟨g, 3, none⟩ u3).setCell ⟨g, 4, none⟩ u4).setCell ⟨g, 5, none⟩ u5).setCell ⟨g, 6, none⟩ u6).setCell ⟨g, 7, none⟩ u7).setCell ⟨g, 8, none⟩ u8) g T #[u0, u1, u2, u3, u4, u5, u6, u7, u8] := by
  have h0 : Bk _ g T #[u0, c1, c2, c3, c4, c5, c6, c7, c8] := h.set 0 u0
  have h1 : Bk _ g T #[u0, u1, c2, c3, c4, c5, c6, c7, c8] := h0.set 1 u1
  have h2 : Bk _ g T #[u0, u1, u2, c3, c4, c5, c6, c7, c8] := h1.set 2 u2
  have h3 : Bk _ g T #[u0, u1, u2, u3, c4, c5, c6, c7, c8] := h2.set 3 u3
  have h4 : Bk _ g T #[u0, u1, u2, u3, u4, c5, c6, c7, c8] := h3.set 4 u4
  have h5 : Bk _ g T #[u0, u1, u2, u3, u4, u5, c6, c7, c8] := h4.set 5 u5
  have h6 : Bk _ g T #[u0, u1, u2, u3, u4, u5, u6, c7, c8] := h5.set 6 u6
  have h7 : Bk _ g T #[u0, u1, u2, u3, u4, u5, u6, u7, c8] := h6.set 7 u7
  exact h7.set 8 u8
theorem below_set9 {B : Nat} {a w : World} (h : Below B a w) {g : Nat} (hg : B ≤ g) (u0 u1 u2 u3 u4 u5 u6 u7 u8 : Value) :
    Below B a (((((((((w.setCell ⟨g, 0, none⟩ u0).setCell ⟨g, 1, none⟩ u1).setCell ⟨g, 2, none⟩ u2).setCell ⟨g, 3, none⟩ u3).setCell ⟨g, 4, none⟩ u4).setCell ⟨g, 5, none⟩ u5).setCell ⟨g, 6, none⟩ u6).setCell ⟨g, 7, none⟩ u7).setCell ⟨g, 8, none⟩ u8) :=
  ((((((((h.setCell (p := ⟨g, 0, none⟩) hg _).setCell (p := ⟨g, 1, none⟩) hg _).setCell (p := ⟨g, 2, none⟩) hg _).setCell (p := ⟨g, 3, none⟩) hg _).setCell (p := ⟨g, 4, none⟩) hg _).setCell (p := ⟨g, 5, none⟩) hg _).setCell (p := ⟨g, 6, none⟩) hg _).setCell (p := ⟨g, 7, none⟩) hg _).setCell (p := ⟨g, 8, none⟩) hg _
theorem ch_set9 (w : World) (g : Nat) (u0 u1 u2 u3 u4 u5 u6 u7 u8 : Value) :
    Ch (fun i => i = g) w (((((((((w.setCell ⟨g, 0, none⟩ u0).setCell ⟨g, 1, none⟩ u1).setCell ⟨g, 2, none⟩ u2).setCell ⟨g, 3, none⟩ u3).setCell ⟨g, 4, none⟩ u4).setCell ⟨g, 5, none⟩ u5).setCell ⟨g, 6, none⟩ u6).setCell ⟨g, 7, none⟩ u7).setCell ⟨g, 8, none⟩ u8) :=
  (((((((((Ch.refl (fun i => i = g) w).set (p := ⟨g, 0, none⟩) (.inl rfl) _).set (p := ⟨g, 1, none⟩) (.inl rfl) _).set (p := ⟨g, 2, none⟩) (.inl rfl) _).set (p := ⟨g, 3, none⟩) (.inl rfl) _).set (p := ⟨g, 4, none⟩) (.inl rfl) _).set (p := ⟨g, 5, none⟩) (.inl rfl) _).set (p := ⟨g, 6, none⟩) (.inl rfl) _).set (p := ⟨g, 7, none⟩) (.inl rfl) _).set (p := ⟨g, 8, none⟩) (.inl rfl) _
theorem own_drew {w : World} {base s n : Nat} {e : TypeId} {v : Value} {xs : List Value} (h : w.ownsRow base e s v n xs) : w.drew.ownsRow base e s v n xs := h
theorem Rd.drew' {w : World} {s n : Nat} {A : Option Addr} {xs : List Value} (h : Rd w w.heap.size s A n xs) : Rd w.drew w.drew.heap.size s A n xs := h
def V3 (a b c : Int) : Nat → Int
  | 0 => a
  | 1 => b
  | _ => c
set_option maxHeartbeats 4000000 in
set_option maxRecDepth 100000 in
theorem getlocal_any (A : Option Addr) (n c : Nat) (a : Int) (L : List UInt8) (w : World) (hr : Rd w w.heap.size 1 A n (bys L)) (hnc : n ≤ c) (hn : n ≤ 1000000000) (ha : -9223372036854775808 ≤ a ∧ a ≤ 9223372036854775807) :
    Calls Try.prog 8 #[.slice A n c, .int .i64 a] w fun e w' => GHP w.heap.size (anyG glG 3 4 L a) e w' ∧ Below w.heap.size w w' := by
  have hll := hr.blen
  have Hr := Lib.hid hr
  have Hll := Lib.hid hll
  clear hr hll
  obtain ⟨p, hp⟩ : ∃ p : Nat, a.toNat = p := ⟨_, rfl⟩
  have Hp := Lib.hid hp
  obtain ⟨F, hF⟩ : ∃ F : Int, frG L a 3 4 = F := ⟨_, rfl⟩
  have HF := Lib.hid hF
  clear hp hF
  go_enter Try.func8, Try.ntmps8
  go_wp2_with fail
  refine (local_any _).mono ?_
  rintro e w1 ⟨rfl, hb1⟩
  have bl1 : Below w.heap.size w w1 := ((((Below.refl _ _).alloc (Nat.le_refl _) _).alloc (by simp) _).alloc (by simp <;> omega) _).trans (hb1.mono (by simp <;> omega))
  have rs1 : Bk w1 w.heap.size 35 hd0 := Bk.below (Bk.alloc (Bk.alloc (Bk.new w 35 hd0) _) _) hb1 (by simp <;> omega)
  have rr1 : RR w1 (w.heap.size + 1) A n c a 0 := Bk.below (Bk.alloc (Bk.new' _ _ _ (by simp)) _) hb1 (by simp <;> omega)
  have hd1 : Bk w1 (w.heap.size + 1 + 1) 35 (hdC 0 0 0 0 0 0 a (.slice none 0 0) false) := Bk.below (Bk.new' _ _ _ (by simp)) hb1 (by simp)
  have lg : w.heap.size < w.heap.size + 1 := by omega
  have lh : w.heap.size + 1 < w.heap.size + 1 + 1 := by omega
  clear hb1
  generalize w.heap.size + 1 + 1 = h at *
  generalize w.heap.size + 1 = g at *
  have hs := sign_q g A n c a 3 4 L w1 rr1 ((Hr.out.below bl1 (Nat.le_refl _)).more bl1.size) hnc hn
  rw [HF.out, Hp.out] at hs
  have Hs := Lib.hid hs
  have V1 := Lib.hid (And.intro bl1 (And.intro rs1 hd1))
  clear hs bl1 rs1 hd1 rr1
  go_wp2_with fail
  refine Hs.out.mono ?_
  rintro e w2 ⟨rfl, q2, k2⟩
  have V2 := Lib.hid (show Gl w w2 g h F A n c (p + 4) F (hdC 0 0 0 0 0 0 a (.slice none 0 0) false) from ⟨V1.out.1.trans (k2.below V1.out.1.size (fun i hi => by have : i = g := hi; omega)), V1.out.2.1.ch k2 (by omega), q2, V1.out.2.2.ch k2 (by omega), lg, lh⟩)
  have Hn := Lib.hid (num_q F g A n c (p + 4) 2 F L w2 V2.out.rq (V2.out.rb Hr.out) hnc hn (by omega))
  clear q2 k2 V1 Hs
  go_wp2_with fail
  refine Hn.out.mono ?_
  rintro e w3 ⟨x3, e3, rfl, _, _, i3, _, q3, k3⟩
  have V3 := Lib.hid (V2.out.step q3 k3)
  have I3 := Lib.hid i3
  have Hn := Lib.hid (core_q F g A n c (p + 4 + 2) w.heap.size e3 L h 0 0 0 0 0 0 a (.slice none 0 0) false w3 V3.out.rq (V3.out.rb' Hr.out) (by omega) (by omega) hnc hn V3.out.hd (by omega))
  clear q3 k3 V2 i3
  go_wp2_with fail
  refine Hn.out.mono ?_
  rintro e w4 ⟨f0, f1, f2, f3, f4, f5, e4, rfl, i4, q4, b4, k4⟩
  have V4 := Lib.hid (V3.out.to q4 b4 k4)
  have I4 := Lib.hid i4
  have Hn := Lib.hid (num_q F g A n c (p + 4 + 2 + 20) 2 e4 L w4 V4.out.rq (V4.out.rb Hr.out) hnc hn (by omega))
  clear q4 k4 b4 V3 i4
  go_wp2_with fail
  refine Hn.out.mono ?_
  rintro e w5 ⟨n1, e5, rfl, n1a, n1b, i5, _, q5, k5⟩
  obtain ⟨n1, rfl⟩ : ∃ k : Nat, n1 = k := ⟨n1.toNat, by omega⟩
  have V5 := Lib.hid (V4.out.step q5 k5)
  have I5 := Lib.hid i5
  have Hn := Lib.hid (num_q F g A n c (p + 4 + 2 + 20 + 2) 2 e5 L w5 V5.out.rq (V5.out.rb Hr.out) hnc hn (by omega))
  clear q5 k5 V4 i5
  go_wp2_with fail
  refine Hn.out.mono ?_
  rintro e w6 ⟨k1, e6, rfl, k1a, k1b, i6, _, q6, k6⟩
  obtain ⟨k1, rfl⟩ : ∃ k : Nat, k1 = k := ⟨k1.toNat, by omega⟩
  have V6 := Lib.hid (V5.out.step q6 k6)
  have I6 := Lib.hid i6
  have Her := Lib.hid (fun h => q6.er h)
  have Hn := Lib.hid (cut_q F g A n c (p + 4 + 2 + 20 + 2 + 2) n1 e6 L w6 V6.out.rq (V6.out.rb Hr.out) hnc hn)
  clear q6 k6 V5 i6
  have p2 : (256 : Int) ^ 2 = 65536 := by decide
  rw [p2] at n1b k1b
  clear p2
  go_wp2_with fail
  refine Hn.out.mono ?_
  rintro e w7 ⟨A7, m7, c7, l7, e7, rfl, hm7, i7, o7, hmn7, q7, k7⟩
  have v7 := V6.out.step q7 k7
  have hlt7 := v7.hd.lt
  have z7 : w7.frozen? ⟨h, 7, none⟩ = false := v7.hd.free 7
  have s7 : w7.cell? ⟨h, 7, none⟩ = some (.slice none 0 0) := v7.hd.cell 7
  have V7 : Hid (Gl w (w7.setCell ⟨h, 7, none⟩ (.slice A7 m7 c7)) g h F A n c (p + 4 + 2 + 20 + 2 + 2 + n1) e7 (hdC f0 f1 f2 f3 f4 f5 a (.slice A7 m7 c7) false)) := Lib.hid (v7.set 7 (.slice A7 m7 c7))
  have hsz6 : h < w6.heap.size := V6.out.hd.lt
  have O7 : Hid ((w7.setCell ⟨h, 7, none⟩ (.slice A7 m7 c7)).ownsRow w6.heap.size 5 1 (.slice A7 m7 c7) m7 (bys l7)) :=
    Lib.hid (own_ch o7 ((Ch.refl (fun i => i = h) w7).set (p := ⟨h, 7, none⟩) (.inl rfl) _) (fun i hi => by have := (o7.lt i hi).1; omega))
  have I7 := Lib.hid i7
  clear q7 k7 v7 i7 o7 V6 Hn
  go_wp2_with fail
  generalize w7.setCell ⟨h, 7, none⟩ (.slice A7 m7 c7) = w8 at *
  clear z7 s7 hlt7
  have Hn := Lib.hid (cut_q F g A n c (p + 4 + 2 + 20 + 2 + 2 + n1) k1 e7 L w8 V7.out.rq (V7.out.rb Hr.out) hnc hn)
  refine Hn.out.mono ?_
  rintro e w9 ⟨A9, m9, c9, l9, e9, rfl, hm9, i9, o9, hmn9, q9, k9⟩
  have v9 := V7.out.step q9 k9
  have V9 := Lib.hid v9
  have O9 := Lib.hid (own_ch O7.out k9 (fun i hi => by have := (O7.out.lt i hi).1; omega))
  have X9 := Lib.hid (Rd.of_own o9)
  have I9 := Lib.hid i9
  have d2 : w9.cell? ⟨g, 2, none⟩ = some (.int .i64 e9) := q9.c2
  obtain ⟨r0, r1, r2, r3, r4, r5, r6, r7, r8⟩ := cells9 v9.rs
  obtain ⟨z0, z1, z2, z3, z4, z5, z6, z7, z8⟩ := frees9 v9.rs
  have hlt := v9.rs.lt
  have hlg := v9.rq.lt
  clear Hn q9 k9 v9 i9 o9 O7 V7
  by_cases he : e9 = 0
  · subst he
    have hF0 := V9.out.rq.F0
    obtain ⟨h7, hle9, rfl, hl9⟩ := I9.out rfl
    obtain ⟨h6, _, hmn, hl7⟩ := I7.out h7
    obtain ⟨h5, _, hk1⟩ := I6.out h6
    obtain ⟨h4, _, hn1⟩ := I5.out h5
    obtain ⟨h3, _, hf0, hf1, hf2, hf3, hf4, hf5⟩ := I4.out.2 h4
    have hap : (p : Int) = a := by have := frG_nn (HF.out.trans hF0); have := Hp.out; omega
    have hN : (nAt L (p + 26) 2).toNat = n1 := by rw [show p + 26 = p + 4 + 2 + 20 by omega, ← hn1]; simp
    have hK : (nAt L (p + 28) 2).toNat = m9 := by rw [show p + 28 = p + 4 + 2 + 20 + 2 by omega, ← hk1]; simp
    have hl9' : l9 = (L.drop (p + 30 + n1)).take m9 := by rw [hl9, show p + 4 + 2 + 20 + 2 + 2 + n1 = p + 30 + n1 by omega]
    have hl7' : l7 = (L.drop (p + 30)).take n1 := by rw [hl7]
    have hle : p + 30 + n1 + m9 ≤ L.length := by rw [Hll.out]; omega
    have Hbad := Lib.hid (show widG l9 [f5, f4] = none → anyG glG 3 4 L a = .inl 4 from fun h => by
      rw [anyG_go (HF.out.trans hF0), Hp.out]
      exact glG_bad hN hK hle (by rw [← hl9', ← h, hf4, hf5]))
    have Hok := Lib.hid (show ∀ s cc wd, widG l9 [f5, f4] = some ([s, cc], wd) → anyG glG 3 4 L a = .inr ⟨f0, f1, f2, f3, cc, s, a, l7, wd, ((p + 4 + 2 + 20 + 2 + 2 + n1 + m9 : Nat) : Int)⟩ from fun s cc wd h => by
      rw [anyG_go (HF.out.trans hF0), Hp.out, glG_ok hN hK hle (by rw [← hl9', ← h, hf4, hf5]), hf0, hf1, hf2, hf3, hl7', hap])
    clear hF0 h7 hle9 hl9 h6 hmn hl7 h5 hk1 h4 hn1 h3 hf0 hf1 hf2 hf3 hf4 hf5 hap hN hK hl9' hl7' hle I3 I4 I5 I6 I7 I9 Her
    have vA := V9.out.alloc (.cells (ptC 2 h) 64)
    have hx9 := X9.out.alloc (Nat.le_refl _) (.cells (ptC 2 h) 64)
    have hw := widen_any A9 m9 c9 l9 w9.heap.size 2 2 h 64 f0 f1 f2 f3 (V3 f5 f4 a) (.slice A7 m7 c7) false (w9.alloc (.cells (ptC 2 h) 64)) (hx9.more (by simp)) hm9 (by omega) (by omega) (Nat.le_refl _) (Bk.new _ _ _) vA.hd (by have := V9.out.hd.lt; omega)
    have oA := O9.out.alloc (.cells (ptC 2 h) 64)
    rw [ptC_two] at vA hw oA
    have VA := Lib.hid vA
    have Hw := Lib.hid hw
    have OA := Lib.hid oA
    clear vA hw oA hx9 V9 O9 X9 r0 r1 r2 r3 r4 r5 r6 r7 r8 z0 z1 z2 z3 z4 z5 z6 z7 z8 hlt hlg
    go_wp2_with fail
    refine Hw.out.mono ?_
    rintro e w10 ⟨V', b1, b2, rfl, wq, b10, k10⟩
    have v10 := VA.out.to (VA.out.rq.ch k10 (by omega)) b10 (k10.mono (fun i h => .inr h))
    have o10 := own_ch OA.out k10 (fun i hi => by have := (OA.out.lt i hi).1; omega)
    have t8 : w10.cell? ⟨h, 8, none⟩ = some (.bool false) := v10.hd.cell 8
    have y8 : w10.frozen? ⟨h, 8, none⟩ = false := v10.hd.free 8
    have hlh := v10.hd.lt
    have V11 : Hid (Gl w (w10.setCell ⟨h, 8, none⟩ (.bool b1)) g h F A n c (p + 4 + 2 + 20 + 2 + 2 + n1 + m9) 0 (hdC f0 f1 f2 f3 (V' 1) (V' 0) (V' 2) (.slice A7 m7 c7) b1)) := Lib.hid (v10.set 8 (.bool b1))
    have O11 : Hid ((w10.setCell ⟨h, 8, none⟩ (.bool b1)).ownsRow w6.heap.size 5 1 (.slice A7 m7 c7) m7 (bys l7)) :=
      Lib.hid (own_ch o10 ((Ch.refl (fun i => i = h) w10).set (p := ⟨h, 8, none⟩) (.inl rfl) _) (fun i hi => by have := (o10.lt i hi).1; omega))
    have R10 := Lib.hid v10.rs
    clear v10 o10 b10 k10 VA Hw OA
    rcases wq with ⟨rfl, hwi, hkp⟩ | ⟨rfl, hwi⟩
    · have Hres := Lib.hid (Hok.out _ _ _ hwi)
      have Hv2 := Lib.hid (show V' 2 = a from hkp 2 (Nat.le_refl _))
      clear hwi hkp Hbad Hok d2
      go_wp2_with fail
      generalize w10.setCell ⟨h, 8, none⟩ (.bool b1) = w11 at *
      clear t8 y8 hlh
      obtain ⟨r0, r1, r2, r3, r4, r5, r6, r7, r8⟩ := cells9 V11.out.rs
      obtain ⟨z0, z1, z2, z3, z4, z5, z6, z7, z8⟩ := frees9 V11.out.rs
      obtain ⟨s0, s1, s2, s3, s4, s5, s6, s7, s8⟩ := cells9 V11.out.hd
      have c1 := V11.out.rq.c1
      have hlt := V11.out.rs.lt
      generalize p + 4 + 2 + 20 + 2 + 2 + n1 + m9 = P at *
      have Hq := Lib.hid ((V11.out.rs).set9 (.int .i64 f0) (.int .i64 f1) (.int .i64 f2) (.int .u32 f3) (.int .i64 (V' 1)) (.int .i64 (V' 0)) (.int .i64 (V' 2)) (.slice A7 m7 c7) (.bool b1))
      have Hrd := Lib.hid (own_drew (own_base (base' := w.heap.size) (own_ch O11.out (ch_set9 w11 w.heap.size (.int .i64 f0) (.int .i64 f1) (.int .i64 f2) (.int .u32 f3) (.int .i64 (V' 1)) (.int .i64 (V' 0)) (.int .i64 (V' 2)) (.slice A7 m7 c7) (.bool b1)) (fun i hi => by have := (O11.out.lt i hi).1; omega)) (by omega)))
      have Hbl := Lib.hid ((below_set9 V11.out.bl (Nat.le_refl _) (.int .i64 f0) (.int .i64 f1) (.int .i64 f2) (.int .u32 f3) (.int .i64 (V' 1)) (.int .i64 (V' 0)) (.int .i64 (V' 2)) (.slice A7 m7 c7) (.bool b1)).drew)
      generalize V' 0 = y0 at *
      generalize V' 1 = y1 at *
      generalize V' 2 = y2 at *
      clear ha k1a k1b n1a n1b Hp HF
      go_region
      all_goals
        go_wp2
        have q0 := Hq.out.cell 0
        have q1 := Hq.out.cell 1
        have q2 := Hq.out.cell 2
        have q3 := Hq.out.cell 3
        have q4 := Hq.out.cell 4
        have q5 := Hq.out.cell 5
        have q6 := Hq.out.cell 6
        have q7 := Hq.out.cell 7
        have q8 := Hq.out.cell 8
        refine bodyPost_ret (v := .tuple #[.agg (hdC f0 f1 f2 f3 y1 y0 y2 (.slice A7 m7 c7) b1), .int .i64 (P : Int), .int .i64 0]) (by simp [results, Try.results8, go_sem, hdC, q0, q1, q2, q3, q4, q5, q6, q7, q8, hlt]) rfl ⟨?_, Hbl.out⟩
        rw [Hres.out, ← Hv2.out]
        exact ⟨A7, m7, c7, rfl, hm7, Hrd.out⟩
    · have Hres := Lib.hid (Hbad.out hwi)
      clear hwi Hbad Hok d2
      obtain ⟨r0, r1, r2, r3, r4, r5, r6, r7, r8⟩ := cells9 R10.out
      obtain ⟨z0, z1, z2, z3, z4, z5, z6, z7, z8⟩ := frees9 R10.out
      have hlt := R10.out.lt
      clear ha
      go_wp2
      exact bodyPost_ret (v := .tuple #[.agg hd0, .int .i64 0, .int .i64 4]) (by simp [results, Try.results8, go_sem, hd0, hdC, r0, r1, r2, r3, r4, r5, r6, r7, r8, hlt]) rfl ⟨by rw [Hres.out]; rfl, below_set9 V11.out.bl (Nat.le_refl _) _ _ _ _ _ _ _ _ _⟩
  · have hb9 : (e9 != 0) = true := by simpa using he
    have Hres := Lib.hid (show anyG glG 3 4 L a = .inl e9 by
      rcases V9.out.rq.er he with ⟨h1, h2, h3⟩ | ⟨h1, h2⟩
      · rw [anyG_go (by rw [HF.out]; exact h1), Hp.out, h2]
        refine glG_end ?_
        by_cases h6 : e6 = 0
        · obtain ⟨h5, _, hk1⟩ := I6.out h6
          obtain ⟨h4, _, hn1⟩ := I5.out h5
          right
          rw [Hll.out, show p + 26 = p + 4 + 2 + 20 by omega, ← hn1, show p + 28 = p + 4 + 2 + 20 + 2 by omega, ← hk1]
          simp
          omega
        · rcases Her.out h6 with ⟨_, _, h3⟩ | ⟨h4, _⟩
          · left; rw [Hll.out]; omega
          · exact absurd h1 h4
      · rw [anyG_no (by rw [HF.out]; exact h1), HF.out, h2])
    clear he
    go_wp2_with fail
    go_region
    all_goals
      go_wp2
      exact bodyPost_ret (v := .tuple #[.agg hd0, .int .i64 0, .int .i64 e9]) (by simp [results, Try.results8, go_sem, hd0, hdC, r0, r1, r2, r3, r4, r5, r6, r7, r8, hlt]) rfl ⟨by rw [Hres.out]; rfl, (below_set9 V9.out.bl (Nat.le_refl _) _ _ _ _ _ _ _ _ _).drew⟩
end Go.Proofs.Ytbdehlphblbmoaa
