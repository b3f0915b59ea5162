/- Contracts of package record: core, item. -/
import Derived.Test.YtbdehlphblbmoaaRecH
namespace Go.Proofs.Ytbdehlphblbmoaa
open Go.RowKit
attribute [local go_sem ↓] Go.wp_at_zero Go.wp_at_succ

/-- A head's cells. -/
def hdC (f0 f1 f2 f3 cs sz at_ : Int) (nm : Value) (wd : Bool) : Array Value := #[.int .i64 f0, .int .i64 f1, .int .i64 f2, .int .u32 f3, .int .i64 cs, .int .i64 sz, .int .i64 at_, nm, .bool wd]
/-- What core has read. -/
def CoR (L : List UInt8) (n P : Nat) (e e1 v0 v1 v2 v3 v4 v5 : Int) : Prop :=
  (0 ≤ v4 ∧ v4 ≤ 4294967295 ∧ 0 ≤ v5 ∧ v5 ≤ 4294967295) ∧ (e1 = 0 → e = 0 ∧ P + 20 ≤ n ∧ v0 = nAt L P 2 ∧ v1 = nAt L (P + 2) 2 ∧ v2 = nAt L (P + 4) 4 ∧ v3 = nAt L (P + 8) 4 ∧ v4 = nAt L (P + 12) 4 ∧ v5 = nAt L (P + 16) 4)
theorem Bk.hd3 {w : World} {h : Nat} {f0 f1 f2 f3 f4 f5 at_ : Int} {nm : Value} {wd : Bool} (hb : Bk w h 35 (hdC f0 f1 f2 f3 f4 f5 at_ nm wd)) (v0 v1 v2 : Int) :
    Bk (((w.setCell ⟨h, 0, none⟩ (.int .i64 v0)).setCell ⟨h, 1, none⟩ (.int .i64 v1)).setCell ⟨h, 2, none⟩ (.int .i64 v2)) h 35 (hdC v0 v1 v2 f3 f4 f5 at_ nm wd) :=
  ((hb.set 0 (.int .i64 v0)).set 1 (.int .i64 v1)).set 2 (.int .i64 v2)
theorem Bk.hd6 {w : World} {h : Nat} {f0 f1 f2 f3 f4 f5 at_ : Int} {nm : Value} {wd : Bool} (hb : Bk w h 35 (hdC f0 f1 f2 f3 f4 f5 at_ nm wd)) (v3 v4 v5 : Int) :
    Bk (((w.setCell ⟨h, 3, none⟩ (.int .u32 v3)).setCell ⟨h, 4, none⟩ (.int .i64 v4)).setCell ⟨h, 5, none⟩ (.int .i64 v5)) h 35 (hdC f0 f1 f2 v3 v4 v5 at_ nm wd) :=
  ((hb.set 3 (.int .u32 v3)).set 4 (.int .i64 v4)).set 5 (.int .i64 v5)
set_option maxHeartbeats 2000000 in
theorem core_q (F : Int) (g : Nat) (A : Option Addr) (n c P B : Nat) (e : Int) (L : List UInt8) (h : Nat) (f0 f1 f2 f3 f4 f5 at_ : Int) (nm : Value) (wd : Bool) (w : World) (hq : RQ F w g A n c P e) (hr : Rd w B 1 A n (bys L)) (hBg : B ≤ g) (hBh : B ≤ h) (hnc : n ≤ c) (hn : n ≤ 1000000000)
    (hb : Bk w h 35 (hdC f0 f1 f2 f3 f4 f5 at_ nm wd)) (hne : ¬ h = g) :
    Calls Try.prog 23 #[.pointer (some ⟨g, 0, none⟩), .pointer (some ⟨h, 0, none⟩)] w fun e' w' => ∃ v0 v1 v2 v3 v4 v5 e1 : Int, e' = .returned (.tuple #[]) ∧ CoR L n P e e1 v0 v1 v2 v3 v4 v5 ∧ RQ F w' g A n c (P + 20) e1 ∧ Bk w' h 35 (hdC v0 v1 v2 v3 v4 v5 at_ nm wd) ∧ Ch (fun i => i = g ∨ i = h) w w' := by
  have hrW : ∀ W, Ch (fun i => i = g ∨ i = h) w W → Rd W W.heap.size 1 A n (bys L) := fun W hc => (hr.ch hc (by have := hq.lt; omega) (fun i hi => by rcases hi with rfl | rfl <;> omega)).more (by have := hc.size; have := hq.lt; omega)
  have n1 := num_q F g A n c P 2 e L w hq (hr.more (by have := hq.lt; omega)) hnc hn (by omega)
  have hlt := hb.lt
  have Hn1 := Lib.hid n1
  have Hb := Lib.hid hb
  have HR := Lib.hid hrW
  clear n1 hq hr hb hrW hBg hBh
  go_enter Try.func23, Try.ntmps23
  go_wp2_with fail
  refine Hn1.out.mono ?_
  rintro e' w1 ⟨v0, e1, rfl, a0, b0, i0, _, q1, c1⟩
  have C1 := Lib.hid (c1.mono (fun i h => .inl h) : Ch (fun i => i = g ∨ i = h) w w1)
  have B1 := Lib.hid (Hb.out.ch c1 hne)
  have Hn2 := Lib.hid (num_q F g A n c (P + 2) 2 e1 L w1 q1 (HR.out _ C1.out) hnc hn (by omega))
  have I0 := Lib.hid i0
  clear q1 c1 i0 Hn1 Hb
  go_wp2_with fail
  refine Hn2.out.mono ?_
  rintro e' w2 ⟨v1, e2, rfl, a1, b1, i1, _, q2, c2⟩
  have C2 := Lib.hid (C1.out.trans c2 (fun i h => .inl (.inl h)))
  have B2 := Lib.hid (B1.out.ch c2 hne)
  have Hn3 := Lib.hid (num_q F g A n c (P + 2 + 2) 4 e2 L w2 q2 (HR.out _ C2.out) hnc hn (by omega))
  have I1 := Lib.hid i1
  clear q2 c2 i1 Hn2 C1 B1
  go_wp2_with fail
  refine Hn3.out.mono ?_
  rintro e' w3 ⟨v2, e3, rfl, a2, b2, i2, _, q3, c3⟩
  have hz3 : h < w3.heap.size := by have := C2.out.size; have := c3.size; omega
  have C3 := Lib.hid ((((C2.out.trans c3 (fun i h => .inl (.inl h))).set (p := ⟨h, 0, none⟩) (.inl (.inr rfl)) (.int .i64 v0)).set (p := ⟨h, 1, none⟩) (.inl (.inr rfl)) (.int .i64 v1)).set (p := ⟨h, 2, none⟩) (.inl (.inr rfl)) (.int .i64 v2))
  have hb3 := B2.out.ch c3 hne
  have B3 := Lib.hid (hb3.hd3 v0 v1 v2)
  have k0 : w3.cell? ⟨h, 0, none⟩ = some (.int .i64 f0) := hb3.cell 0
  have k1 : w3.cell? ⟨h, 1, none⟩ = some (.int .i64 f1) := hb3.cell 1
  have k2 : w3.cell? ⟨h, 2, none⟩ = some (.int .i64 f2) := hb3.cell 2
  have z0 : w3.frozen? ⟨h, 0, none⟩ = false := hb3.free 0
  have z1 : w3.frozen? ⟨h, 1, none⟩ = false := hb3.free 1
  have z2 : w3.frozen? ⟨h, 2, none⟩ = false := hb3.free 2
  have Q3 := Lib.hid (q3.ch (((Ch.refl (fun i => i = h) w3).set (p := ⟨h, 0, none⟩) (.inl rfl) (.int .i64 v0)).set (p := ⟨h, 1, none⟩) (.inl rfl) (.int .i64 v1) |>.set (p := ⟨h, 2, none⟩) (.inl rfl) (.int .i64 v2)) (fun e => hne e.symm))
  have I2 := Lib.hid i2
  clear q3 c3 i2 Hn3 C2 B2 hb3
  go_wp2_with fail
  generalize ((w3.setCell ⟨h, 0, none⟩ (.int .i64 v0)).setCell ⟨h, 1, none⟩ (.int .i64 v1)).setCell ⟨h, 2, none⟩ (.int .i64 v2) = w4 at *
  clear k0 k1 k2 z0 z1 z2 hz3
  have Hn4 := Lib.hid (num_q F g A n c (P + 2 + 2 + 4) 4 e3 L w4 Q3.out (HR.out _ C3.out) hnc hn (by omega))
  refine Hn4.out.mono ?_
  rintro e' w5 ⟨v3, e4, rfl, a3, b3, i3, _, q4, c4⟩
  have C4 := Lib.hid (C3.out.trans c4 (fun i h => .inl (.inl h)))
  have B4 := Lib.hid (B3.out.ch c4 hne)
  have Hn5 := Lib.hid (num_q F g A n c (P + 2 + 2 + 4 + 4) 4 e4 L w5 q4 (HR.out _ C4.out) hnc hn (by omega))
  have I3 := Lib.hid i3
  have p4 : (256 : Int) ^ 4 = 4294967296 := by decide
  have p2 : (256 : Int) ^ 2 = 65536 := by decide
  rw [p4] at b3 b2
  rw [p2] at b0 b1
  have hw3 : IntKind.u32.wrap v3 = v3 := by rw [IntKind.wrap_u32]; omega
  clear q4 c4 i3 Hn4 C3 B3 Q3 p2
  go_wp2_with fail
  refine Hn5.out.mono ?_
  rintro e' w6 ⟨v4, e5, rfl, a4, b4, i4, _, q5, c5⟩
  have C5 := Lib.hid (C4.out.trans c5 (fun i h => .inl (.inl h)))
  have B5 := Lib.hid (B4.out.ch c5 hne)
  have Hn6 := Lib.hid (num_q F g A n c (P + 2 + 2 + 4 + 4 + 4) 4 e5 L w6 q5 (HR.out _ C5.out) hnc hn (by omega))
  have I4 := Lib.hid i4
  rw [p4] at b4
  clear q5 c5 i4 Hn5 C4 B4
  go_wp2_with fail
  refine Hn6.out.mono ?_
  rintro e' w7 ⟨v5, e6, rfl, a5, b5, i5, _, q6, c6⟩
  rw [p4] at b5
  have hz7 : h < w7.heap.size := by have := C5.out.size; have := c6.size; omega
  have C6 := Lib.hid ((((C5.out.trans c6 (fun i h => .inl (.inl h))).set (p := ⟨h, 3, none⟩) (.inl (.inr rfl)) (.int .u32 v3)).set (p := ⟨h, 4, none⟩) (.inl (.inr rfl)) (.int .i64 v4)).set (p := ⟨h, 5, none⟩) (.inl (.inr rfl)) (.int .i64 v5))
  have hb6 := B5.out.ch c6 hne
  have B6 := Lib.hid (hb6.hd6 v3 v4 v5)
  have k0 : w7.cell? ⟨h, 3, none⟩ = some (.int .u32 f3) := hb6.cell 3
  have k1 : w7.cell? ⟨h, 4, none⟩ = some (.int .i64 f4) := hb6.cell 4
  have k2 : w7.cell? ⟨h, 5, none⟩ = some (.int .i64 f5) := hb6.cell 5
  have z0 : w7.frozen? ⟨h, 3, none⟩ = false := hb6.free 3
  have z1 : w7.frozen? ⟨h, 4, none⟩ = false := hb6.free 4
  have z2 : w7.frozen? ⟨h, 5, none⟩ = false := hb6.free 5
  have Q6 := Lib.hid (q6.ch (((Ch.refl (fun i => i = h) w7).set (p := ⟨h, 3, none⟩) (.inl rfl) (.int .u32 v3)).set (p := ⟨h, 4, none⟩) (.inl rfl) (.int .i64 v4) |>.set (p := ⟨h, 5, none⟩) (.inl rfl) (.int .i64 v5)) (fun e => hne e.symm))
  have I5 := Lib.hid i5
  have Hco := Lib.hid (show CoR L n P e e6 v0 v1 v2 v3 v4 v5 from ⟨by omega, fun h0 => by
    obtain ⟨h5, j5, k5⟩ := I5.out h0
    obtain ⟨h4, j4, k4⟩ := I4.out h5
    obtain ⟨h3, j3, k3⟩ := I3.out h4
    obtain ⟨h2, j2, k2⟩ := I2.out h3
    obtain ⟨h1, j1, k1⟩ := I1.out h2
    obtain ⟨h0, j0, k0⟩ := I0.out h1
    exact ⟨h0, by omega, k0, k1, k2, k3, k4, k5⟩⟩)
  clear q6 c6 i5 Hn6 C5 B5 hb6 I0 I1 I2 I3 I4 I5
  go_wp2
  go_end0
  exact ⟨v0, v1, v2, v3, v4, v5, e6, rfl, Hco.out, Q6.out, B6.out, C6.out⟩
end Go.Proofs.Ytbdehlphblbmoaa
