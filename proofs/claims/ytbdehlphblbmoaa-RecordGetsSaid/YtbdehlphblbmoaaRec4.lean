/- Contracts of package record: the reader's sign. -/
import Derived.Test.YtbdehlphblbmoaaRec3
import Derived.Stop.BytesEq
namespace Go.Proofs.Ytbdehlphblbmoaa
open Go.RowKit
attribute [local go_sem ↓] Go.wp_at_zero Go.wp_at_succ

theorem sz8 (W : World) : (sizeOf 5).run Try.prog W = .ok 1 W := by
  obtain ⟨i0, hi, hz0, hz1, hz2⟩ := info_parts infoB
  simp [sizeOf, typeInfo, hi, hz1]
/-- Two signs: are they unlike? -/
theorem neq_sgn (W : World) (a b : List UInt8) (ha : a.length = 4) (hb : b.length = 4) :
    (binOp .neq 51 (.agg (bys a).toArray) (.agg (bys b).toArray)).run Try.prog W = .ok (.bool (!(a == b))) W := by
  rw [run_neq_struct]
  have := run_equalIn_bytes (P := Try.prog) W 9998 51 5 4 Try.underlying51 Try.underlying5 sz8 a b ha hb
  have e : ∀ l : List UInt8, bys l = l.map Extern.Stop.cell := fun l => rfl
  rw [e, e, this]
  rfl
/-- The error behind a sign. -/
def sgnE (b : Bool) : Int := if b then 0 else 4
/-- A sign as a value. -/
def sgV (c d : UInt8) : Value := .agg #[.int .u8 80, .int .u8 75, .int .u8 (c.toNat : Int), .int .u8 (d.toNat : Int)]
set_option maxHeartbeats 1000000 in
theorem rsign_end (g : Nat) (A : Option Addr) (n c k : Nat) (x y : UInt8) (w : World) (h : RR w g A n c k 0) (hn : n ≤ 1000000000) (hk : n < k + 4) :
    Calls Try.prog 15 #[.pointer (some ⟨g, 0, none⟩), sgV x y] w fun e' w' => e' = .returned (.tuple #[]) ∧ RR w' g A n c k 3 ∧ Ch (fun i => i = g) w w' := by
  unfold sgV
  have hlt := RR.lt h
  have h1 : RR (w.alloc (.cells #[.int .u8 80, .int .u8 75, .int .u8 (x.toNat : Int), .int .u8 (y.toNat : Int)] 51)) g A n c k 0 := Bk.alloc h _
  have hc := rcut_end g A n c k 4 _ h1 hn hk
  have h0 : Ch (fun i => i = g) w (w.alloc (.cells #[.int .u8 80, .int .u8 75, .int .u8 (x.toNat : Int), .int .u8 (y.toNat : Int)] 51)) := (Ch.refl _ w).alloc _
  have Hc := Lib.hid hc
  have H0 := Lib.hid h0
  clear hc h0 h1 h
  go_enter Try.func15, Try.ntmps15
  go_wp2_with fail
  refine Hc.out.mono ?_
  rintro e w1 ⟨rfl, hr1, hc1⟩
  have c2 : w1.cell? ⟨g, 2, none⟩ = some (.int .i64 3) := Bk.cell hr1 2
  have hfin := H0.out.trans hc1 (fun i h => .inl h)
  have Hfin := Lib.hid (And.intro hr1 hfin)
  clear Hc H0 hr1 hfin hc1
  go_wp2_with fail
  go_quiet (fail)
  go_wp2
  go_end0
  exact ⟨rfl, Bk.drewN Hfin.out.1 _, Hfin.out.2.drewN _⟩
set_option maxHeartbeats 1000000 in
theorem rsign_in (g : Nat) (A : Option Addr) (n c k : Nat) (x y : UInt8) (L : List UInt8) (w : World) (h : RR w g A n c k 0) (hr : Rd w w.heap.size 1 A n (bys L)) (hnc : n ≤ c) (hn : n ≤ 1000000000) (hk : k + 4 ≤ n) :
    Calls Try.prog 15 #[.pointer (some ⟨g, 0, none⟩), sgV x y] w fun e' w' => e' = .returned (.tuple #[]) ∧ RR w' g A n c ((k + 4 : Nat) : Int) (sgnE (sgnB L k x y)) ∧ Ch (fun i => i = g) w w' := by
  unfold sgV
  have hlt := RR.lt h
  have h1 : RR (w.alloc (.cells #[.int .u8 80, .int .u8 75, .int .u8 (x.toNat : Int), .int .u8 (y.toNat : Int)] 51)) g A n c k 0 := Bk.alloc h _
  have hc := rcut_ok g A n c k 4 L _ h1 ((hr.alloc (Nat.le_refl _) _).more (by simp)) hnc hn hk
  have h0 : Ch (fun i => i = g) w (w.alloc (.cells #[.int .u8 80, .int .u8 75, .int .u8 (x.toNat : Int), .int .u8 (y.toNat : Int)] 51)) := (Ch.refl _ w).alloc _
  have hbs := Bk.new w 51 #[.int .u8 80, .int .u8 75, .int .u8 (x.toNat : Int), .int .u8 (y.toNat : Int)]
  have hll := hr.blen
  obtain ⟨a0, a1, a2, a3, h4⟩ : ∃ a0 a1 a2 a3, (L.drop k).take 4 = [a0, a1, a2, a3] := by
    have : ((L.drop k).take 4).length = 4 := by rw [List.length_take, List.length_drop]; omega
    match hd : (L.drop k).take 4, this with
    | [a0, a1, a2, a3], _ => exact ⟨a0, a1, a2, a3, rfl⟩
  have hsg : sgnB L k x y = decide ([a0, a1, a2, a3] = [80, 75, x, y]) := by unfold sgnB; rw [h4]
  rw [h4] at hc
  have Hsg := Lib.hid hsg
  have Hc := Lib.hid hc
  have H0 := Lib.hid h0
  have Hbs := Lib.hid hbs
  clear hc h0 h1 h hbs hsg h4 hll
  go_enter Try.func15, Try.ntmps15
  go_wp2_with fail
  refine Hc.out.mono ?_
  rintro e w1 ⟨v1, rfl, hown1, hr1, hc1⟩
  obtain ⟨g1, c1, rfl, hg1, hgl1, hcc1⟩ := own_pos hown1 (by omega)
  have d0 := own_byte hown1 (j := 0) (by omega)
  have d1 := own_byte hown1 (j := 1) (by omega)
  have d2 := own_byte hown1 (j := 2) (by omega)
  have d3 := own_byte hown1 (j := 3) (by omega)
  simp only [List.getElem?_cons_zero, List.getElem?_cons_succ, Option.getD_some] at d0 d1 d2 d3
  have hbs1 := Hbs.out.ch hc1 (by intro e; omega)
  have s0 : w1.cell? ⟨w.heap.size, 0, none⟩ = some (.int .u8 80) := hbs1.cell 0
  have s1 : w1.cell? ⟨w.heap.size, 1, none⟩ = some (.int .u8 75) := hbs1.cell 1
  have s2 : w1.cell? ⟨w.heap.size, 2, none⟩ = some (.int .u8 (x.toNat : Int)) := hbs1.cell 2
  have s3 : w1.cell? ⟨w.heap.size, 3, none⟩ = some (.int .u8 (y.toNat : Int)) := hbs1.cell 3
  have c2 : w1.cell? ⟨g, 2, none⟩ = some (.int .i64 0) := Bk.cell hr1 2
  have f2 : w1.frozen? ⟨g, 2, none⟩ = false := Bk.free hr1 2
  have hfin := H0.out.trans hc1 (fun i h => .inl h)
  have Hfin := Lib.hid (And.intro hr1 hfin)
  clear Hc H0 hr1 hfin hc1 hown1 hbs1
  have hra := fun (W : World) => run_arrayAt (P := Try.prog) (w := W) 51 5 4 (some ⟨g1, 0, none⟩) 4 c1 Try.underlying51 (Nat.le_refl _)
  have hnq := fun (W : World) => neq_sgn W [a0, a1, a2, a3] [80, 75, x, y] rfl rfl
  have hbeq : ([a0, a1, a2, a3] == [80, 75, x, y]) = decide ([a0, a1, a2, a3] = [80, 75, x, y]) := by rw [Bool.eq_iff_iff]; simp
  rw [hbeq, ← Hsg.out] at hnq
  clear hbeq
  have hbb : ∀ l : List UInt8, (bys l).toArray = (l.map fun u => Value.int .u8 (u.toNat : Int)).toArray := fun l => rfl
  have e80 : ((80 : UInt8).toNat : Int) = 80 := rfl
  have e75 : ((75 : UInt8).toNat : Int) = 75 := rfl
  simp only [hbb, List.map_cons, List.map_nil, e80, e75] at hnq
  clear e80 e75
  clear hbb
  rcases Bool.eq_false_or_eq_true (sgnB L k x y) with hs | hs
  · have Hp := Lib.hid (show sgnE (sgnB L k x y) = 0 by rw [hs]; rfl)
    rw [hs] at hnq
    clear hs Hsg Hbs
    go_wp2_with fail
    go_quiet (fail)
    go_wp2
    go_end0
    refine ⟨rfl, ?_, Hfin.out.2.drewN _⟩
    rw [Hp.out]
    exact Bk.drewN Hfin.out.1 _
  · have Hp := Lib.hid (show sgnE (sgnB L k x y) = 4 by rw [hs]; rfl)
    rw [hs] at hnq
    clear hs Hsg Hbs
    go_wp2_with fail
    go_quiet (fail)
    go_wp2
    go_end0
    refine ⟨rfl, ?_, (Hfin.out.2.drewN _).set (p := ⟨g, 2, none⟩) (.inl rfl) _⟩
    rw [Hp.out]
    have h2 := Bk.set (Bk.drewN Hfin.out.1 nq) 2 (.int .i64 4)
    simp only [List.setIfInBounds_toArray, List.set_cons_zero, List.set_cons_succ] at h2
    exact h2
end Go.Proofs.Ytbdehlphblbmoaa
