/- Contracts of package inflate: Get. -/
import Derived.Test.YtnedboomhbdecaaInfX
namespace Go.Proofs.Ytnedboomhbdecaa
open Go.RowKit
attribute [local go_sem ↓] Go.wp_at_zero Go.wp_at_succ

/-- How Get ends. -/
def GeR (w0 : World) (base g gi : Nat) (S : Nat → Prop) (L : List UInt8) (c0 : Cf) (m : Nat) (e : Ending) (w : World) : Prop :=
  ∃ (E : Int) (A : Option Addr) (n co : Nat) (c : Cf), e = .returned (.tuple #[.slice A n co, .int .i64 E]) ∧ c.out.length = n ∧ n ≤ m ∧ n ≤ co ∧ Rd w w.heap.size 1 A n (bys c.out) ∧ Rn (bitsB L) c0 c ∧ Below base w0 w ∧
    ((E = 0 ∧ (m ≤ n ∨ c.st = 4) ∧ c.st ≤ 4 ∧ RdS w S gi L c.a ∧ ¬ S g ∧ ∃ A' co' v7 v8, Bk w g 95 #[.pointer (some ⟨gi, 0, none⟩), .slice A' n co', .int .i64 (n : Int), .int .i64 (c.st : Int), .bool c.last, .int .i64 (c.left : Int), .int .i64 (c.back : Int), v7, v8]) ∨
     (E ≠ 0 ∧ n < m ∧ c.st ≠ 4 ∧ stC (bitsB L) c = none))
set_option maxHeartbeats 4000000 in
set_option maxRecDepth 100000 in
theorem get_any (base g gi : Nat) (S : Nat → Prop) (L : List UInt8) (c : Cf) (vo v7 v8 : Value) (w : World) (h : UN w base g gi S L c vo v7 v8) (m : Nat) (hm : m ≤ 30000) (hbase : base ≤ w.heap.size) (hout : c.out.length ≤ m) :
    Calls Try.prog 49 #[.pointer (some ⟨g, 0, none⟩), .int .i64 m] w fun e w' => GeR w base g gi S L c m e w' := by
  have hstep := step_any base g gi S L c vo v7 v8 w w h (Below.refl _ _) m hm hbase hout
  have Hstep := Lib.hid hstep
  clear hstep h
  have hmin : min (m : Int) 65536 = (m : Int) := by omega
  go_enter Try.func49, Try.ntmps49
  go_wp2_with fail
  refine Hstep.out.mono ?_
  rintro e w1 ⟨E, rfl, hres⟩
  have hx : ∃ (c1 : Cf) (vo1 z3 z4 z5 z6 z7 z8 : Value), Bk w1 g 95 #[.pointer (some ⟨gi, 0, none⟩), vo1, .int .i64 0, z3, z4, z5, z6, z7, z8] ∧ w1.ownsRow base 5 1 vo1 c1.out.length (bys c1.out) ∧ c1.out.length ≤ m ∧ base ≤ g ∧ Below base w w1 ∧ Rn (bitsB L) c c1 ∧
      ((E = 0 ∧ (m ≤ c1.out.length ∨ c1.st = 4) ∧ c1.st ≤ 4 ∧ RdS w1 S gi L c1.a ∧ ¬ S g ∧ z3 = .int .i64 (c1.st : Int) ∧ z4 = .bool c1.last ∧ z5 = .int .i64 (c1.left : Int) ∧ z6 = .int .i64 (c1.back : Int)) ∨ (E ≠ 0 ∧ c1.out.length < m ∧ c1.st ≠ 4 ∧ stC (bitsB L) c1 = none)) := by
    rcases hres with ⟨hE, c1, vo1, y7, y8, hu, hrn, hle, hor, hbl⟩ | ⟨hE, c1, vo1, ⟨a, z3, z5, z6, z7, z8, z4, hbk, hub⟩, hrn, hlt, h4, hsc, hbl⟩
    · exact ⟨c1, vo1, _, _, _, _, _, _, hu.bk, hu.ub.ow, hle, hu.ub.lo, hbl, hrn, .inl ⟨hE, hor, hu.bd.2, hu.ub.rd, hu.ub.sg, rfl, rfl, rfl, rfl⟩⟩
    · exact ⟨c1, vo1, _, _, _, _, _, _, hbk, hub.ow, by omega, hub.lo, hbl, hrn, .inr ⟨hE, hlt, h4, hsc⟩⟩
  obtain ⟨c1, vo1, z3, z4, z5, z6, z7, z8, hbk, how, hle, hlo, hbl, hrn, hfin⟩ := hx
  obtain ⟨Ao, co, rfl, hco, _⟩ := own_form how
  have q1 : w1.cell? ⟨g, 1, none⟩ = some (.slice Ao c1.out.length co) := hbk.cell 1
  have q2 : w1.cell? ⟨g, 2, none⟩ = some (.int .i64 0) := hbk.cell 2
  have f2 : w1.frozen? ⟨g, 2, none⟩ = false := hbk.free 2
  have hw1 : IntKind.i64.wrap (c1.out.length : Int) = c1.out.length := IntWalk.i64_in _ (by omega)
  have hmin2 : min (c1.out.length : Int) (m : Int) = (c1.out.length : Int) := by omega
  have hol : c1.out.length ≤ 30000 := by omega
  have Hbk := Lib.hid hbk
  have How := Lib.hid how
  have Hbl := Lib.hid hbl
  have Hrn := Lib.hid hrn
  have Hfin := Lib.hid hfin
  have Hle := Lib.hid hle
  have Hlo := Lib.hid hlo
  clear hres hbk how hbl hrn hfin hle hlo Hstep hout
  go_wp2_with fail
  go_quiet (fail)
  go_wp2_with fail
  have hz : IntKind.i64.wrap ((0 : Int) + (c1.out.length : Int)) = c1.out.length := by rw [Int.zero_add]; exact hw1
  have Hbk2 := Lib.hid (Hbk.out.drewN nq)
  have How2 := Lib.hid (show (w1.drewN nq).ownsRow base 5 1 (.slice Ao c1.out.length co) c1.out.length (bys c1.out) from own_ch How.out ((Ch.refl (fun _ => False) w1).drewN nq) (fun i _ h => h))
  have Hbl2 := Lib.hid (below_drewN Hbl.out nq)
  have hc12 : Ch (fun _ => False) w1 (w1.drewN nq) := (Ch.refl _ w1).drewN nq
  have Hc12 := Lib.hid hc12
  clear hc12
  generalize w1.drewN nq = w2 at *
  have q1' : w2.cell? ⟨g, 1, none⟩ = some (.slice Ao c1.out.length co) := Hbk2.out.cell 1
  have q2' : w2.cell? ⟨g, 2, none⟩ = some (.int .i64 0) := Hbk2.out.cell 2
  have f2' : w2.frozen? ⟨g, 2, none⟩ = false := Hbk2.out.free 2
  go_still_tail 15, (by kernel_rfl)
  change wpList _ _ _ _ _ w2.drew
  at_builtin
  refine ap_bys (base := base) (w0 := w2.drew) (own_nilB _ _ _) (Rd.of_own (show w2.drew.ownsRow base 5 1 (.slice Ao c1.out.length co) c1.out.length (bys c1.out) from How2.out)) (Below.refl _ _) (show base ≤ w2.drew.heap.size from Nat.le_trans hbase Hbl2.out.size) (by omega) (by rfl) (by rfl) (by rfl) ?_
  intro v4 w4 hown4 hb4 hg4 hat4
  rw [Nat.zero_add, List.nil_append] at hown4
  obtain ⟨A4, c4, rfl, hco4, _⟩ := own_form hown4
  have hbk4 := (Bk.drew Hbk2.out).grown hg4 (by simp [Value.ownBlock])
  have k2 : w4.cell? ⟨g, 2, none⟩ = some (.int .i64 0) := hbk4.cell 2
  have l2 : w4.frozen? ⟨g, 2, none⟩ = false := hbk4.free 2
  have hset := hbk4.set 2 (.int .i64 (c1.out.length : Int))
  have hsl := slide_any g c1.out.length (w4.setCell ⟨g, 2, none⟩ (.int .i64 (c1.out.length : Int))) (hset.cell 2) (by omega)
  have Hsl := Lib.hid hsl
  have Hset := Lib.hid hset
  have Hb4 := Lib.hid hb4
  have Hown4 := Lib.hid hown4
  have Hg4 := Lib.hid hg4
  have Hat4 := Lib.hid hat4
  clear hsl hset hb4 hown4 hg4 hat4 hbk4
  go_wp2_with fail
  refine Hsl.out.mono ?_
  rintro e w5 ⟨rfl, rfl⟩
  go_wp2_with fail
  go_ret2
  have hlt := Hbk2.out.lt
  have hc5 : Ch (fun i => i = g) w2 (w4.setCell ⟨g, 2, none⟩ (.int .i64 (c1.out.length : Int))) := (((Ch.refl (fun i => i = g) w2).drew).grown Hg4.out (fun i hi => by cases hi)).set (p := ⟨g, 2, none⟩) (.inl rfl) _
  have hne : (Value.slice A4 c1.out.length c4).ownBlock ≠ some g := fun h => by
    rcases Hat4.out with e | e
    · rw [e] at h; cases h
    · rw [e] at h; injection h with h; have : w2.drew.heap.size = w2.heap.size := rfl; omega
  have hown5 := own_ch Hown4.out ((Ch.refl (fun i => i = g) w4).set (p := ⟨g, 2, none⟩) (.inl rfl) (.int .i64 (c1.out.length : Int))) (fun i hi e => by subst e; exact hne hi)
  refine ⟨E, A4, c1.out.length, c4, c1, rfl, rfl, Hle.out, hco4, Rd.of_own hown5, Hrn.out, Hbl2.out.trans (hc5.below (Nat.le_trans hbase Hbl2.out.size) (fun i hi => hi ▸ Hlo.out)), ?_⟩
  rcases Hfin.out with ⟨hE, h1, h2, hr, hS, rfl, rfl, rfl, rfl⟩ | h
  · exact .inl ⟨hE, h1, h2, (hr.ch Hc12.out (fun _ _ h => h)).ch hc5 (fun i hi e => hS (e ▸ hi)), hS, Ao, co, z7, z8, Hset.out⟩
  · exact .inr h
end Go.Proofs.Ytnedboomhbdecaa
