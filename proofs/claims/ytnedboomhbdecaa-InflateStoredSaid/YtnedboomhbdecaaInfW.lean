/- Contracts of package inflate: slide, Done. -/
import Derived.Test.YtnedboomhbdecaaInfV
namespace Go.Proofs.Ytnedboomhbdecaa
open Go.RowKit
attribute [local go_sem ↓] Go.wp_at_zero Go.wp_at_succ

theorem slide_any (g at' : Nat) (w : World) (h2 : w.cell? ⟨g, 2, none⟩ = some (.int .i64 (at' : Int))) (hat : at' ≤ 32768) : Calls Try.prog 63 #[.pointer (some ⟨g, 0, none⟩)] w fun e w' => e = .returned (.tuple #[]) ∧ w = w' := by
  have hd : decide (32768 < at') = false := by simp; omega
  go_enter Try.func63, Try.ntmps63
  go_wp2
  go_end0
  exact ⟨rfl, rfl⟩
/-- Whether all is unpacked. -/
def dnB (st : Nat) (last : Bool) (left : Nat) : Bool := st == 4 || last && (st == 0 || st == 1 && left == 0)
set_option maxRecDepth 100000 in
theorem done_any (g n co : Nat) (Ao : Option Addr) (st left : Nat) (last : Bool) (c0 c6 v7 v8 : Value) (w : World) (hst : st ≤ 4)
    (h : Bk w g 95 #[c0, .slice Ao n co, .int .i64 (n : Int), .int .i64 (st : Int), .bool last, .int .i64 (left : Int), c6, v7, v8]) :
    Calls Try.prog 50 #[.pointer (some ⟨g, 0, none⟩)] w fun e w' => e = .returned (.bool (dnB st last left)) ∧ (∃ st' : Nat, Bk w' g 95 #[c0, .slice Ao n co, .int .i64 (n : Int), .int .i64 (st' : Int), .bool last, .int .i64 (left : Int), c6, v7, v8] ∧ (dnB st last left = true → st' = 4)) ∧ Ch (fun i => i = g) w w' := by
  have q1 : w.cell? ⟨g, 1, none⟩ = some (.slice Ao n co) := h.cell 1
  have q2 : w.cell? ⟨g, 2, none⟩ = some (.int .i64 (n : Int)) := h.cell 2
  have q3 : w.cell? ⟨g, 3, none⟩ = some (.int .i64 (st : Int)) := h.cell 3
  have q4 : w.cell? ⟨g, 4, none⟩ = some (.bool last) := h.cell 4
  have q5 : w.cell? ⟨g, 5, none⟩ = some (.int .i64 (left : Int)) := h.cell 5
  have f3 : w.frozen? ⟨g, 3, none⟩ = false := h.free 3
  have H := Lib.hid h
  clear h
  have hfin : ∀ q : Nat, Bk ((w.drewN q).setCell ⟨g, 3, none⟩ (.int .i64 4)) g 95 #[c0, .slice Ao n co, .int .i64 (n : Int), .int .i64 (4 : Nat), .bool last, .int .i64 (left : Int), c6, v7, v8] ∧ Ch (fun i => i = g) w ((w.drewN q).setCell ⟨g, 3, none⟩ (.int .i64 4)) := fun q =>
    ⟨(H.out.drewN q).set 3 _, ((Ch.refl (fun i => i = g) w).drewN q).set (p := ⟨g, 3, none⟩) (.inl rfl) _⟩
  have Hfin := Lib.hid hfin
  clear hfin
  go_enter Try.func50, Try.ntmps50
  go_wp2_with fail
  go_quiet (fail)
  cases last with
  | false =>
    have h4 : ((st : Int) == 4) = (st == 4) := by rw [Bool.eq_iff_iff]; simp; omega
    go_wp2_with fail
    go_ret
    refine ⟨by simp [dnB], ⟨st, H.out.drewN _, fun h => ?_⟩, (Ch.refl _ w).drewN _⟩
    simpa [dnB] using h
  | true =>
    rcases (show st = 0 ∨ st = 1 ∨ st = 2 ∨ st = 3 ∨ st = 4 by omega) with rfl | rfl | rfl | rfl | rfl
    · clear hst
      have q3' : w.cell? ⟨g, 3, none⟩ = some (.int .i64 0) := q3
      clear q3
      go_wp2_with fail
      go_ret
      exact ⟨by simp [dnB], ⟨4, (Hfin.out _).1, fun _ => rfl⟩, (Hfin.out _).2⟩
    · clear hst
      have q3' : w.cell? ⟨g, 3, none⟩ = some (.int .i64 1) := q3
      clear q3
      by_cases hl : left = 0
      · have h5d : ((left : Int) == 0) = true := by simp [hl]
        have Hl := Lib.hid hl
        clear hl
        go_wp2_with fail
        go_ret
        exact ⟨by simp [dnB, Hl.out], ⟨4, (Hfin.out _).1, fun _ => rfl⟩, (Hfin.out _).2⟩
      · have h5d : ((left : Int) == 0) = false := by simp [hl]
        have Hl := Lib.hid hl
        clear hl
        go_wp2_with fail
        go_ret
        exact ⟨by simp [dnB, Hl.out], ⟨_, H.out.drewN _, fun h => by simp [dnB, Hl.out] at h⟩, (Ch.refl _ w).drewN _⟩
    · clear hst
      have q3' : w.cell? ⟨g, 3, none⟩ = some (.int .i64 2) := q3
      clear q3
      go_wp2_with fail
      go_ret
      exact ⟨by simp [dnB], ⟨_, H.out.drewN _, fun h => by simp [dnB] at h⟩, (Ch.refl _ w).drewN _⟩
    · clear hst
      have q3' : w.cell? ⟨g, 3, none⟩ = some (.int .i64 3) := q3
      clear q3
      go_wp2_with fail
      go_ret
      exact ⟨by simp [dnB], ⟨_, H.out.drewN _, fun h => by simp [dnB] at h⟩, (Ch.refl _ w).drewN _⟩
    · clear hst
      have q3' : w.cell? ⟨g, 3, none⟩ = some (.int .i64 4) := q3
      clear q3
      go_wp2_with fail
      go_ret
      exact ⟨by simp [dnB], ⟨_, H.out.drewN _, fun _ => rfl⟩, (Ch.refl _ w).drewN _⟩
end Go.Proofs.Ytnedboomhbdecaa
