/- Contracts of package node: child, cell, Right. -/
import Derived.Test.YtelaliokmmaopaaDoorNod2
import Derived.Deep.QuietTactic
import Derived.BigQuiet
namespace Go.Proofs.YtelaliokmmaopaaDoor
open Go.RowKit
attribute [local go_sem ↓] Go.wp_at_zero Go.wp_at_succ

theorem compare_same (A A2 : Option Addr) (n c m d : Nat) (l r : List UInt8) (w : World) (hl : Rd w w.heap.size 1 A n (bys l)) (hr : Rd w w.heap.size 1 A2 m (bys r)) :
    Calls Tryd.prog 32 #[.slice A n c, .slice A2 m d] w fun e w' => e = .returned (.int .i64 (Lib.compareBytes l r)) ∧ w' = w :=
  (compare_any A A2 n c m d l r w hl hr).mono fun _ _ ⟨h1, h2⟩ => ⟨h1, h2.symm⟩
/-- Is it a child? -/
def childB (k : Int) : Bool := decide (1 ≤ k ∧ k < 16777216)
theorem childB_iff {k : Int} : childB k = true ↔ childP k := by unfold childB childP; simp
theorem child_any (k : Int) (w : World) : Calls Tryd.prog 37 #[.int .i64 k] w fun e w' => e = .returned (.bool (childB k)) ∧ w = w' := by
  by_cases h1 : 1 ≤ k
  · by_cases h2 : k < 16777216
    · have Hc := Lib.hid (show childB k = true by unfold childB; simp [h1, h2])
      go_enter Tryd.func37, Tryd.ntmps37
      go_wp2
      all_goals
        go_ret
        exact ⟨ret_bool (Eq.trans (by first | rfl | (simp; done) | (simp; omega) | (rw [Bool.eq_iff_iff]; simp; omega) | (simp_all; done)) Hc.out.symm), rfl⟩
    · have Hc := Lib.hid (show childB k = false by unfold childB; simp [h2])
      go_enter Tryd.func37, Tryd.ntmps37
      go_wp2
      all_goals
        go_ret
        exact ⟨ret_bool (Eq.trans (by first | rfl | (simp; done) | (simp; omega) | (rw [Bool.eq_iff_iff]; simp; omega) | (simp_all; done)) Hc.out.symm), rfl⟩
  · have Hc := Lib.hid (show childB k = false by unfold childB; simp [h1])
    have h1' : decide (1 ≤ k) = false := by simpa using h1
    go_enter Tryd.func37, Tryd.ntmps37
    go_wp2
    all_goals
      go_ret
      exact ⟨ret_bool (Eq.trans (by first | rfl | (simp; done) | (simp; omega) | (rw [Bool.eq_iff_iff]; simp; omega) | (simp_all; done)) Hc.out.symm), rfl⟩
/-- A cell as it is handed over. -/
def clC (Ak : Option Addr) (nk ck : Nat) (Av : Option Addr) (nv cv : Nat) (over long : Int) : Array Value := #[.slice Ak nk ck, .slice Av nv cv, .int .i64 over, .int .i64 long]
noncomputable def cellB (c : CellP) : Bool := @decide (cellP c) (Classical.propDecidable _)
theorem cellB_true {c : CellP} (h : cellP c) : cellB c = true := by unfold cellB; exact @decide_eq_true _ (Classical.propDecidable _) h
theorem cellB_false {c : CellP} (h : ¬ cellP c) : cellB c = false := by unfold cellB; exact @decide_eq_false _ (Classical.propDecidable _) h
set_option maxHeartbeats 1000000 in
theorem cell_any (Ak : Option Addr) (nk ck : Nat) (Av : Option Addr) (nv cv : Nat) (c : CellP) (w : World) (hv : c.val.length = nv) :
    Calls Tryd.prog 34 #[.agg (clC Ak nk ck Av nv cv c.over c.long)] w fun e w' => e = .returned (.bool (cellB c)) ∧ Below w.heap.size w w' := by
  unfold clC
  by_cases h0 : c.over = 0
  · by_cases h1 : c.long = 0
    · have Hc := Lib.hid (show cellB c = decide (nv ≤ 64) by
        by_cases h : nv ≤ 64
        · rw [cellB_true (by unfold cellP; rw [if_pos h0]; exact ⟨h1, by omega⟩), decide_eq_true h]
        · rw [cellB_false (by unfold cellP; rw [if_pos h0]; intro k; omega), decide_eq_false h])
      generalize cellB c = r at *
      generalize c.over = x at *
      generalize c.long = y at *
      subst h0 h1
      clear hv
      go_enter Tryd.func34, Tryd.ntmps34
      go_wp2
      all_goals
        go_ret
        exact ⟨ret_bool (Eq.trans (by first | rfl | (simp; done) | (simp; omega) | (rw [Bool.eq_iff_iff]; simp; omega) | (simp_all; done)) Hc.out.symm), (Below.refl _ _).alloc (Nat.le_refl _) _⟩
    · have Hc := Lib.hid (show cellB c = false from cellB_false (by unfold cellP; rw [if_pos h0]; intro k; exact h1 k.1))
      generalize cellB c = r at *
      generalize c.over = x at *
      generalize c.long = y at *
      have h1' : (y == 0) = false := by simpa using h1
      subst h0
      clear hv h1
      go_enter Tryd.func34, Tryd.ntmps34
      go_wp2
      all_goals
        go_ret
        exact ⟨ret_bool (Eq.trans (by first | rfl | (simp; done) | (simp; omega) | (rw [Bool.eq_iff_iff]; simp; omega) | (simp_all; done)) Hc.out.symm), (Below.refl _ _).alloc (Nat.le_refl _) _⟩
  · have h0' : (c.over == 0) = false := by simpa using h0
    have hch := fun W => child_any c.over W
    have Hc := Lib.hid (show cellB c = (childB c.over && (decide (64 < c.long) && (decide (c.long ≤ 20000) && decide (nv = 0)))) by
      by_cases h : cellP c
      · rw [cellB_true h]
        unfold cellP at h
        rw [if_neg h0] at h
        rw [childB_iff.2 h.1]
        simp [h.2.1, h.2.2.1]
        omega
      · rw [cellB_false h]
        symm
        rw [Bool.eq_false_iff]
        intro k
        apply h
        simp only [Bool.and_eq_true, decide_eq_true_eq] at k
        unfold cellP
        rw [if_neg h0]
        exact ⟨childB_iff.1 k.1, k.2.1, k.2.2.1, by omega⟩)
    generalize cellB c = r at *
    generalize hb : childB c.over = cb at *
    generalize c.over = x at *
    generalize c.long = y at *
    have Hch := Lib.hid hch
    clear hv h0 hch hb
    cases cb
    · go_enter Tryd.func34, Tryd.ntmps34
      go_wp2_with fail
      refine (Hch.out _).mono ?_
      rintro e w1 ⟨rfl, rfl⟩
      go_wp2
      all_goals
        go_ret
        exact ⟨ret_bool (Eq.trans (by first | rfl | (simp; done) | (simp; omega) | (rw [Bool.eq_iff_iff]; simp; omega) | (simp_all; done)) Hc.out.symm), (Below.refl _ _).alloc (Nat.le_refl _) _⟩
    · by_cases h1 : 64 < y
      · by_cases h2 : y ≤ 20000
        · go_enter Tryd.func34, Tryd.ntmps34
          go_wp2_with fail
          refine (Hch.out _).mono ?_
          rintro e w1 ⟨rfl, rfl⟩
          go_wp2
          all_goals
            go_ret
            exact ⟨ret_bool (Eq.trans (by first | rfl | (simp; done) | (simp; omega) | (rw [Bool.eq_iff_iff]; simp; omega) | (simp_all; done)) Hc.out.symm), (Below.refl _ _).alloc (Nat.le_refl _) _⟩
        · go_enter Tryd.func34, Tryd.ntmps34
          go_wp2_with fail
          refine (Hch.out _).mono ?_
          rintro e w1 ⟨rfl, rfl⟩
          go_wp2
          all_goals
            go_ret
            exact ⟨ret_bool (Eq.trans (by first | rfl | (simp; done) | (simp; omega) | (rw [Bool.eq_iff_iff]; simp; omega) | (simp_all; done)) Hc.out.symm), (Below.refl _ _).alloc (Nat.le_refl _) _⟩
      · go_enter Tryd.func34, Tryd.ntmps34
        go_wp2_with fail
        refine (Hch.out _).mono ?_
        rintro e w1 ⟨rfl, rfl⟩
        go_wp2
        all_goals
          go_ret
          exact ⟨ret_bool (Eq.trans (by first | rfl | (simp; done) | (simp; omega) | (rw [Bool.eq_iff_iff]; simp; omega) | (simp_all; done)) Hc.out.symm), (Below.refl _ _).alloc (Nat.le_refl _) _⟩
end Go.Proofs.YtelaliokmmaopaaDoor
