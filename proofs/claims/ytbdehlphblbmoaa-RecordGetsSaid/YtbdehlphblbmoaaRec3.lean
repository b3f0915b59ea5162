/- Contracts of package record: the reader's cut. -/
import Derived.Test.YtbdehlphblbmoaaRec2
namespace Go.Proofs.Ytbdehlphblbmoaa
open Go.RowKit
attribute [local go_sem ↓] Go.wp_at_zero Go.wp_at_succ

theorem rcut_err (g : Nat) (A : Option Addr) (n c : Nat) (p e x : Int) (w : World) (h : RR w g A n c p e) (he : e ≠ 0) :
    Calls Try.prog 24 #[.pointer (some ⟨g, 0, none⟩), .int .i64 x] w fun e' w' => e' = .returned (.slice none 0 0) ∧ w = w' := by
  have c2 : w.cell? ⟨g, 2, none⟩ = some (.int .i64 e) := Bk.cell h 2
  have hb : (e != 0) = true := by rw [bne_iff_ne]; exact he
  clear h
  go_enter Try.func24, Try.ntmps24
  go_wp2
  go_ret
  exact ⟨rfl, rfl⟩
set_option maxHeartbeats 1000000 in
theorem rcut_ok (g : Nat) (A : Option Addr) (n c k m : Nat) (L : List UInt8) (w : World) (h : RR w g A n c k 0) (hr : Rd w w.heap.size 1 A n (bys L)) (hnc : n ≤ c) (hn : n ≤ 1000000000) (hk : k + m ≤ n) :
    Calls Try.prog 24 #[.pointer (some ⟨g, 0, none⟩), .int .i64 m] w fun e' w' => ∃ v, e' = .returned v ∧ w'.ownsRow w.heap.size 5 1 v m (bys ((L.drop k).take m)) ∧ RR w' g A n c ((k + m : Nat) : Int) 0 ∧ Ch (fun i => i = g) w w' := by
  have hg := cut_ok A n c k m L w.drew hr.drew hnc hk (by omega)
  have c0 : w.cell? ⟨g, 0, none⟩ = some (.slice A n c) := Bk.cell h 0
  have c1 : w.cell? ⟨g, 1, none⟩ = some (.int .i64 (k : Int)) := Bk.cell h 1
  have c2 : w.cell? ⟨g, 2, none⟩ = some (.int .i64 0) := Bk.cell h 2
  have hS : ∀ w1, Below w.heap.size w.drew w1 → (w1.cell? ⟨g, 0, none⟩ = some (.slice A n c) ∧ w1.cell? ⟨g, 1, none⟩ = some (.int .i64 (k : Int)) ∧ w1.cell? ⟨g, 2, none⟩ = some (.int .i64 0)) ∧ w1.frozen? ⟨g, 1, none⟩ = false ∧ w1.frozen? ⟨g, 2, none⟩ = false := by
    intro w1 hb
    have h1 : RR w1 g A n c k 0 := Bk.below (Bk.drew h) hb (Bk.lt h)
    exact ⟨⟨Bk.cell h1 0, Bk.cell h1 1, Bk.cell h1 2⟩, Bk.free h1 1, Bk.free h1 2⟩
  have hch : ∀ w1 v, Below w.heap.size w.drew w1 → w1.ownsRow w.heap.size 5 1 v m (bys ((L.drop k).take m)) → Ch (fun i => i = g) w ((w1.setCell ⟨g, 2, none⟩ (.int .i64 0)).setCell ⟨g, 1, none⟩ (.int .i64 ((k + m : Nat) : Int))) ∧ RR ((w1.setCell ⟨g, 2, none⟩ (.int .i64 0)).setCell ⟨g, 1, none⟩ (.int .i64 ((k + m : Nat) : Int))) g A n c ((k + m : Nat) : Int) 0 ∧
      ((w1.setCell ⟨g, 2, none⟩ (.int .i64 0)).setCell ⟨g, 1, none⟩ (.int .i64 ((k + m : Nat) : Int))).ownsRow w.heap.size 5 1 v m (bys ((L.drop k).take m)) := by
    intro w1 v hb ho
    have hlt := Bk.lt h
    have h1 : RR w1 g A n c k 0 := Bk.below (Bk.drew h) hb hlt
    have h2 := (Bk.set h1 2 (.int .i64 0)).set 1 (.int .i64 ((k + m : Nat) : Int))
    simp only [List.setIfInBounds_toArray, List.set_cons_zero, List.set_cons_succ] at h2
    have h3 : Ch (fun i => i = g) w w1 := (Ch.refl _ w).drew.trans (Ch.of_below (S := fun _ => False) hb (Nat.le_refl _)) (fun _ h => h.elim)
    exact ⟨(h3.set (p := ⟨g, 2, none⟩) (.inl rfl) _).set (p := ⟨g, 1, none⟩) (.inl rfl) _, h2,
      own_apart (own_apart ho (gb_set (World.grownBy.refl _ _) 2 _) (fun i hi => by injection hi with hi; omega)) (gb_set (World.grownBy.refl _ _) 1 _) (fun i hi => by injection hi with hi; omega)⟩
  have Hg := Lib.hid hg
  have HS := Lib.hid hS
  have Hch := Lib.hid hch
  clear hg hS hch h
  go_enter Try.func24, Try.ntmps24
  go_wp2_with fail
  go_region_held3 (fun w' => w'.cell? ⟨g, 0, none⟩ = some (.slice A n c) ∧ w'.cell? ⟨g, 1, none⟩ = some (.int .i64 (k : Int))) (first | (exact ⟨c0, c1⟩) | (exact ⟨k0, k1⟩))
    (first
      | ((go_at_call 39; (with_reducible refine Hg.out.mono ?_); rintro e w1 ⟨v1, rfl, hown1, hb1⟩; obtain ⟨⟨k0, k1, k2⟩, f1, f2⟩ := HS.out w1 hb1)))
  have hfin := Hch.out w1 v1 hb1 hown1
  have Hfin := Lib.hid hfin
  clear hfin c0 c1 c2 HS Hch Hg hown1
  go_wp2
  go_ret
  exact ⟨v1, rfl, Hfin.out.2.2, Hfin.out.2.1, Hfin.out.1⟩
set_option maxHeartbeats 1000000 in
theorem rcut_end (g : Nat) (A : Option Addr) (n c k m : Nat) (w : World) (h : RR w g A n c k 0) (hn : n ≤ 1000000000) (hk : n < k + m) :
    Calls Try.prog 24 #[.pointer (some ⟨g, 0, none⟩), .int .i64 m] w fun e' w' => e' = .returned (.slice none 0 0) ∧ RR w' g A n c k 3 ∧ Ch (fun i => i = g) w w' := by
  have hg := cut_end A n c (k : Int) (m : Int) w.drew (by omega) (by omega) (by omega) (by omega)
  have c0 : w.cell? ⟨g, 0, none⟩ = some (.slice A n c) := Bk.cell h 0
  have c1 : w.cell? ⟨g, 1, none⟩ = some (.int .i64 (k : Int)) := Bk.cell h 1
  have c2 : w.cell? ⟨g, 2, none⟩ = some (.int .i64 0) := Bk.cell h 2
  have f2 : w.frozen? ⟨g, 2, none⟩ = false := Bk.free h 2
  have hfin : RR (w.drew.setCell ⟨g, 2, none⟩ (.int .i64 3)) g A n c k 3 ∧ Ch (fun i => i = g) w (w.drew.setCell ⟨g, 2, none⟩ (.int .i64 3)) := by
    have h2 := Bk.set (Bk.drew h) 2 (.int .i64 3)
    simp only [List.setIfInBounds_toArray, List.set_cons_zero, List.set_cons_succ] at h2
    exact ⟨h2, (Ch.refl (fun i => i = g) w).drew.set (p := ⟨g, 2, none⟩) (.inl rfl) _⟩
  have Hg := Lib.hid hg
  have Hfin := Lib.hid hfin
  clear hg hfin h
  go_enter Try.func24, Try.ntmps24
  go_wp2_with fail
  go_region_held3 (fun w' => w'.cell? ⟨g, 0, none⟩ = some (.slice A n c) ∧ w'.cell? ⟨g, 1, none⟩ = some (.int .i64 (k : Int))) (first | (exact ⟨c0, c1⟩) | (exact ⟨c0, c1⟩))
    (first
      | ((go_at_call 39; (with_reducible refine Hg.out.mono ?_); rintro e w1 ⟨rfl, rfl⟩)))
  clear Hg
  go_wp2
  go_ret
  exact ⟨rfl, Hfin.out.1, Hfin.out.2⟩
end Go.Proofs.Ytbdehlphblbmoaa
