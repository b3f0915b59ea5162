/- Contracts of package node: the reader's num. -/
import Derived.Test.YtelaliokmmaopaaDoorNod9
import Derived.Test.YtelaliokmmaopaaDoorRecP
namespace Go.Proofs.YtelaliokmmaopaaDoor
open Go.RowKit
attribute [local go_sem ↓] Go.wp_at_zero Go.wp_at_succ

/-- A node's reader. -/
def NR (w : World) (g : Nat) (A : Option Addr) (n c p : Nat) (wl : Bool) : Prop := Bk w g 50 #[.slice A n c, .int .i64 (p : Int), .bool wl]
/-- What follows a read. -/
theorem nr_next {w w1 : World} {g n c p x : Nat} {A : Option Addr} {wl b : Bool} (h : NR w g A n c p wl) (hb : Below w.heap.size w.drew w1) :
    NR ((w1.setCell ⟨g, 1, none⟩ (.int .i64 ((p : Int) + (x : Int)))).setCell ⟨g, 2, none⟩ (.bool b)) g A n c (p + x) b ∧ Ch (fun i => i = g) w ((w1.setCell ⟨g, 1, none⟩ (.int .i64 ((p : Int) + (x : Int)))).setCell ⟨g, 2, none⟩ (.bool b)) := by
  have h1 : NR w1 g A n c p wl := Bk.below (Bk.drew h) hb (Bk.lt h)
  have h2 := (Bk.set h1 1 (.int .i64 ((p : Int) + (x : Int)))).set 2 (.bool b)
  simp only [List.setIfInBounds_toArray, List.set_cons_zero, List.set_cons_succ] at h2
  have h3 : Ch (fun i => i = g) w w1 := (Ch.refl _ w).drew.trans (Ch.of_below (S := fun _ => False) hb (Nat.le_refl _)) (fun _ h => h.elim)
  exact ⟨by rw [show ((p : Int) + (x : Int)) = ((p + x : Nat) : Int) by omega] at h2 ⊢; exact h2, (h3.set (p := ⟨g, 1, none⟩) (.inl rfl) _).set (p := ⟨g, 2, none⟩) (.inl rfl) _⟩
set_option maxHeartbeats 2000000 in
theorem nnum_any (g : Nat) (A : Option Addr) (n c p x : Nat) (wl : Bool) (L : List UInt8) (w : World) (h : NR w g A n c p wl) (hr : Rd w w.heap.size 1 A n (bys L)) (hnc : n ≤ c) (hn : n ≤ 1000000) (hp : p ≤ 100000000) (hx : 1 ≤ x ∧ x ≤ 7) :
    Calls Tryd.prog 22 #[.pointer (some ⟨g, 0, none⟩), .int .i64 x] w fun e' w' => ∃ (v : Int) (wl' : Bool), e' = .returned (.int .i64 v) ∧ 0 ≤ v ∧ v < 256 ^ x ∧ (wl' = true → wl = true ∧ p + x ≤ n ∧ v = nAt L p x) ∧ (wl' = false → wl = false ∨ n < p + x) ∧ NR w' g A n c (p + x) wl' ∧ Ch (fun i => i = g) w w' := by
  have hwid : wid (x : Int) = x := wid_in _ (by omega) (by omega)
  have c0 : w.cell? ⟨g, 0, none⟩ = some (.slice A n c) := Bk.cell h 0
  have c1 : w.cell? ⟨g, 1, none⟩ = some (.int .i64 (p : Int)) := Bk.cell h 1
  have hS : ∀ w1, Below w.heap.size w.drew w1 → (w1.cell? ⟨g, 0, none⟩ = some (.slice A n c) ∧ w1.cell? ⟨g, 1, none⟩ = some (.int .i64 (p : Int)) ∧ w1.cell? ⟨g, 2, none⟩ = some (.bool wl)) ∧ w1.frozen? ⟨g, 1, none⟩ = false ∧ w1.frozen? ⟨g, 2, none⟩ = false := by
    intro w1 hb
    have h1 : NR w1 g A n c p wl := Bk.below (Bk.drew h) hb (Bk.lt h)
    exact ⟨⟨Bk.cell h1 0, Bk.cell h1 1, Bk.cell h1 2⟩, Bk.free h1 1, Bk.free h1 2⟩
  have HS := Lib.hid hS
  have hlt := Bk.lt h
  have h256 : (0 : Int) < 256 ^ x := Int.pow_pos (by omega)
  by_cases hk : p + x ≤ n
  · have hg := get_ok A n c p (x : Int) L w.drew hr.drew hnc (by rw [hwid]; omega) (by omega)
    rw [hwid, Int.toNat_natCast] at hg
    have Hg := Lib.hid hg
    have Hv := Lib.hid (And.intro (nAt_nn L p x) (nAt_lt L p x))
    have hnum : leN ((L.drop p).take x) = nAt L p x := rfl
    rw [hnum] at Hg
    have H := Lib.hid h
    clear hg hnum h hS hwid h256 hr
    generalize nAt L p x = v at *
    cases wl
    · go_enter Tryd.func22, Tryd.ntmps22
      go_wp2_with fail
      go_region_held3 (fun w' => w'.cell? ⟨g, 0, none⟩ = some (.slice A n c) ∧ w'.cell? ⟨g, 1, none⟩ = some (.int .i64 (p : Int))) (first | (exact ⟨c0, c1⟩) | (exact ⟨k0, k1⟩))
        (first | ((go_at_call 42; (with_reducible refine Hg.out.mono ?_); rintro e w1 ⟨rfl, hb1⟩; obtain ⟨⟨k0, k1, k2⟩, f1, f2⟩ := HS.out w1 hb1)))
      have hfin := Lib.hid (nr_next (x := x) (b := false) H.out hb1)
      clear c0 c1 HS Hg
      go_wp2
      go_ret
      exact ⟨v, false, rfl, Hv.out.1, Hv.out.2, (fun h => by cases h), (fun _ => by simp), hfin.out.1, hfin.out.2⟩
    · go_enter Tryd.func22, Tryd.ntmps22
      go_wp2_with fail
      go_region_held3 (fun w' => w'.cell? ⟨g, 0, none⟩ = some (.slice A n c) ∧ w'.cell? ⟨g, 1, none⟩ = some (.int .i64 (p : Int))) (first | (exact ⟨c0, c1⟩) | (exact ⟨k0, k1⟩))
        (first | ((go_at_call 42; (with_reducible refine Hg.out.mono ?_); rintro e w1 ⟨rfl, hb1⟩; obtain ⟨⟨k0, k1, k2⟩, f1, f2⟩ := HS.out w1 hb1)))
      have hfin := Lib.hid (nr_next (x := x) (b := true) H.out hb1)
      clear c0 c1 HS Hg
      go_wp2
      go_ret
      exact ⟨v, true, rfl, Hv.out.1, Hv.out.2, (fun _ => ⟨by simp, hk, rfl⟩), (fun h => by cases h), hfin.out.1, hfin.out.2⟩
  · have hg := get_end A n c (p : Int) (x : Int) w.drew (by omega) (by omega) (by rw [hwid]; omega)
    have Hg := Lib.hid hg
    have H := Lib.hid h
    have H2 := Lib.hid h256
    have f1 : w.frozen? ⟨g, 1, none⟩ = false := Bk.free h 1
    have f2 : w.frozen? ⟨g, 2, none⟩ = false := Bk.free h 2
    have c2 : w.cell? ⟨g, 2, none⟩ = some (.bool wl) := Bk.cell h 2
    clear hg h hS hwid h256 hr
    cases wl
    all_goals
      go_enter Tryd.func22, Tryd.ntmps22
      go_wp2_with fail
      go_region_held3 (fun w' => w'.cell? ⟨g, 0, none⟩ = some (.slice A n c) ∧ w'.cell? ⟨g, 1, none⟩ = some (.int .i64 (p : Int))) (first | (exact ⟨c0, c1⟩) | (exact ⟨c0, c1⟩))
        (first | ((go_at_call 42; (with_reducible refine Hg.out.mono ?_); rintro e w1 ⟨rfl, rfl⟩)))
      have hfin := Lib.hid (nr_next (x := x) (b := false) H.out (Below.refl w.drew.heap.size w.drew))
      clear HS Hg
      go_wp2
      go_ret
      exact ⟨0, false, rfl, Int.le_refl _, H2.out, (fun h => by cases h), (fun _ => .inr (by omega)), hfin.out.1, hfin.out.2⟩
end Go.Proofs.YtelaliokmmaopaaDoor
