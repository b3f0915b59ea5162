/- Contracts of package record: the reader. -/
import Derived.Test.YtbdehlphblbmoaaRecP
import Derived.Test.YtbdehlphblbmoaaWord2
import Derived.Test.YtbdehlphblbmoaaCh
import Derived.Deep.RegionHeld3
import Derived.Deep.DrawnRows
namespace Go.Proofs.Ytbdehlphblbmoaa
open Go.RowKit
attribute [local go_sem ↓] Go.wp_at_zero Go.wp_at_succ

/-- A reader's block. -/
def RR (w : World) (g : Nat) (A : Option Addr) (n c : Nat) (p e : Int) : Prop := Bk w g 48 #[.slice A n c, .int .i64 p, .int .i64 e]
theorem num_err (g : Nat) (A : Option Addr) (n c : Nat) (p e x : Int) (w : World) (h : RR w g A n c p e) (he : e ≠ 0) :
    Calls Try.prog 17 #[.pointer (some ⟨g, 0, none⟩), .int .i64 x] w fun e' w' => e' = .returned (.int .i64 0) ∧ w = w' := by
  have c2 : w.cell? ⟨g, 2, none⟩ = some (.int .i64 e) := h.cell 2
  have hb : (e != 0) = true := by rw [bne_iff_ne]; exact he
  clear h
  go_enter Try.func17, Try.ntmps17
  go_wp2
  go_ret
  exact ⟨rfl, rfl⟩
set_option maxHeartbeats 1000000 in
theorem num_ok (g : Nat) (A : Option Addr) (n c k x : Nat) (L : List UInt8) (w : World) (h : RR w g A n c k 0) (hr : Rd w w.heap.size 1 A n (bys L)) (hnc : n ≤ c) (hn : n ≤ 1000000000) (hx : 1 ≤ x ∧ x ≤ 7) (hk : k + x ≤ n) :
    Calls Try.prog 17 #[.pointer (some ⟨g, 0, none⟩), .int .i64 x] w fun e' w' => e' = .returned (.int .i64 (nAt L k x)) ∧ RR w' g A n c ((k + x : Nat) : Int) 0 ∧ Ch (fun i => i = g) w w' := by
  have hwid : wid (x : Int) = x := wid_in _ (by omega) (by omega)
  have hg := fun (W : World) (hW : Rd W W.heap.size 1 A n (bys L)) => get_ok A n c k (x : Int) L W hW hnc (by rw [hwid]; omega) (by omega)
  rw [hwid, Int.toNat_natCast] at hg
  have c0 : w.cell? ⟨g, 0, none⟩ = some (.slice A n c) := h.cell 0
  have c1 : w.cell? ⟨g, 1, none⟩ = some (.int .i64 (k : Int)) := h.cell 1
  have c2 : w.cell? ⟨g, 2, none⟩ = some (.int .i64 0) := h.cell 2
  have hS : ∀ w1, Below w.heap.size w.drew w1 → (w1.cell? ⟨g, 0, none⟩ = some (.slice A n c) ∧ w1.cell? ⟨g, 1, none⟩ = some (.int .i64 (k : Int)) ∧ w1.cell? ⟨g, 2, none⟩ = some (.int .i64 0)) ∧ w1.frozen? ⟨g, 1, none⟩ = false ∧ w1.frozen? ⟨g, 2, none⟩ = false ∧ RR w1 g A n c k 0 := by
    intro w1 hb
    have h1 : RR w1 g A n c k 0 := Bk.below (Bk.drew h) hb h.lt
    exact ⟨⟨h1.cell 0, h1.cell 1, h1.cell 2⟩, h1.free 1, h1.free 2, h1⟩
  have hch : ∀ w1, Below w.heap.size w.drew w1 → Ch (fun i => i = g) w ((w1.setCell ⟨g, 2, none⟩ (.int .i64 0)).setCell ⟨g, 1, none⟩ (.int .i64 ((k + x : Nat) : Int))) ∧ RR ((w1.setCell ⟨g, 2, none⟩ (.int .i64 0)).setCell ⟨g, 1, none⟩ (.int .i64 ((k + x : Nat) : Int))) g A n c ((k + x : Nat) : Int) 0 := by
    intro w1 hb
    have h1 : RR w1 g A n c k 0 := Bk.below (Bk.drew h) hb h.lt
    have h2 := (Bk.set h1 2 (.int .i64 0)).set 1 (.int .i64 ((k + x : Nat) : Int))
    simp only [List.setIfInBounds_toArray, List.set_cons_zero, List.set_cons_succ] at h2
    have h3 : Ch (fun i => i = g) w w1 := (Ch.refl _ w).drew.trans (Ch.of_below (S := fun _ => False) hb (Nat.le_refl _)) (fun _ h => h.elim)
    exact ⟨(h3.set (p := ⟨g, 2, none⟩) (.inl rfl) _).set (p := ⟨g, 1, none⟩) (.inl rfl) _, h2⟩
  have hnum : leN ((L.drop k).take x) = nAt L k x := rfl
  rw [hnum] at hg
  have Hg := Lib.hid (hg w.drew hr.drew)
  have HS := Lib.hid hS
  have Hch := Lib.hid hch
  clear hg hS hch h hwid hnum
  generalize nAt L k x = v at *
  go_enter Try.func17, Try.ntmps17
  go_wp2_with fail
  go_region_held3 (fun w' => w'.cell? ⟨g, 0, none⟩ = some (.slice A n c) ∧ w'.cell? ⟨g, 1, none⟩ = some (.int .i64 (k : Int))) (first | (exact ⟨c0, c1⟩) | (exact ⟨k0, k1⟩))
    (first
      | ((go_at_call 36; (with_reducible refine Hg.out.mono ?_); rintro e w1 ⟨rfl, hb1⟩; obtain ⟨⟨k0, k1, k2⟩, f1, f2, hrr⟩ := HS.out w1 hb1)))
  have hfin := Hch.out w1 hb1
  have Hfin := Lib.hid hfin
  clear hfin hrr c0 c1 c2 HS Hch Hg
  go_wp2
  go_ret
  exact ⟨rfl, Hfin.out.2, Hfin.out.1⟩
end Go.Proofs.Ytbdehlphblbmoaa
