/- law03's wakes. -/
import Derived.Test.YtknjopefbbldfaaGreatDoorVfsW
namespace Go.Proofs.YtknjopefbbldfaaGreatDoor
open Go.RowKit
attribute [local go_sem ↓] Go.wp_at_zero Go.wp_at_succ

@[reducible] def aN : ByteArray := ⟨#[97]⟩
def wk0 : FsP := ⟨9, 0, -1, false, []⟩
def wk1 : FsP := ⟨9, 1, -1, false, [([97], ⟨[], [], [], 1⟩)]⟩
def wk2 : FsP := ⟨9, 2, -1, false, [([97], ⟨[98, 99], List.replicate 64 0, [true], 2⟩)]⟩
def wk3 : FsP := ⟨9, 2, -1, false, [([97], ⟨[0, 0], List.replicate 64 0, [false], 2⟩)]⟩
theorem wk_new : newP 9 = wk0 := by kernel_rfl
theorem wk_create : createP wk0 aN.data.toList = (0, wk1) := by kernel_rfl
theorem wk_find : findP wk1 aN.data.toList = some ⟨[], [], [], 1⟩ := by kernel_rfl
theorem wk_write : writeP wk1 aN.data.toList ((0 : Nat) : Int) [98, 99] = (0, wk2) := by kernel_rfl
theorem wk_crash : crashP wk2 0 = wk3 := by kernel_rfl
theorem wk_read : readP wk3 aN.data.toList 0 2 = (0, [0, 0]) := by kernel_rfl
theorem rs_new {l : List UInt8} (w : World) (cs : Array Value) (t : TypeId) (h : cs.toList = bys l) {fr : Nat × Nat} : Rs (w.alloc (.cells cs t fr)) w.heap.size (some ⟨w.heap.size, 0, none⟩) l := fun h0 => by
  refine ⟨0, rfl, fun j u hu => ?_⟩
  have := (Rd.lits w t cs rfl (fr := fr)).2 (by rw [← Array.length_toList, h, bys_len]; exact h0)
  obtain ⟨b, o, e, _, hc⟩ := this
  injection e with e
  injection e with e1 e2 _
  subst e1 e2
  exact hc j _ (by rw [h]; unfold bys; rw [List.getElem?_map, hu]; rfl)
set_option maxHeartbeats 4000000 in
set_option maxRecDepth 100000 in
theorem wakes_any (w : World) : Calls Tryz.prog 4 #[] w fun e w' => e = .returned (.bool true) ∧ Below w.heap.size w w' := by
  have HN := Lib.hid (new_fs 9 w)
  have HC := Lib.hid (fun f W (h : Fs w.heap.size W f wk0) => by have := create_fs _ f wk0 W h aN (by decide) (by decide); rw [wk_create] at this; exact this)
  have HW := Lib.hid (fun f W (h : Fs w.heap.size W f wk1) b0 W' (hW : Below W.heap.size W W') (hr : Rs W' b0 (some ⟨b0, 0, none⟩) [98, 99]) (hb : W.heap.size ≤ b0 ∧ b0 < W'.heap.size) => by
    have := write_own _ f wk1 W h aN 0 2 2 b0 w.heap.size [98, 99] (some ⟨b0, 0, none⟩) ⟨[], [], [], 1⟩ (by decide) (by decide) rfl (by decide) (by decide) (by decide) W' hW hr (fun _ => hb) rfl wk_find (by decide) (Nat.le_refl _) h.base_le
    rw [wk_write] at this; rw [show ((0 : Nat) : Int) = (0 : Int) from rfl] at this; exact this)
  have HK := Lib.hid (fun f W (h : Fs w.heap.size W f wk2) => by have := crash_fs _ f wk2 W h 0 (by decide); rw [wk_crash, show (((0 : UInt64).toNat : Nat) : Int) = (0 : Int) from rfl] at this; exact this)
  have HR := Lib.hid (fun f W (h : Fs w.heap.size W f wk3) => by have := read_fs _ f wk3 W h aN 0 2 (by decide) (by decide); rw [wk_read] at this; exact this)
  go_enter Tryz.func4, Tryz.ntmps4
  go_wp2_with fail
  with_reducible refine HN.out.mono ?_
  rintro e w1 ⟨f, rfl, h1, b1⟩
  rw [wk_new] at h1
  have H1 := Lib.hid (And.intro h1 b1)
  clear h1 b1
  go_wp2_with fail
  with_reducible refine (HC.out f w1 H1.out.1).mono ?_
  rintro e w2 ⟨rfl, h2, b2⟩
  have H2 := Lib.hid (And.intro h2 b2)
  clear h2 b2
  have kc := fun (w : World) (C : Array Value) (n c : Nat) => Lib.run_convert_bytes_const (P := Tryz.prog) w 29 5 C n c Tryz.underlying29 Tryz.underlying5
  go_wp2_with fail
  have HW2 := Lib.hid (HW.out f w2 H2.out.1 w2.heap.size (w2.alloc (.cells #[.int .u8 98, .int .u8 99] 5 (2, 3))) ((Below.refl _ _).alloc (Nat.le_refl _) _) (rs_new (l := [98, 99]) w2 _ _ rfl) ⟨Nat.le_refl _, by simp⟩)
  clear kc
  with_reducible refine HW2.out.mono ?_
  rintro e w3 ⟨rfl, h3, c3⟩
  have H3 := Lib.hid (And.intro h3 c3)
  clear h3 c3
  go_wp2_with fail
  with_reducible refine (HK.out f w3 H3.out.1).mono ?_
  rintro e w4 ⟨rfl, h4, b4⟩
  have H4 := Lib.hid (And.intro h4 b4)
  clear h4 b4
  go_wp2_with fail
  with_reducible refine (HR.out f w4 H4.out.1).mono ?_
  rintro e w5 ⟨A, n, c, rfl, hn, hnc, hc, hown, b5⟩
  obtain rfl : n = 2 := hn
  obtain ⟨g, c', hA, _, _, _⟩ := own_pos hown (by decide)
  injection hA with hA _ _
  subst hA
  have k0 : w5.cell? ⟨g, 0, none⟩ = some (.int .u8 0) := by
    have := hown.cells (g := g) rfl 0 (.int .u8 0) rfl
    rwa [addLit] at this
  have k1 : w5.cell? ⟨g, 1, none⟩ = some (.int .u8 0) := by
    have := hown.cells (g := g) rfl 1 (.int .u8 0) rfl
    rwa [addLit] at this
  have H5 := Lib.hid b5
  clear hown b5
  go_wp2_with fail
  go_ret
  have s1 := H1.out.2.size
  have s2 := H2.out.2.size
  have s3 := H3.out.2.size
  have s4 := H4.out.2.size
  exact ⟨rfl, (((H1.out.2.trans H2.out.2).trans (((Below.refl _ _).alloc (by omega) _).trans (H3.out.2.below (by simp; omega) (fun i hi => hi.1)))).trans H4.out.2).trans (H5.out.mono (by simp at s3; omega))⟩
end Go.Proofs.YtknjopefbbldfaaGreatDoor
