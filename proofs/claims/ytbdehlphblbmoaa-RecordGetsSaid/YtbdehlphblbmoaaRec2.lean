/- Contracts of package record: the reader's long and cut. -/
import Derived.Test.YtbdehlphblbmoaaRec1
namespace Go.Proofs.Ytbdehlphblbmoaa
open Go.RowKit
attribute [local go_sem ↓] Go.wp_at_zero Go.wp_at_succ

theorem RR.lt {w : World} {g : Nat} {A : Option Addr} {n c : Nat} {p e : Int} (h : RR w g A n c p e) : g < w.heap.size := Bk.lt h
set_option maxHeartbeats 1000000 in
theorem long_ok (g : Nat) (A : Option Addr) (n c k B : Nat) (L : List UInt8) (w : World) (h : RR w g A n c k 0) (hr : Rd w B 1 A n (bys L)) (hB : B ≤ g) (hnc : n ≤ c) (hn : n ≤ 1000000000) (hk : k + 8 ≤ n) :
    Calls Try.prog 37 #[.pointer (some ⟨g, 0, none⟩)] w fun e' w' => e' = .returned (.int .i64 (long8 L k)) ∧ RR w' g A n c ((k + 8 : Nat) : Int) 0 ∧ Ch (fun i => i = g) w w' := by
  have hg := h.lt
  have hn1 := num_ok g A n c k 4 L w h (hr.more (by omega)) hnc hn (by omega) (by omega)
  have hr2 : ∀ W : World, Ch (fun i => i = g) w W → Rd W W.heap.size 1 A n (bys L) := fun W hc => (hr.ch hc (by omega) (fun i hi => by have : i = g := hi; omega)).more (by have := hc.size; omega)
  have Hr2 := Lib.hid hr2
  have b1 := nAt_4 L k
  have b2 := nAt_4 L (k + 4)
  have hl : long8 L k = if 65535 < nAt L (k + 4) 4 then -1 else nAt L (k + 4) 4 * 4294967296 + nAt L k 4 := rfl
  have Hl := Lib.hid hl
  have Hn1 := Lib.hid hn1
  clear hl hr2 h hr hn1
  generalize hv1 : nAt L k 4 = v1 at *
  generalize hv2 : nAt L (k + 4) 4 = v2 at *
  have Hv2 := Lib.hid hv2
  clear hv1 hv2
  go_enter Try.func37, Try.ntmps37
  go_wp2_with fail
  refine Hn1.out.mono ?_
  rintro e w1 ⟨rfl, hr1, hc1⟩
  have hn2 := num_ok g A n c (k + 4) 4 L w1 hr1 (Hr2.out w1 hc1) hnc hn (by omega) (by omega)
  rw [Hv2.out] at hn2
  clear Hn1
  go_wp2_with fail
  refine hn2.mono ?_
  rintro e w2 ⟨rfl, hr2, hc2⟩
  have hc3 : Ch (fun i => i = g) w w2 := hc1.trans hc2 (fun i h => .inl h)
  have hr3 : RR w2 g A n c ((k + 8 : Nat) : Int) 0 := by rw [show k + 8 = k + 4 + 4 by omega]; exact hr2
  clear hn2 hr1 hc1 hr2 hc2
  by_cases hv : 65535 < v2
  · rw [if_pos hv] at Hl
    go_wp2
    go_ret
    exact ⟨ret_int Hl.out.symm, hr3, hc3⟩
  · rw [if_neg hv] at Hl
    have h32 : (2 : Int) ^ 32 = 4294967296 := by decide
    have hor := or_i64_add 32 (v2 * 4294967296) v1 (by omega) (by omega) (by rw [h32]; omega) (by omega) (by rw [h32]; omega) (by omega)
    clear h32
    go_wp2
    go_ret
    exact ⟨ret_int (by first | exact Hl.out.symm | (rw [Hl.out]; exact hor)), hr3, hc3⟩
end Go.Proofs.Ytbdehlphblbmoaa
