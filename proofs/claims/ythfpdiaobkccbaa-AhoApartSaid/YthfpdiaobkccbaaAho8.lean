/- Contracts of package aho: First, All, Len; nothing there. -/
import Derived.Test.YthfpdiaobkccbaaAho7
import Derived.Test.YthfpdiaobkccbaaIntS
namespace Go.Proofs.Ythfpdiaobkccbaa
open Go.RowKit
attribute [local go_sem ↓] Go.wp_at_zero Go.wp_at_succ

theorem first_any (W0 S0 g : Nat) (S ws : List (List UInt8)) (t : List UInt8) (w : World) (h : SC w W0 S0 g S ws t) (hn : ws.length ≤ 8) :
    Calls Try.prog 13 #[.pointer (some ⟨S0, 0, none⟩)] w fun e w' => ∃ v, e = .returned v ∧ w'.ownsRow w.heap.size 3 1 v ws.length (its (firsts ws t)) ∧ Below w.heap.size w w' := by
  have s4 : w.cell? ⟨S0, 4, none⟩ = some (.slice (some ⟨g, 0, none⟩) ws.length ws.length) := h.sb.cell 4
  have hr := Lib.hid h.row
  clear h
  go_enter Try.func13, Try.ntmps13
  go_wp2_with ((at_builtin; refine ap_its (base := w.heap.size) (w0 := w) (own_nilI _ _ _) hr.out (Below.refl _ _) (Nat.le_refl _) (by omega) (by rfl) (by rfl) (by rfl) ?_; intro v' w' h1 h2 h3 h4))
  go_ret
  exact ⟨_, rfl, by simpa using h1, h2⟩
theorem first_nil (w : World) : Calls Try.prog 13 #[.pointer none] w fun e w' => e = .returned (.slice none 0 0) ∧ w = w' := by
  go_enter Try.func13, Try.ntmps13
  go_wp2
  go_ret
  exact ⟨rfl, rfl⟩
theorem all_any (W0 S0 g : Nat) (S ws : List (List UInt8)) (t : List UInt8) (w : World) (h : SC w W0 S0 g S ws t) (_hn : ws.length ≤ 8) :
    Calls Try.prog 17 #[.pointer (some ⟨S0, 0, none⟩)] w fun e w' => e = .returned (.bool (((cntF (firsts ws t) : Nat) : Int) == ((ws.length : Nat) : Int))) ∧ ∃ q, w' = w.drewN q := by
  have s4 : w.cell? ⟨S0, 4, none⟩ = some (.slice (some ⟨g, 0, none⟩) ws.length ws.length) := h.sb.cell 4
  have s3 : w.cell? ⟨S0, 3, none⟩ = some (.int .i64 (cntF (firsts ws t) : Int)) := h.sb.cell 3
  clear h
  go_enter Try.func17, Try.ntmps17
  go_wp2_with fail
  go_quiet (fail)
  go_wp2
  go_ret
  exact ⟨rfl, _, rfl⟩
theorem all_nil (w : World) : Calls Try.prog 17 #[.pointer none] w fun e w' => e = .returned (.bool false) ∧ ∃ q, w' = w.drewN q := by
  go_enter Try.func17, Try.ntmps17
  go_wp2_with fail
  go_quiet (fail)
  go_wp2
  go_ret
  exact ⟨rfl, _, rfl⟩
theorem len_any (W0 S0 g : Nat) (S ws : List (List UInt8)) (t : List UInt8) (w : World) (h : SC w W0 S0 g S ws t) :
    Calls Try.prog 18 #[.pointer (some ⟨S0, 0, none⟩)] w fun e w' => e = .returned (.int .i64 (t.length : Int)) ∧ w = w' := by
  have s2 : w.cell? ⟨S0, 2, none⟩ = some (.int .i64 (t.length : Int)) := h.sb.cell 2
  clear h
  go_enter Try.func18, Try.ntmps18
  go_wp2
  go_ret
  exact ⟨rfl, rfl⟩
theorem len_nil (w : World) : Calls Try.prog 18 #[.pointer none] w fun e w' => e = .returned (.int .i64 0) ∧ w = w' := by
  go_enter Try.func18, Try.ntmps18
  go_wp2
  go_ret
  exact ⟨rfl, rfl⟩
theorem scan_nil (w : World) : Calls Try.prog 11 #[.pointer none] w fun e w' => e = .returned (.pointer none) ∧ w = w' := by
  go_enter Try.func11, Try.ntmps11
  go_wp2
  go_ret
  exact ⟨rfl, rfl⟩
theorem put_nil (v : Value) (w : World) : Calls Try.prog 12 #[.pointer none, v] w fun e w' => e = .returned (.int .i64 0) ∧ w = w' := by
  go_enter Try.func12, Try.ntmps12
  go_wp2
  go_ret
  exact ⟨rfl, rfl⟩
end Go.Proofs.Ythfpdiaobkccbaa
