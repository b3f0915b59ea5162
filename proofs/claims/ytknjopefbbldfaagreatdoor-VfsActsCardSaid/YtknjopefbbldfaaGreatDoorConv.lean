/- make of bytes, and bytes as a string, at this program's types. -/
import Derived.Test.YtknjopefbbldfaaGreatDoorCopy
import Derived.Laws.BytesArg
import Derived.Laws.IdiomStrings
import Derived.Laws.OwnMore
import Derived.Deep.OwnRows
namespace Go.Proofs.YtknjopefbbldfaaGreatDoor
open Go.RowKit

theorem made_bys (n : Nat) : madeCells #[Value.int .u8 0] n = (bys (List.replicate n 0)).toArray := by
  apply Array.ext'
  rw [toList_madeCells_one]
  simp [bys]
/-- make([]byte, n). -/
theorem mk_bys (n : Nat) (x y : Int) (hx : x = n) (hy : y = n) (hn : n ≤ 100000000) (w : World) :
    (Instr.makeSlice 29 (.int .i64 x) (.int .i64 y)).run Tryz.prog w = .ok (.slice (some ⟨w.heap.size, 0, none⟩) n n) (w.alloc (.cells (bys (List.replicate n 0)).toArray 5)) := by
  subst hx hy
  rw [← made_bys]
  exact run_make_row' (P := Tryz.prog) 29 5 (.int .u8 0) 1 Tryz.underlying29 infoB rfl .i64 .i64 n (by omega) (by omega) w
/-- string(b). -/
theorem conv_bys {w : World} {B n c : Nat} {A : Option Addr} {l : List UInt8} (hr : Rd w B 1 A n (bys l)) :
    (convert 29 9 (.slice A n c)).run Tryz.prog w = .ok (.string ⟨l.toArray⟩) w := by
  have hl := hr.blen
  subst hl
  rcases A with _ | ad
  · rcases Nat.eq_zero_or_pos l.length with h0 | h0
    · have : l = [] := List.eq_nil_of_length_eq_zero h0
      subst this
      exact run_convert_bytes_nil w _ _ Tryz.underlying29 Tryz.underlying5 _ _ _ Tryz.underlying9
    · obtain ⟨b, o, h, _⟩ := hr.2 h0
      cases h
  · refine run_convert_bytes_back w _ _ _ ad c l Tryz.underlying29 Tryz.underlying5 Tryz.underlying9 fun j hj => ?_
    obtain ⟨b, o, hA, _, hc⟩ := hr.2 (by omega)
    injection hA with hA
    subst hA
    rw [addLit]
    exact hc j _ (by simp [bys, hj])
end Go.Proofs.YtknjopefbbldfaaGreatDoor
