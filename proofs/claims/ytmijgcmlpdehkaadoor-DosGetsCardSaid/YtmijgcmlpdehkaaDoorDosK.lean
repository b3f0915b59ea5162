/- The walks of DosParses, DosOrder, and of the example that all laws of layer 8 begin with. -/
import Derived.Test.YtmijgcmlpdehkaaDoorDos3
import Derived.Test.YtmijgcmlpdehkaaDoorDosR
import Derived.Test.YtmijgcmlpdehkaaDoorDos8
namespace Go.Proofs.YtmijgcmlpdehkaaDoor
open Go.RowKit

theorem momN_bd (t : List UInt8) (h : MomT t) : 0 ≤ momN t ∧ momN t < 4294967296 := by
  obtain ⟨_, _, hr⟩ := h
  have := dosN_parts _ _ _ _ _ _ hr
  unfold momN
  omega
theorem mom_ex : MomT [50, 48, 50, 52, 45, 48, 50, 45, 50, 57] ∧ momN [50, 48, 50, 52, 45, 48, 50, 45, 50, 57] = 1482489856 := by
  refine ⟨⟨.inl rfl, by decide, ?_⟩, by decide⟩
  unfold Right6
  decide
theorem doswakes_any (w : World) : Calls Tryd.prog 5 #[] w fun e w' => e = .returned (.bool true) ∧ Below w.heap.size w w' := by
  have hp := (parse_any ⟨#[50, 48, 50, 52, 45, 48, 50, 45, 50, 57]⟩ w).mono (R' := fun e w' => e = .returned (.tuple #[.int .i64 1482489856, .bool true]) ∧ Below w.heap.size w w') (by
    rintro e w1 ⟨hp, hb⟩
    rcases hp with ⟨_, rfl⟩ | ⟨hM, _⟩
    · exact ⟨by rw [show momN (ByteArray.mk #[50, 48, 50, 52, 45, 48, 50, 45, 50, 57]).data.toList = 1482489856 from mom_ex.2], hb⟩
    · exact absurd mom_ex.1 hM)
  have Hp := Lib.hid hp
  clear hp
  go_enter Tryd.func5, Tryd.ntmps5
  go_wp2_with fail
  refine Hp.out.mono ?_
  rintro e w1 ⟨rfl, hb⟩
  go_wp2
  go_ret
  exact ⟨rfl, hb⟩
end Go.Proofs.YtmijgcmlpdehkaaDoor
