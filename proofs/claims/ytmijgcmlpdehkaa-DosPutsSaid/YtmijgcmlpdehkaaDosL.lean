/- The walks of DosParses, DosOrder, and of the example that all laws of layer 8 begin with. -/
import Derived.Test.YtmijgcmlpdehkaaDos7
import Derived.Test.YtmijgcmlpdehkaaDos8
namespace Go.Proofs.Ytmijgcmlpdehkaa
open Go.RowKit

theorem momN_bd (t : List UInt8) (h : MomT t) : 0 ≤ momN t ∧ momN t < 4294967296 := by
  obtain ⟨_, _, hr⟩ := h
  have := dosN_parts _ _ _ _ _ _ hr
  unfold momN
  omega
theorem mom_ex : MomT [50, 48, 50, 52, 45, 48, 50, 45, 50, 57] ∧ momN [50, 48, 50, 52, 45, 48, 50, 45, 50, 57] = 1482489856 := by
  refine ⟨⟨.inl rfl, by decide, ?_⟩, by decide⟩
  unfold Right6
  decide
theorem doswakes_any (w : World) : Calls Try.prog 6 #[] w fun e w' => e = .returned (.bool true) ∧ Below w.heap.size w w' := by
  have hp := (parse_any ⟨#[50, 48, 50, 52, 45, 48, 50, 45, 50, 57]⟩ w).mono (R' := fun e w' => e = .returned (.tuple #[.int .i64 1482489856, .bool true]) ∧ Below w.heap.size w w') (by
    rintro e w1 ⟨hp, hb⟩
    rcases hp with ⟨_, rfl⟩ | ⟨hM, _⟩
    · exact ⟨by rw [show momN (ByteArray.mk #[50, 48, 50, 52, 45, 48, 50, 45, 50, 57]).data.toList = 1482489856 from mom_ex.2], hb⟩
    · exact absurd mom_ex.1 hM)
  have Hp := Lib.hid hp
  clear hp
  go_enter Try.func6, Try.ntmps6
  go_wp2_with fail
  refine Hp.out.mono ?_
  rintro e w1 ⟨rfl, hb⟩
  go_wp2
  go_ret
  exact ⟨rfl, hb⟩
set_option maxHeartbeats 1000000 in
theorem dosParses_walk (s : ByteArray) (w : World) (hs : s.size ≤ maxLen) :
    Calls Try.prog 3 #[.string s] w fun e w' => e = .returned (.bool true) ∧ Below w.heap.size w w' := by
  unfold maxLen at hs
  by_cases hl : 100 < s.size
  · go_enter Try.func3, Try.ntmps3
    go_wp2_with fail
    refine (doswakes_any w).mono ?_
    rintro e w1 ⟨rfl, hb1⟩
    go_wp2
    go_ret
    exact ⟨rfl, hb1⟩
  by_cases hM : MomT s.data.toList
  · have hb := momN_bd _ hM
    have HM := Lib.hid hM
    clear hM
    obtain ⟨hb0, hb1⟩ := hb
    generalize hx : momN s.data.toList = x at *
    have Hx := Lib.hid hx
    clear hx
    go_enter Try.func3, Try.ntmps3
    go_wp2_with fail
    refine (doswakes_any w).mono ?_
    rintro e w1 ⟨rfl, hb1⟩
    go_wp2_with fail
    refine (parse_any s w1).mono ?_
    rintro e w2 ⟨hp, hb2⟩
    obtain rfl : e = .returned (.tuple #[.int .i64 x, .bool true]) := by
      rcases hp with ⟨_, rfl⟩ | ⟨h, _⟩
      · rw [Hx.out]
      · exact absurd HM.out h
    clear hp
    have hbe2 := hb1.trans (hb2.mono hb1.size)
    go_wp2_with fail
    refine (refparse_any s w2).mono ?_
    rintro e w3 ⟨hp, hb3⟩
    obtain rfl : e = .returned (.int .i64 x) := by
      rcases hp with ⟨_, rfl⟩ | ⟨h, _⟩
      · rw [Hx.out]
      · exact absurd HM.out h
    clear hp
    have hbe3 := hbe2.trans (hb3.mono hbe2.size)
    have hmx : (if x < 0 then (0 : Int) else x) = x := if_neg (by omega)
    go_wp2
    go_ret
    exact ⟨ret_bool (by first | (simp; done) | (simp; omega)), hbe3⟩
  · have HM := Lib.hid hM
    clear hM
    go_enter Try.func3, Try.ntmps3
    go_wp2_with fail
    refine (doswakes_any w).mono ?_
    rintro e w1 ⟨rfl, hb1⟩
    go_wp2_with fail
    refine (parse_any s w1).mono ?_
    rintro e w2 ⟨hp, hb2⟩
    obtain rfl : e = .returned (.tuple #[.int .i64 0, .bool false]) := by
      rcases hp with ⟨h, _⟩ | ⟨_, rfl⟩
      · exact absurd h HM.out
      · rfl
    clear hp
    have hbe2 := hb1.trans (hb2.mono hb1.size)
    go_wp2_with fail
    refine (refparse_any s w2).mono ?_
    rintro e w3 ⟨hp, hb3⟩
    obtain rfl : e = .returned (.int .i64 (-1)) := by
      rcases hp with ⟨h, _⟩ | ⟨_, rfl⟩
      · exact absurd h HM.out
      · rfl
    clear hp
    have hbe3 := hbe2.trans (hb3.mono hbe2.size)
    go_wp2
    go_ret
    exact ⟨rfl, hbe3⟩
end Go.Proofs.Ytmijgcmlpdehkaa
