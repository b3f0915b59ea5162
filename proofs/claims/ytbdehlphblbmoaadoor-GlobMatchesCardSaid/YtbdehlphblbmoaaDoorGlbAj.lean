/- The laws' runes. -/
import Derived.Test.YtbdehlphblbmoaaDoorGlbAi
import Derived.Test.YtbdehlphblbmoaaDoorInts
namespace Go.Proofs.YtbdehlphblbmoaaDoor
open Go.RowKit
attribute [local go_sem ↓] Go.wp_at_zero Go.wp_at_succ

set_option maxHeartbeats 4000000 in
set_option maxRecDepth 100000 in
theorem runes_any (s : ByteArray) (w : World) (hs : s.size ≤ 1000) :
    Calls Tryd.prog 14 #[.string s] w fun e w' => ∃ A c, e = .returned (.slice A (rnB s).length c) ∧ Rd w' w'.heap.size 1 A (rnB s).length (its (rnB s)) ∧ (rnB s).length ≤ c ∧ Below w.heap.size w w' := by
  have HI0 := Lib.hid (World.iter_heap w s 0)
  have HC0 := Lib.hid (iter_below w s)
  go_enter Tryd.func14, Tryd.ntmps14
  go_wp2_with fail
  have Hw := Lib.hid (show w.heap.size = w.heap.size from rfl)
  generalize hbb : w.heap.size = bb at HC0 HI0 ⊢
  have Hbb := Lib.hid hbb
  clear hbb Hw
  generalize w.iter s 0 = w1 at *
  go_loopw [3] (fun v wr => ∃ pos fuel L, Hid (wr.ownsRow (bb + 1) 3 1 v L.length (its L) ∧ wr.heap[bb]? = some (.stringIter s pos) ∧ Below bb w wr ∧ rnB s = L ++ rnFrom s fuel pos ∧ s.size ≤ pos + fuel)) (fun _ wr => s.size - wr.iterPos bb)
  case atStart => exact ⟨0, s.size, [], Lib.hid ⟨own_nilI _ _ _, HI0.out, HC0.out, rfl, by omega⟩⟩
  case round =>
    obtain ⟨pos, fuel, L, HI⟩ := hrel
    obtain ⟨i1, i2, i3, i4, i5⟩ := HI.out
    have hLl : L.length ≤ 1000 := by
      have h1 : (rnB s).length ≤ s.size := rnFrom_le s s.size 0
      rw [i4, List.length_append] at h1
      omega
    clear HI HI0 HC0
    by_cases hp : pos < s.size
    · have hnx : ∀ ty, (Instr.next (.pointer (some ⟨bb, 0, none⟩)) true ty).run Tryd.prog wr = _ := fun ty => Lib.run_next_any_at wr bb s pos ty i2 hp
      have hwd := wid_pos s pos hp
      obtain ⟨f, rfl⟩ : ∃ f, fuel = f + 1 := ⟨fuel - 1, by omega⟩
      rw [rnFrom, if_pos hp] at i4
      obtain ⟨r, hr⟩ : ∃ r : Int, (((Utf8.decode s pos).1 : Nat) : Int) = r := ⟨_, rfl⟩
      obtain ⟨p2, hp2⟩ : ∃ p2 : Nat, pos + (Utf8.decode s pos).2 = p2 := ⟨_, rfl⟩
      rw [hr, hp2] at i4 hnx
      have hok : okR r := rnB_ok s r (by rw [i4]; simp)
      have hb1 : -9223372036854775808 ≤ r ∧ r ≤ 9223372036854775807 := by unfold okR at hok; omega
      have hwr : IntKind.i64.wrap r = r := IntWalk.i64_in _ hb1
      have hcA : Ch (fun i => i = bb) wr (wr.iterAt bb s p2) := ch_iterAt wr bb s p2
      have hiA := Lib.iterAt_heap wr bb s pos p2 i2
      have hbl : bb < wr.heap.size := (Array.getElem?_eq_some_iff.1 i2).1
      have hoA := own_ch i1 hcA (fun k hk e => by have := (i1.lt k hk).1; omega)
      obtain ⟨A8, c8, rfl, _, _⟩ := own_form i1
      have HW := Lib.hid (i3.trans (hcA.below (B := bb) (by omega) (fun i hi => by omega)))
      have HL := Lib.hid (show rnB s = (L ++ [r]) ++ rnFrom s f p2 from by rw [i4]; simp)
      have HP := Lib.hid (show s.size ≤ p2 + f from by omega)
      have HM := Lib.hid (show s.size - p2 < s.size - wr.iterPos bb from by simp only [World.iterPos, i2]; omega)
      have HIA := Lib.hid hiA
      have hzA : bb < (wr.iterAt bb s p2).heap.size := by rw [Lib.iterAt_size]; exact hbl
      clear i1 i2 i3 i4 i5 hcA hiA hwd hr hp2 hok hb1 hbl
      generalize wr.iterAt bb s p2 = wx at *
      have HO := Lib.hid (hoA.alloc (.cells #[.int .i64 r] 3))
      have HRd := Lib.hid (Rd.oneI wx 3 r)
      clear hoA
      go_wp2_with (at_builtin; (refine ap_its (w0 := wx.alloc (.cells #[.int .i64 r] 3)) HO.out HRd.out (Below.refl _ _) (by simp; omega) (by omega) (by rfl) (by rfl) (by rfl) ?_; intro v4 w4 hown4 hb4 hg4 hat4))
      have hal : (wx.alloc (.cells #[.int .i64 r] 3)).heap[bb]? = some (.stringIter s p2) := (((Below.refl (bb + 1) wx).alloc (by omega) _).block _ (by omega)).trans HIA.out
      have hi4 : w4.heap[bb]? = some (.stringIter s p2) := (hb4.block _ (by omega)).trans hal
      have e5 : w4.iterPos bb = p2 := by simp only [World.iterPos, hi4]
      go_roundw
      case rel => exact ⟨p2, f, L ++ [r], Lib.hid ⟨by rw [List.length_append]; exact hown4, hi4, (HW.out.alloc (by omega) _).trans (hb4.mono (by omega)), HL.out, HP.out⟩⟩
      case measure => rw [e5]; exact HM.out
    · have hnx : ∀ ty, (Instr.next (.pointer (some ⟨bb, 0, none⟩)) true ty).run Tryd.prog wr = _ := fun ty => Lib.run_next_end_at wr bb s pos ty i2 hp
      have e0 : rnFrom s fuel pos = [] := by
        cases fuel with
        | zero => rfl
        | succ f => rw [rnFrom, if_neg hp]
      rw [e0, List.append_nil] at i4
      obtain ⟨A8, c8, rfl, hc8, _⟩ := own_form i1
      have HR := Lib.hid (Rd.of_own i1)
      have HW := Lib.hid i3
      have HL := Lib.hid i4
      have HC := Lib.hid hc8
      clear i1 i2 i3 i4 i5 e0 hc8
      go_wp2_with fail
      go_ret
      exact ⟨A8, c8, by rw [HL.out]; rfl, by rw [HL.out]; exact HR.out, by rw [HL.out]; exact HC.out, by rw [Hbb.out]; exact HW.out⟩
end Go.Proofs.YtbdehlphblbmoaaDoor
