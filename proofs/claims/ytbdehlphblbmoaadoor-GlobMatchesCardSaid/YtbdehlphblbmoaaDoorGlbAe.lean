/- The laws of layer 13: the tables that the rows list; GlobNil. -/
import Derived.Test.YtbdehlphblbmoaaDoorGlbAd
import Derived.Test.YtbdehlphblbmoaaDoorConv
import Derived.Test.YtbdehlphblbmoaaDoorRows
import Derived.Lib.LaidU8T
import Derived.PinnedBridge
import Derived.Stop.LaidErr
namespace Go.Proofs.YtbdehlphblbmoaaDoor
open Go.RowKit
attribute [local go_sem ↓] Go.wp_at_zero Go.wp_at_succ

theorem ut_of {W : World} (h : laidMet Tryd.prog [("unicode/utf8.acceptRanges", Rows.laid_unicode_utf8_acceptRanges), ("unicode/utf8.first", Rows.laid_unicode_utf8_first)] W) : UT W := by
  refine utf8Tabs_of_readsT (U8Types.of196 Tryd.lays196) ⟨by kernel_rfl, by kernel_rfl, by kernel_rfl, by kernel_rfl, by kernel_rfl, by kernel_rfl, by kernel_rfl⟩ ?_ ?_
  · have := Lib.laidMet.reads h (.tail _ (.head _))
    rw [show (Rows.laid_unicode_utf8_first : DataW Unit) = Lib.firstData from Pinned.utf8First_eq] at this
    exact this
  · have := Lib.laidMet.reads h (.head _)
    rw [show (Rows.laid_unicode_utf8_acceptRanges : DataW Unit) = Lib.acceptData by kernel_rfl] at this
    exact this
theorem globNil_laid (W : World) (h : laidMet Tryd.prog Rows.globNilRow.laid W) : UT W := ut_of h
theorem mt_all (l : List Int) : mt [.stars true] l = true := mt_stars2 l
set_option maxHeartbeats 4000000 in
set_option maxRecDepth 100000 in
theorem globNil_walk (s : ByteArray) (w : World) (_ : s.size ≤ maxLen) (hT : UT w) :
    Calls Tryd.prog 6 #[.string s] w fun e w' => e = .returned (.bool true) ∧ Below w.heap.size w w' := by
  have H1 := Lib.hid (gwakes_any w hT)
  have H2 := Lib.hid (fun W => head_nil W)
  have H3 := Lib.hid (fun W (hb : Below w.heap.size w W) => new_yes ⟨#[42, 42]⟩ _ W (by decide) (by kernel_rfl) pat_ss (hT.below hb))
  have H4 := Lib.hid (fun W => match_nil s W)
  have H5 := Lib.hid (fun g B W (h : GlM W B g [.stars true]) (hB : B ≤ W.heap.size) (hs : s.size ≤ 1000) => match_any g B _ s W h hB hs)
  have H6 := Lib.hid (fun g W (hs : 1000 < s.size) => match_long g s W hs)
  rw [mt_all] at H5
  clear hT
  go_enter Tryd.func6, Tryd.ntmps6
  go_wp2_with fail
  with_reducible refine H1.out.mono ?_
  rintro e w1 ⟨rfl, b1⟩
  have B1 := Lib.hid b1
  clear b1 H1
  go_wp2_with fail
  with_reducible refine (H2.out w1).mono ?_
  rintro e w2 ⟨rfl, rfl⟩
  go_wp2_with fail
  with_reducible refine (H3.out _ B1.out).mono ?_
  rintro e w3 ⟨g, rfl, m3, _, b3⟩
  have M3 := Lib.hid m3
  have B3 := Lib.hid (B1.out.trans (b3.mono B1.out.size))
  clear m3 b3 H3 B1 H2
  go_wp2_with fail
  with_reducible refine (H4.out w3).mono ?_
  rintro e w4 ⟨rfl, rfl⟩
  have hmk : ∀ w : World, (Instr.makeSlice 46 (.int .i64 1001) (.int .i64 1001)).run Tryd.prog w = .ok (.slice (some ⟨w.heap.size, 0, none⟩) 1001 1001) (w.alloc (.cells (bys (List.replicate 1001 0)).toArray 5)) := fun w => mk_bys 1001 1001 1001 rfl rfl (by omega) w
  have hcv : ∀ w : World, (convert 46 9 (.slice (some ⟨w.heap.size, 0, none⟩) 1001 1001)).run Tryd.prog (w.alloc (.cells (bys (List.replicate 1001 0)).toArray 5)) = .ok (.string ⟨(List.replicate 1001 0).toArray⟩) (w.alloc (.cells (bys (List.replicate 1001 0)).toArray 5)) := fun w =>
    conv_bys (B := w.heap.size + 1) (by have := Rd.lits w 5 (bys (List.replicate 1001 0)).toArray (n := 1001) (by simp [bys]) (fr := (0, 0)); simpa using this)
  have HL := Lib.hid (fun W => match_long g ⟨(List.replicate 1001 0).toArray⟩ W (by show 1000 < (List.replicate 1001 (0 : UInt8)).toArray.size; simp))
  generalize hz : (ByteArray.mk (List.replicate 1001 (0 : UInt8)).toArray) = z at *
  generalize (bys (List.replicate 1001 0)).toArray = zs at *
  by_cases hs : s.size ≤ 1000
  · have hs' : (s.size : Int) ≤ 1000 := by omega
    have Hs := Lib.hid hs
    clear hs H4 H6
    go_wp2_with fail
    with_reducible refine (H5.out g _ _ M3.out (Nat.le_refl _) Hs.out).mono ?_
    rintro e w5 ⟨rfl, b5⟩
    have B5 := Lib.hid (B3.out.trans (b5.mono B3.out.size))
    clear b5 H5 M3 B3
    have hmk5 := hmk w5
    have hcv5 := hcv w5
    clear hmk hcv
    go_wp2_with fail
    with_reducible refine (HL.out _).mono ?_
    rintro e w6 ⟨rfl, rfl⟩
    go_wp2_with fail
    go_ret
    exact ⟨rfl, B5.out.alloc B5.out.size _⟩
  · have hs' : ¬ (s.size : Int) ≤ 1000 := by omega
    have Hs := Lib.hid (show 1000 < s.size from by omega)
    clear hs H4 H5
    go_wp2_with fail
    with_reducible refine (H6.out g _ Hs.out).mono ?_
    rintro e w5 ⟨rfl, rfl⟩
    go_wp2_with fail
    with_reducible refine (HL.out _).mono ?_
    rintro e w6 ⟨rfl, rfl⟩
    go_wp2_with fail
    go_ret
    exact ⟨ret_bool (show (!decide ((s.size : Int) ≤ 1000)) = true from by have := Hs.out; simp; omega), B3.out.alloc B3.out.size _⟩
end Go.Proofs.YtbdehlphblbmoaaDoor
