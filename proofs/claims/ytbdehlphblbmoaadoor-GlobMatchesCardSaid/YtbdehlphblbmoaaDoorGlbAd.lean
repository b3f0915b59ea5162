/- The laws of layer 13: what they share. -/
import Derived.Test.YtbdehlphblbmoaaDoorGlbO
import Derived.Test.YtbdehlphblbmoaaDoorGlbAc
namespace Go.Proofs.YtbdehlphblbmoaaDoor
open Go.RowKit
attribute [local go_sem ↓] Go.wp_at_zero Go.wp_at_succ

theorem GlM.bl {w w' : World} {B g : Nat} {ps : List PtP} (h : GlM w B g ps) (hB : B ≤ w.heap.size) (k : Below w.heap.size w w') : GlM w' B g ps :=
  h.ch (S := fun _ => False) (Ch.of_below k (Nat.le_refl _)) hB (fun h => h) (fun _ h => h.elim)
/-- A right pattern. -/
theorem new_yes (s : ByteArray) (ps : List PtP) (w : World) (hs : s.size ≤ 100) (hv : Lib.validD s.data.toList = true) (hn : newR s.size [] (rnB s) = some ps) (hT : UT w) :
    Calls Tryd.prog 10 #[.string s] w fun e w' => ∃ g, e = .returned (.tuple #[.pointer (some ⟨g, 0, none⟩), .int .i64 0]) ∧ GlM w' w'.heap.size g ps ∧ w.heap.size ≤ g ∧ Below w.heap.size w w' := by
  refine (new_any s w (by omega) hT).mono ?_
  rintro e w' ⟨hb, h | h | h⟩
  · omega
  · rcases h.2.1 with h1 | h1
    · rw [hv] at h1; cases h1
    · rw [hn] at h1; cases h1
  · obtain ⟨_, _, g, ps', h1, h2, h3, h4⟩ := h
    rw [hn] at h1
    injection h1 with h1
    subst h1
    exact ⟨g, h2, h3, h4, hb⟩
theorem pat_a : newR 5 [] (rnB ⟨#[42, 46, 116, 120, 116]⟩) = some [.stars false, .lit 46, .lit 116, .lit 120, .lit 116] := by kernel_rfl
theorem pat_b : newR 6 [] (rnB ⟨#[42, 42, 46, 116, 120, 116]⟩) = some [.stars true, .lit 46, .lit 116, .lit 120, .lit 116] := by kernel_rfl
theorem pat_ss : newR 2 [] (rnB ⟨#[42, 42]⟩) = some [.stars true] := by kernel_rfl
theorem pat_s : newR 1 [] (rnB ⟨#[42]⟩) = some [.stars false] := by kernel_rfl
theorem nam_a : rnB ⟨#[97, 46, 116, 120, 116]⟩ = [97, 46, 116, 120, 116] := by kernel_rfl
theorem nam_b : rnB ⟨#[97, 47, 98, 46, 116, 120, 116]⟩ = [97, 47, 98, 46, 116, 120, 116] := by kernel_rfl
theorem mt_a : mt [.stars false, .lit 46, .lit 116, .lit 120, .lit 116] [97, 46, 116, 120, 116] = true := by simp [mt, isStar, fitsB]
theorem mt_b : mt [.stars false, .lit 46, .lit 116, .lit 120, .lit 116] [97, 47, 98, 46, 116, 120, 116] = false := by simp [mt, isStar, fitsB]
theorem mt_c : mt [.stars true, .lit 46, .lit 116, .lit 120, .lit 116] [97, 47, 98, 46, 116, 120, 116] = true := by simp [mt, isStar, fitsB]
set_option maxHeartbeats 4000000 in
set_option maxRecDepth 100000 in
theorem gwakes_any (w : World) (hT : UT w) : Calls Tryd.prog 9 #[] w fun e w' => e = .returned (.bool true) ∧ Below w.heap.size w w' := by
  have H1 := Lib.hid (new_yes ⟨#[42, 46, 116, 120, 116]⟩ _ w (by decide) (by kernel_rfl) pat_a hT)
  have H2 := Lib.hid (fun W (hb : Below w.heap.size w W) => new_yes ⟨#[42, 42, 46, 116, 120, 116]⟩ _ W (by decide) (by kernel_rfl) pat_b (hT.below hb))
  have HM1 := Lib.hid (fun g B W (h : GlM W B g [.stars false, .lit 46, .lit 116, .lit 120, .lit 116]) (hB : B ≤ W.heap.size) => match_any g B _ ⟨#[97, 46, 116, 120, 116]⟩ W h hB (by decide))
  have HM2 := Lib.hid (fun g B W (h : GlM W B g [.stars false, .lit 46, .lit 116, .lit 120, .lit 116]) (hB : B ≤ W.heap.size) => match_any g B _ ⟨#[97, 47, 98, 46, 116, 120, 116]⟩ W h hB (by decide))
  have HM3 := Lib.hid (fun g B W (h : GlM W B g [.stars true, .lit 46, .lit 116, .lit 120, .lit 116]) (hB : B ≤ W.heap.size) => match_any g B _ ⟨#[97, 47, 98, 46, 116, 120, 116]⟩ W h hB (by decide))
  rw [nam_a, mt_a] at HM1
  rw [nam_b, mt_b] at HM2
  rw [nam_b, mt_c] at HM3
  clear hT
  go_enter Tryd.func9, Tryd.ntmps9
  go_wp2_with fail
  with_reducible refine H1.out.mono ?_
  rintro e w1 ⟨g1, rfl, m1, _, b1⟩
  have M1 := Lib.hid m1
  have B1 := Lib.hid b1
  clear m1 b1 H1
  go_wp2_with fail
  with_reducible refine (H2.out w1 B1.out).mono ?_
  rintro e w2 ⟨g2, rfl, m2, _, b2⟩
  have M2 := Lib.hid m2
  have M12 := Lib.hid (M1.out.bl (Nat.le_refl _) b2)
  have B2 := Lib.hid (B1.out.trans (b2.mono B1.out.size))
  have hz12 := b2.size
  clear m2 b2 H2 M1 B1
  go_wp2_with fail
  with_reducible refine (HM1.out g1 w1.heap.size w2 M12.out hz12).mono ?_
  rintro e w3 ⟨rfl, b3⟩
  have M13 := Lib.hid (M12.out.bl hz12 b3)
  have M23 := Lib.hid (M2.out.bl (Nat.le_refl _) b3)
  have hz23 := b3.size
  have B3 := Lib.hid (B2.out.trans (b3.mono B2.out.size))
  clear b3 HM1 M12 M2 B2
  go_wp2_with fail
  with_reducible refine (HM2.out g1 w1.heap.size w3 M13.out (by omega)).mono ?_
  rintro e w4 ⟨rfl, b4⟩
  have M24 := Lib.hid (M23.out.bl hz23 b4)
  have hz34 := b4.size
  have B4 := Lib.hid (B3.out.trans (b4.mono B3.out.size))
  clear b4 HM2 M13 M23 B3
  go_wp2_with fail
  with_reducible refine (HM3.out g2 w2.heap.size w4 M24.out (by omega)).mono ?_
  rintro e w5 ⟨rfl, b5⟩
  have B5 := Lib.hid (B4.out.trans (b5.mono B4.out.size))
  clear b5 HM3 M24 B4
  go_wp2_with fail
  go_ret
  exact ⟨rfl, B5.out⟩
end Go.Proofs.YtbdehlphblbmoaaDoor
