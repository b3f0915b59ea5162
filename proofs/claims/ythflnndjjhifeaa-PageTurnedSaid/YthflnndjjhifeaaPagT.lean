/- The walk of PageTurned. -/
import Derived.Test.YthflnndjjhifeaaPagO
import Derived.StillTailTactics
namespace Go.Proofs.Ythflnndjjhifeaa
open Go.RowKit

theorem Bk.byte {w : World} {g n : Nat} {t : TypeId} {l : List UInt8} (h : Bk w g t (bys l).toArray) (hn : l.length = n) {j : Nat} (hj : j < n) : w.cell? ⟨g, j, none⟩ = some (.int .u8 (((l[j]?.getD 0).toNat : Nat) : Int)) := by
  rw [h.cell]
  simp [bys, List.getElem?_eq_getElem (show j < l.length by omega)]
theorem Bk.setB {w : World} {g : Nat} {t : TypeId} {l : List UInt8} (h : Bk w g t (bys l).toArray) (j : Nat) (u : UInt8) : Bk (w.setCell ⟨g, j, none⟩ (.int .u8 (u.toNat : Int))) g t (bys (l.set j u)).toArray := by
  have := h.set j (.int .u8 (u.toNat : Int))
  rwa [List.setIfInBounds_toArray, bys_set] at this

set_option maxHeartbeats 1000000 in
set_option maxRecDepth 100000 in
theorem pageTurned_walk (z : Int) (A : Option Addr) (n c : Nat) (l : List UInt8) (x y : Int) (w : World) (hz0 : 0 ≤ z ∧ z ≤ 65535) (hr : Rd w w.heap.size 1 A n (bys l)) (hnc : n ≤ c) (_hcm : c ≤ maxLen) (hx : 0 ≤ x ∧ x ≤ 4294967295) (hy : 0 ≤ y ∧ y ≤ 4294967295) :
    Calls Try.prog 9 #[.int .u16 z, .slice A n c, .agg #[.int .u32 x, .int .u32 y]] w fun e w' => e = .returned (.bool true) ∧ Below w.heap.size w w' := by
  have hcm := _hcm
  unfold maxLen at hcm
  have hz := fits3_small z hz0
  have Hz := Lib.hid hz
  clear hz
  have hcell : ∀ w1, Below (w.heap.size + 1) (w.alloc (.cells #[.int .u32 x, .int .u32 y] 46)) w1 → w1.cell? ⟨w.heap.size, 0, none⟩ = some (.int .u32 x) ∧ w1.cell? ⟨w.heap.size, 1, none⟩ = some (.int .u32 y) ∧ Below w.heap.size w w1 := by
    intro w1 hb
    have hbk := (Bk.new w 46 #[.int .u32 x, .int .u32 y]).below hb (by omega)
    exact ⟨hbk.cell 0, hbk.cell 1, ((Below.refl _ _).alloc (Nat.le_refl _) _).trans (hb.mono (by omega))⟩
  have HC := Lib.hid hcell
  clear hcell
  by_cases h3 : y = 0
  · subst h3
    go_enter Try.func9, Try.ntmps9
    go_wp2_with fail
    refine (pagewakes_any _).mono ?_
    rintro e w1 ⟨rfl, hb1⟩
    obtain ⟨hc0, hc1, hbe⟩ := HC.out w1 (by simpa using hb1)
    go_wp2_with fail
    go_quiet (fail)
    go_wp2
    go_ret
    exact ⟨rfl, below_drewN hbe _⟩
  have h3' : (y == 0) = false := by simp [h3]
  clear h3
  by_cases h2 : 508 < n
  · go_enter Try.func9, Try.ntmps9
    go_wp2_with fail
    refine (pagewakes_any _).mono ?_
    rintro e w1 ⟨rfl, hb1⟩
    obtain ⟨hc0, hc1, hbe⟩ := HC.out w1 (by simpa using hb1)
    go_wp2_with fail
    go_quiet (fail)
    go_wp2_with fail
    refine (pseal_long z A n c _ Hz.out (by omega) h2).mono ?_
    rintro e w2 ⟨rfl, hb2⟩
    go_wp2
    go_ret
    exact ⟨ret_bool (by simp; omega), (below_drewN hbe _).trans (hb2.mono hbe.size)⟩
  have hl := hr.blen
  obtain ⟨k, hk⟩ : ∃ k : Nat, x % 509 = k := ⟨(x % 509).toNat, by omega⟩
  have hkn : k + 4 ≤ 512 := by omega
  have hsl := sealB_len z l (by omega)
  have Hsl := Lib.hid hsl
  have hop : ∀ W g, Bk W g 71 (bys (turnL (sealB z l) k y 4)).toArray → Calls Try.prog 25 #[.int .i64 z, .slice (some ⟨g, 0, none⟩) 512 512] W fun e w' => e = .returned (.tuple #[.slice none 0 0, .int .i64 5]) ∧ Below W.heap.size W w' := by
    intro W g hb
    refine popen_sum z _ 512 (turnL (sealB z l) k y 4) W (Rd.of_bkW hb 512 (by rw [turnL_len]; exact hsl)) (Nat.le_refl _) ?_ Hz.out (by omega)
    have hy0 : y ≠ 0 := by rintro rfl; simp at h3'
    exact seal_turned z l (by omega) k y hkn (by omega) (by omega)
  have Hop := Lib.hid hop
  clear hop hl hsl
  go_enter Try.func9, Try.ntmps9
  go_wp2_with fail
  refine (pagewakes_any _).mono ?_
  rintro e w1 ⟨rfl, hb1⟩
  obtain ⟨hc0, hc1, hbe⟩ := HC.out w1 (by simpa using hb1)
  go_wp2_with fail
  go_quiet (fail)
  go_wp2_with fail
  refine (pseal_ok z A n c l _ (((hr.below hbe (Nat.le_refl _)).more hbe.size).drewN _) hnc Hz.out (by omega) (by omega)).mono ?_
  rintro e w2 ⟨g, rfl, hbk2, hg, hb2⟩
  have hbe2 : Below w.heap.size w w2 := (below_drewN hbe _).trans (hb2.mono hbe.size)
  have hg2 : w.heap.size ≤ g := Nat.le_trans hbe.size hg
  clear hb1 hbe hb2 hg hc0 hc1
  go_wp2_with fail
  rw [hk]
  clear hk
  go_loopw [38] (fun i wr => ∃ j : Nat, j ≤ 4 ∧ i = .int .i64 j ∧ Bk wr g 71 (bys (turnL (sealB z l) k y j)).toArray ∧ Below w.heap.size w wr) (fun i _ => 4 - (intOf i).toNat)
  case atStart => exact ⟨0, by omega, rfl, hbk2, hbe2⟩
  case round =>
    obtain ⟨j, hj, rfl, hbk, hbw⟩ := hrel
    clear hbk2 hbe2
    by_cases hlt : j < 4
    · have hc := hbk.byte (n := 512) (by rw [turnL_len]; exact Hsl.out) (j := k + j) (by omega)
      rw [turnL_at (sealB z l) k y j j (Nat.le_refl _)] at hc
      have hf := hbk.free (k + j)
      have hbv : y / 2 ^ (8 * j) % 256 = ((byteOf y j).toNat : Int) := by rw [byteOf_nat, pow256]
      have hxo := xor8 ((sealB z l)[k + j]?.getD 0) (byteOf y j)
      have hidx : (k : Int) + (j : Int) < 512 := by omega
      have hset := hbk.drew.setB (k + j) (((sealB z l)[k + j]?.getD 0) ^^^ byteOf y j)
      have hbd : Below w.heap.size w wr.drew := hbw.drew
      have Ht : Hid (turnL (sealB z l) k y (j + 1) = (turnL (sealB z l) k y j).set (k + j) (((sealB z l)[k + j]?.getD 0) ^^^ byteOf y j)) := Lib.hid rfl
      have hbs := hbd.setCell (p := ⟨g, k + j, none⟩) (by omega : w.heap.size ≤ g) (.int .u8 (((((sealB z l)[k + j]?.getD 0) ^^^ byteOf y j).toNat : Nat) : Int))
      generalize (sealB z l)[k + j]?.getD 0 = u at *
      have hu := u.toNat_lt
      go_wp2_with fail
      have q1 : IntKind.i64.wrap ((k : Int) + (j : Int)) = (k : Int) + (j : Int) := IntWalk.i64_in _ (by omega)
      have q2 : 0 ≤ (k : Int) + (j : Int) := by omega
      have q3 : ((k : Int) + (j : Int)).toNat = k + j := by omega
      have q4 : IntKind.i64.wrap (8 * (j : Int)) = 8 * (j : Int) := IntWalk.i64_in _ (by omega)
      have q5 : 0 ≤ 8 * (j : Int) := by omega
      have q6 : (8 * (j : Int)).toNat = 8 * j := by omega
      have q7 : IntKind.u8.wrap (y / 2 ^ (8 * j)) = ((byteOf y j).toNat : Int) := by rw [IntKind.wrap_u8', hbv]
      go_still_tail 13, (by kernel_rfl)
      change wpList _ _ _ _ _ wr.drew
      have hc4 : wr.drew.cell? ⟨g, k + j, none⟩ = some (.int .u8 (u.toNat : Int)) := hc
      have hf4 : wr.drew.frozen? ⟨g, k + j, none⟩ = false := hf
      generalize wr.drew = W5 at *
      clear q1 q2 q3 q4 q5 q6 q7 hc hf hbk hbw hbv
      go_wp2_with fail
      go_roundw
      case rel => exact ⟨j + 1, by omega, by go_num, by rw [Ht.out]; exact hset, hbs⟩
      case measure => simp [intOf]; omega
    · have : j = 4 := by omega
      subst this
      go_wp2_with fail
      refine (Hop.out wr g hbk).mono ?_
      rintro e w3 ⟨rfl, hb3⟩
      go_wp2
      go_ret
      exact ⟨rfl, hbw.trans (hb3.mono hbw.size)⟩
end Go.Proofs.Ythflnndjjhifeaa
