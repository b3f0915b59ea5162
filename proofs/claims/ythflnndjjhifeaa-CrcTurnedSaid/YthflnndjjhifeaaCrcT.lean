/- The walk of CrcTurned. -/
import Derived.Test.YthflnndjjhifeaaCrcL
import Derived.Test.YthflnndjjhifeaaTurnP
namespace Go.Proofs.Ythflnndjjhifeaa
open Go.RowKit

set_option maxHeartbeats 1000000 in
theorem crcTurned_walk (A : Option Addr) (n c : Nat) (l : List UInt8) (x y : Int) (w : World) (hr : Rd w w.heap.size 1 A n (bys l)) (hnc : n ≤ c) (_hcm : c ≤ maxLen) (hx : 0 ≤ x ∧ x ≤ 65535) (hy : 0 ≤ y ∧ y ≤ 4294967295) :
    Calls Try.prog 3 #[.slice A n c, .int .u16 x, .int .u32 y] w fun e w' => e = .returned (.bool true) ∧ Below w.heap.size w w' := by
  have hcm := _hcm
  unfold maxLen at hcm
  have early : ((n : Int) < 4 ∨ 4 ≤ (n : Int) ∧ 2000 < (n : Int) ∨ 4 ≤ (n : Int) ∧ (n : Int) ≤ 2000 ∧ (y == 0) = true) → Calls Try.prog 3 #[.slice A n c, .int .u16 x, .int .u32 y] w fun e w' => e = .returned (.bool true) ∧ Below w.heap.size w w' := by
    rintro (h | ⟨h, h'⟩ | ⟨h, h', h''⟩)
    all_goals
      go_enter Try.func3, Try.ntmps3
      go_wp2_with fail
      refine (crcwakes_any w).mono ?_
      rintro e w1 ⟨rfl, hb1⟩
      go_wp2
      go_ret
      exact ⟨rfl, hb1⟩
  by_cases h1 : (n : Int) < 4
  · exact early (.inl h1)
  by_cases h2 : 2000 < (n : Int)
  · exact early (.inr (.inl ⟨by omega, h2⟩))
  by_cases h3 : y = 0
  · exact early (.inr (.inr ⟨by omega, by omega, by simp [h3]⟩))
  have h3' : (y == 0) = false := by simp [h3]
  obtain ⟨k, hk⟩ : ∃ k : Nat, x % ((n : Int) - 3) = k := ⟨(x % ((n : Int) - 3)).toNat, by have := Int.emod_nonneg x (show (n : Int) - 3 ≠ 0 by omega); omega⟩
  have hkn : k + 4 ≤ n := by have := Int.emod_lt_of_pos x (show 0 < (n : Int) - 3 by omega); omega
  have hll := hr.blen
  have Hll := Lib.hid hll
  have hturn := turn_crc l k y (by omega) (by omega) (by omega)
  have hne : (((crcOf (turnL l k y 4)).toNat : Int) != ((crcOf l).toNat : Int)) = true := by
    rw [bne_iff_ne]
    intro e
    exact hturn (BitVec.eq_of_toNat_eq (by omega))
  have Hne := Lib.hid hne
  clear early h3 hturn hne hll
  go_enter Try.func3, Try.ntmps3
  go_wp2_with fail
  refine (crcwakes_any w).mono ?_
  rintro e w1 ⟨rfl, hb1⟩
  have hs1 := hb1.size
  go_wp2_with (
    at_builtin
    refine ap_bys (own_lit0 w1 _) ((hr.below hb1 (Nat.le_refl _)).alloc hs1 _) ((Below.refl w1.heap.size w1).alloc (Nat.le_refl _) _) (by simp) (by omega) rfl rfl rfl ?_
    intro v2 w2 hown2 hb2 _ _
    rw [List.nil_append, Nat.zero_add] at hown2
    obtain ⟨g, c3, rfl, hg, hgl, hc3⟩ := own_pos hown2 (by omega))
  have hb2' : Below w.heap.size w w2 := hb1.trans (hb2.mono hs1)
  rw [hk]
  clear hk
  go_loopw [9, 33] (fun _ i wr => ∃ j : Nat, j ≤ 4 ∧ i = .int .i64 j ∧ wr.ownsRow w1.heap.size 5 1 (.slice (some ⟨g, 0, none⟩) n c3) n (bys (turnL l k y j)) ∧ Below w.heap.size w wr ∧ w2.heap.size ≤ wr.heap.size) (fun _ i _ => 4 - (intOf i).toNat)
  case atStart => exact ⟨0, by omega, rfl, hown2, hb2', Nat.le_refl _⟩
  case round =>
    obtain ⟨j, hj, rfl, hown, hbw, hsz⟩ := hrel
    by_cases hlt : j < 4
    · have hc := own_byte hown (j := k + j) (by omega)
      rw [turnL_at l k y j j (Nat.le_refl _)] at hc
      have hf := hown.frozenAt (k + j)
      have hbv : y / 2 ^ (8 * j) % 256 = ((byteOf y j).toNat : Int) := by rw [byteOf_nat, pow256]
      have hxo := xor8 (l[k + j]?.getD 0) (byteOf y j)
      have hidx : (k : Int) + (j : Int) < (n : Int) := by omega
      have hset := own_set (w := wr.drew) hown (k + j) ((l[k + j]?.getD 0) ^^^ byteOf y j)
      have hbd : Below w.heap.size w wr.drew := hbw.drew
      have Ht : Hid (turnL l k y (j + 1) = (turnL l k y j).set (k + j) ((l[k + j]?.getD 0) ^^^ byteOf y j)) := Lib.hid rfl
      have hbs := hbd.setCell (p := ⟨g, k + j, none⟩) (by omega : w.heap.size ≤ g) (.int .u8 ((((l[k + j]?.getD 0) ^^^ byteOf y j).toNat : Nat) : Int))
      generalize l[k + j]?.getD 0 = u at *
      have hu := u.toNat_lt
      go_wp2_with fail
      have q1 : IntKind.i64.wrap ((k : Int) + (j : Int)) = (k : Int) + (j : Int) := IntWalk.i64_in _ (by omega)
      have q2 : 0 ≤ (k : Int) + (j : Int) := by omega
      have q3 : ((k : Int) + (j : Int)).toNat = k + j := by omega
      have q4 : IntKind.i64.wrap (8 * (j : Int)) = 8 * (j : Int) := IntWalk.i64_in _ (by omega)
      have q5 : 0 ≤ 8 * (j : Int) := by omega
      have q6 : (8 * (j : Int)).toNat = 8 * j := by omega
      have q7 : IntKind.u8.wrap (y / 2 ^ (8 * j)) = ((byteOf y j).toNat : Int) := by rw [IntKind.wrap_u8', hbv]
      go_still_tail 13, (by kernel_rfl)
      change wpList _ _ _ _ _ wr.drew
      have hc4 : wr.drew.cell? ⟨g, k + j, none⟩ = some (.int .u8 (u.toNat : Int)) := hc
      have hf4 : wr.drew.frozen? ⟨g, k + j, none⟩ = false := hf
      have hs4 : w2.heap.size ≤ wr.drew.heap.size := hsz
      generalize wr.drew = W5 at *
      clear q1 q2 q3 q4 q5 q6 q7 hc hf hown hbw hsz hbv
      go_wp2_with fail
      go_roundw
      case rel => exact ⟨j + 1, by omega, by go_num, by rw [Ht.out]; exact hset.1, hbs, by simpa using hs4⟩
      case measure => simp [intOf]; omega
    · have : j = 4 := by omega
      subst this
      have one : ∀ (w3 : World) (B : Option Addr) (c' : Nat) (l' : List UInt8), Below w.heap.size w w3 → Rd w3 w3.heap.size 1 B n (bys l') → n ≤ c' → l'.length = n →
          Calls Try.prog 16 #[.slice (some ⟨w3.heap.size, 0, none⟩) 1 1] (w3.alloc (.cells #[.slice B n c'] 22)) fun e w' => e = .returned (.int .u32 ((crcOf l').toNat : Int)) ∧ Below w.heap.size w w' := by
        intro w3 B c' l' hb3 hr3 hc' hl'
        refine (crcof_any _ 1 1 [l'] _ ((RdRows.one w3 _ (RdB.mk hr3 hc') (Nat.le_refl _)).more (by simp)) (by omega) (by simp; omega)).mono ?_
        rintro e w4 ⟨rfl, hb4⟩
        exact ⟨by simp, below_new hb3 (by simpa using hb4)⟩
      have Hone := Lib.hid one
      clear one
      have hrc := Rd.of_own hown
      have htl := turnL_len l k y 4
      go_wp2_with fail
      refine (Hone.out wr _ c3 _ hbw hrc hc3 (htl.trans Hll.out)).mono ?_
      rintro e w3 ⟨rfl, hb3⟩
      clear htl
      go_wp2_with fail
      refine (Hone.out w3 A c l hb3 ((hr.below hb3 (Nat.le_refl _)).more hb3.size) hnc Hll.out).mono ?_
      rintro e w4 ⟨rfl, hb4⟩
      generalize ((crcOf (turnL l k y 4)).toNat : Int) = y1 at *
      generalize ((crcOf l).toNat : Int) = y2 at *
      go_wp2
      go_ret
      exact ⟨ret_bool Hne.out, hb4⟩
end Go.Proofs.Ythflnndjjhifeaa
