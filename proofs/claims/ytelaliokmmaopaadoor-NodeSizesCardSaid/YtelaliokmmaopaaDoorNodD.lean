/- The law NodeSizes: its walk. -/
import Derived.Test.YtelaliokmmaopaaDoorNodC
namespace Go.Proofs.YtelaliokmmaopaaDoor
open Go.RowKit
attribute [local go_sem ↓] Go.wp_at_zero Go.wp_at_succ

/-- The law reads no table. -/
theorem nodeSizes_laid {P : Prop} (_ : World) (_ : P) : True := trivial
set_option maxRecDepth 100000 in
set_option maxHeartbeats 4000000 in
theorem nodeSizes_walk (M : NdM) (N : NodP) (a : Int) (w : World) (hr : RdN w w.heap.size M N) (ha : 0 ≤ a ∧ a ≤ 255) (_ : True) :
    Calls Tryd.prog 4 #[.agg (ndC N.leaf M), .int .u8 a] w fun e w' => e = .returned (.bool true) ∧ Below w.heap.size w w' := by
  obtain ⟨hcl, hkl⟩ := hr.len
  have hwk := fun W => nodwakes_any W
  have hgr := fun W (hb : Below w.heap.size w W) => great_any M N W ((hr.below hb (Nat.le_refl _)).more hb.size)
  have hrt := fun W (hb : Below w.heap.size w W) (h1 : M.n ≤ 100) (h2 : M.m ≤ 100) => rright_any M N W ((hr.below hb (Nat.le_refl _)).more hb.size) h1 h2
  have Hr := Lib.hid hr
  have Hcl := Lib.hid hcl
  have Hkl := Lib.hid hkl
  have Hgr := Lib.hid hgr
  have Hrt := Lib.hid hrt
  have Hwk := Lib.hid hwk
  clear hr hcl hkl hgr hrt hwk
  have HRb := Lib.hid (show rightB N = true → RightP N from fun h => rightB_iff.1 h)
  unfold ndC at Hgr Hrt ⊢
  obtain ⟨A, n, c, K, m, d⟩ := M
  obtain ⟨lf, cs, ks⟩ := N
  simp only at Hcl Hkl Hgr Hrt ⊢
  generalize rightB ⟨lf, cs, ks⟩ = rb at *
  go_enter Tryd.func4, Tryd.ntmps4
  go_wp2_with fail
  refine (Hwk.out _).mono ?_
  rintro e w1 ⟨rfl, hb1⟩
  have hg1 : Bk w1 w.heap.size 27 #[.bool lf, .slice A n c, .slice K m d] := Bk.below (Bk.new w _ _) hb1 (by simp)
  have hB1 : Below w.heap.size w w1 := ((Below.refl w.heap.size w).alloc (Nat.le_refl _) (.cells #[.bool lf, .slice A n c, .slice K m d] 27)).trans (hb1.mono (by simp))
  have f0 : w1.cell? ⟨w.heap.size, 0, none⟩ = some (.bool lf) := hg1.cell 0
  have f1 : w1.cell? ⟨w.heap.size, 1, none⟩ = some (.slice A n c) := hg1.cell 1
  have f2 : w1.cell? ⟨w.heap.size, 2, none⟩ = some (.slice K m d) := hg1.cell 2
  have G1 := Lib.hid hg1
  have B1 := Lib.hid hB1
  clear hg1 hB1 hb1 Hwk
  go_wp2_with fail
  refine (Hgr.out _ B1.out).mono ?_
  rintro e w2 ⟨hq, hb2⟩
  have G2 := Lib.hid (Bk.below G1.out hb2 G1.out.lt)
  have B2 := Lib.hid (B1.out.trans (hb2.mono B1.out.size))
  clear hb2 Hgr G1 B1 f0 f1 f2
  have f0 : w2.cell? ⟨w.heap.size, 0, none⟩ = some (.bool lf) := G2.out.cell 0
  have f1 : w2.cell? ⟨w.heap.size, 1, none⟩ = some (.slice A n c) := G2.out.cell 1
  have f2 : w2.cell? ⟨w.heap.size, 2, none⟩ = some (.slice K m d) := G2.out.cell 2
  rcases hq with rfl | ⟨rfl, hn, hm⟩
  · go_wp2_with fail
    go_ret
    exact ⟨rfl, B2.out⟩
  simp only at hn hm
  go_wp2_with fail
  refine (Hrt.out _ B2.out hn hm).mono ?_
  rintro e w3 ⟨rfl, hb3⟩
  have G3 := Lib.hid (Bk.below G2.out hb3 G2.out.lt)
  have B3 := Lib.hid (B2.out.trans (hb3.mono B2.out.size))
  clear hb3 Hrt G2 B2 f0 f1 f2
  have f0 : w3.cell? ⟨w.heap.size, 0, none⟩ = some (.bool lf) := G3.out.cell 0
  have f1 : w3.cell? ⟨w.heap.size, 1, none⟩ = some (.slice A n c) := G3.out.cell 1
  have f2 : w3.cell? ⟨w.heap.size, 2, none⟩ = some (.slice K m d) := G3.out.cell 2
  cases rb
  · go_wp2_with fail
    go_ret
    exact ⟨rfl, B3.out⟩
  have HR := Lib.hid (HRb.out rfl)
  by_cases hn0 : n = 0
  · subst hn0
    go_wp2_with fail
    go_ret
    exact ⟨rfl, B3.out⟩
  have hn0' : ((n : Int) == 0) = false := by simp; omega
  cases lf
  · go_wp2_with fail
    go_ret
    exact ⟨rfl, B3.out⟩
  obtain ⟨k, hk, hkn⟩ : ∃ k : Nat, a.tmod ((n : Int) + 1) = (k : Int) ∧ k ≤ n := by
    refine ⟨(a.tmod ((n : Int) + 1)).toNat, ?_, ?_⟩
    · rw [Int.toNat_of_nonneg (Int.tmod_nonneg _ ha.1)]
    · have := Int.tmod_lt_of_pos a (b := (n : Int) + 1) (by omega)
      omega
  go_upto_region 6 with (fail)
  have hnc := Hr.out.nc
  have hcm := Hr.out.cm
  simp only at hnc hcm
  obtain ⟨b, o, rfl, hbb⟩ : ∃ b o, A = some ⟨b, o, none⟩ ∧ b < w.heap.size := by
    obtain ⟨b, o, e, hb, _⟩ := Hr.out.cs.2 (by show 0 < n; omega)
    exact ⟨b, o, e, hb⟩
  have HB := Lib.hid (show ∀ (o1 o2 : Array Value), Below w.heap.size w ((w3.alloc (.cells o1 27)).alloc (.cells o2 27)).drew ∧ Bk ((w3.alloc (.cells o1 27)).alloc (.cells o2 27)).drew w.heap.size 27 #[.bool true, .slice (some ⟨b, o, none⟩) n c, .slice K m d] ∧ Bk ((w3.alloc (.cells o1 27)).alloc (.cells o2 27)).drew w3.heap.size 27 o1 ∧ Bk ((w3.alloc (.cells o1 27)).alloc (.cells o2 27)).drew (w3.heap.size + 1) 27 o2 from by
    intro o1 o2
    have hz := B3.out.size
    refine ⟨((B3.out.alloc hz _).alloc (by simp; omega) _).drew, ((G3.out.alloc _).alloc _).drew, ((Bk.new _ _ _).alloc _).drew, ?_⟩
    exact (Bk.new' _ _ _ (by simp)).drew)
  have hkc : k ≤ c := by omega
  have hlt3 := G3.out.lt
  have e1 : (w3.alloc (.cells #[.bool false, .slice none 0 0, .slice none 0 0] 27)).cell? ⟨w.heap.size, 1, none⟩ = some (.slice (some ⟨b, o, none⟩) n c) := (G3.out.alloc _).cell 1
  have e2 : ((w3.alloc (.cells #[.bool false, .slice none 0 0, .slice none 0 0] 27)).alloc (.cells #[.bool false, .slice none 0 0, .slice none 0 0] 27)).cell? ⟨w.heap.size, 1, none⟩ = some (.slice (some ⟨b, o, none⟩) n c) := ((G3.out.alloc _).alloc _).cell 1
  obtain ⟨A7, hA7, hA7'⟩ : ∃ A7 : Option Addr, (if c = k then some (⟨b, o, none⟩ : Addr) else some ⟨b, o + k * 4, none⟩) = A7 ∧ (n - k = 0 ∨ A7 = some ⟨b, o + k * 4, none⟩) := by
    refine ⟨_, rfl, ?_⟩
    by_cases h : c = k
    · left; omega
    · right; rw [if_neg h]
  go_cut [6, 7] (fun v6 v7 wx => ∃ g6 g7, v6 = .pointer (some ⟨g6, 0, none⟩) ∧ v7 = .pointer (some ⟨g7, 0, none⟩) ∧ Hid (Below w.heap.size w wx ∧ Bk wx w.heap.size 27 #[.bool true, .slice (some ⟨b, o, none⟩) n c, .slice K m d] ∧ Bk wx g6 27 #[.bool true, .slice (some ⟨b, o, none⟩) k c, .slice none 0 0] ∧ Bk wx g7 27 #[.bool true, .slice A7 (n - k) (c - k), .slice none 0 0]))
  case first =>
    clear Hr HR HRb Hcl Hkl
    go_region
    · go_wp2_with fail
      go_meet
      obtain ⟨h1, h2, h3, h4⟩ := HB.out #[.bool true, .slice (some ⟨b, o, none⟩) k c, .slice none 0 0] #[.bool true, .slice A7 (n - k) (c - k), .slice none 0 0]
      exact ⟨_, _, rfl, rfl, Lib.hid ⟨h1, h2, h3, h4⟩⟩
    · go_wp2_with fail
      go_meet
      obtain ⟨h1, h2, h3, h4⟩ := HB.out #[.bool true, .slice A7 (n - k) (c - k), .slice none 0 0] #[.bool true, .slice (some ⟨b, o, none⟩) k c, .slice none 0 0]
      exact ⟨_, _, rfl, rfl, Lib.hid ⟨h1, h2, h4, h3⟩⟩
  case rest =>
    obtain ⟨g6, g7, rfl, rfl, hM⟩ := hcut
    obtain ⟨hb, h0, h6, h7⟩ := hM.out
    have hks : ks = [] := List.eq_nil_of_length_eq_zero (HR.out.1.1 rfl)
    subst hks
    have hR := HR.out
    have hp := parts_len cs k
    have hp0 := packN_len hR
    simp only at hp0
    have Hs6 := Lib.hid (fun W (hb : Below w.heap.size w W) => size_leaf ⟨some ⟨b, o, none⟩, k, c, none, 0, 0⟩ ⟨true, cs.take k, []⟩ W
      ⟨((Hr.out.cs.take hkn).below hb (Nat.le_refl _)).more hb.size, ⟨rfl, fun h => absurd h (Nat.lt_irrefl 0)⟩, hkc, Nat.le_refl _, hcm, by show 0 ≤ 9223372036854775807; omega⟩ rfl (by show k ≤ _; omega) (by show 0 ≤ 1000000; omega) (right_take hR k))
    have Hs7 := Lib.hid (fun W (hb : Below w.heap.size w W) => size_leaf ⟨A7, n - k, c - k, none, 0, 0⟩ ⟨true, cs.drop k, []⟩ W
      ⟨by
        rcases hA7' with h | h
        · have hl : cs.drop k = [] := List.eq_nil_of_length_eq_zero (by rw [List.length_drop, Hcl.out, h])
          rw [hl]
          show RdCs W W.heap.size A7 (n - k) []
          rw [h]
          exact ⟨rfl, fun h => absurd h (Nat.lt_irrefl 0)⟩
        · show RdCs W W.heap.size A7 (n - k) (cs.drop k)
          rw [h]
          exact ((Hr.out.cs.drop hkn).below hb (Nat.le_refl _)).more hb.size, ⟨rfl, fun h => absurd h (Nat.lt_irrefl 0)⟩, by show n - k ≤ c - k; omega, Nat.le_refl _, by show c - k ≤ _; omega, by show 0 ≤ 9223372036854775807; omega⟩ rfl (by show n - k ≤ _; omega) (by show 0 ≤ 1000000; omega) (right_drop hR k))
    have Hs0 := Lib.hid (fun W (hb : Below w.heap.size w W) => size_leaf ⟨some ⟨b, o, none⟩, n, c, K, m, d⟩ ⟨true, cs, []⟩ W ((Hr.out.below hb (Nat.le_refl _)).more hb.size) rfl (by show n ≤ _; omega) (by show m ≤ _; omega) hR)
    unfold ndC at Hs6 Hs7 Hs0
    simp only at Hs6 Hs7 Hs0
    generalize (packN ⟨true, cs.take k, []⟩).length = p6 at *
    generalize (packN ⟨true, cs.drop k, []⟩).length = p7 at *
    generalize (packN ⟨true, cs, []⟩).length = p0 at *
    have hp00 : p0 ≤ 100000 := by have := Hcl.out; omega
    have HK := Lib.hid (show ∀ W, Below wc.heap.size wc W → (W.cell? ⟨g6, 0, none⟩ = some (.bool true) ∧ W.cell? ⟨g6, 1, none⟩ = some (.slice (some ⟨b, o, none⟩) k c) ∧ W.cell? ⟨g6, 2, none⟩ = some (.slice none 0 0)) ∧
        (W.cell? ⟨g7, 0, none⟩ = some (.bool true) ∧ W.cell? ⟨g7, 1, none⟩ = some (.slice A7 (n - k) (c - k)) ∧ W.cell? ⟨g7, 2, none⟩ = some (.slice none 0 0)) ∧
        W.cell? ⟨w.heap.size, 0, none⟩ = some (.bool true) ∧ W.cell? ⟨w.heap.size, 1, none⟩ = some (.slice (some ⟨b, o, none⟩) n c) ∧ W.cell? ⟨w.heap.size, 2, none⟩ = some (.slice K m d) from by
      intro W hbw
      have q6 := Bk.below h6 hbw h6.lt
      have q7 := Bk.below h7 hbw h7.lt
      have q0 := Bk.below h0 hbw h0.lt
      exact ⟨⟨q6.cell 0, q6.cell 1, q6.cell 2⟩, ⟨q7.cell 0, q7.cell 1, q7.cell 2⟩, q0.cell 0, q0.cell 1, q0.cell 2⟩)
    have Hb := Lib.hid hb
    have hcur : Below wc.heap.size wc wc.drew := (Below.refl _ _).drew
    clear hb h0 h6 h7 hM hp0 HR hR Hr Hcl Hkl HRb HB hA7 hA7' B3 G3 f0 f1 f2 e1 e2
    go_upto_region 7 with (fail)
    go_region_held3 (fun w' => (w'.cell? ⟨g6, 0, none⟩ = some (.bool true) ∧ w'.cell? ⟨g6, 1, none⟩ = some (.slice (some ⟨b, o, none⟩) k c) ∧ w'.cell? ⟨g6, 2, none⟩ = some (.slice none 0 0)) ∧
        (w'.cell? ⟨g7, 0, none⟩ = some (.bool true) ∧ w'.cell? ⟨g7, 1, none⟩ = some (.slice A7 (n - k) (c - k)) ∧ w'.cell? ⟨g7, 2, none⟩ = some (.slice none 0 0)) ∧
        w'.cell? ⟨w.heap.size, 0, none⟩ = some (.bool true) ∧ w'.cell? ⟨w.heap.size, 1, none⟩ = some (.slice (some ⟨b, o, none⟩) n c) ∧ w'.cell? ⟨w.heap.size, 2, none⟩ = some (.slice K m d)) (first | (exact HK.out _ hcur) | go_keep)
      (first
        | ((go_at_call 14; first | refine (Hs6.out _ (Hb.out.trans (hcur.mono Hb.out.size))).mono ?_ | refine (Hs7.out _ (Hb.out.trans (hcur.mono Hb.out.size))).mono ?_ | refine (Hs0.out _ (Hb.out.trans (hcur.mono Hb.out.size))).mono ?_); rintro e w4 ⟨rfl, hb4⟩; replace hcur := hcur.trans (hb4.mono hcur.size)))
    all_goals
      go_wp2_with fail
      go_ret
      exact ⟨ret_bool (by rw [show ((p6 : Int) + (p7 : Int)) = (p0 : Int) + 3 by omega]; simp), Hb.out.trans (hcur.mono Hb.out.size)⟩
end Go.Proofs.YtelaliokmmaopaaDoor
