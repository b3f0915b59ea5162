/- The law NodePuts: its walk. -/
import Derived.Test.YtelaliokmmaopaaDoorNodY
import Derived.Test.YtelaliokmmaopaaDoorNodZ
import Derived.Test.YtelaliokmmaopaaDoorNodV
import Derived.Test.YtelaliokmmaopaaDoorNodAa
import Derived.Test.YtelaliokmmaopaaDoorNodQ
import Derived.Test.YtelaliokmmaopaaDoorNodSm
import Derived.Test.YtelaliokmmaopaaDoorNodC
import Derived.Test.YtelaliokmmaopaaDoorZero
namespace Go.Proofs.YtelaliokmmaopaaDoor
open Go.RowKit
attribute [local go_sem ↓] Go.wp_at_zero Go.wp_at_succ

/-- The law reads no table. -/
theorem nodePuts_laid {P : Prop} (_ : World) (_ : P) : True := trivial
set_option maxRecDepth 100000 in
set_option maxHeartbeats 8000000 in
theorem nodePuts_walk (M : NdM) (N : NodP) (z : Int) (w : World) (hr : RdN w w.heap.size M N) (hz : 0 ≤ z ∧ z ≤ 255) (_ : True) :
    Calls Tryd.prog 7 #[.agg (ndC N.leaf M), .int .u8 z] w fun e w' => e = .returned (.bool true) ∧ Below w.heap.size w w' := by
  obtain ⟨hcl, hkl⟩ := hr.len
  have Hwk := Lib.hid (fun W => nodwakes_any W)
  have Hgr := Lib.hid (fun W (hb : Below w.heap.size w W) => great_any M N W ((hr.below hb (Nat.le_refl _)).more hb.size))
  have Hrr := Lib.hid (fun W (hb : Below w.heap.size w W) (h1 : M.n ≤ 100) (h2 : M.m ≤ 100) => rright_any M N W ((hr.below hb (Nat.le_refl _)).more hb.size) h1 h2)
  have Hrt := Lib.hid (fun W (hb : Below w.heap.size w W) (h1 : M.n ≤ 100) (h2 : M.m ≤ 100) => right_any M N W ((hr.below hb (Nat.le_refl _)).more hb.size) (by omega) (by omega))
  have Hpu := Lib.hid (fun W (hb : Below w.heap.size w W) (h1 : M.n ≤ 100) (h2 : M.m ≤ 100) => nput_any M N W ((hr.below hb (Nat.le_refl _)).more hb.size) (by omega) (by omega))
  have Hsz := Lib.hid (fun W (hb : Below w.heap.size w W) (h1 : M.n ≤ 100) (h2 : M.m ≤ 100) => size_any M N W ((hr.below hb (Nat.le_refl _)).more hb.size) (by omega) (by omega))
  have Hby := Lib.hid (fun (hR : RightP N) W (hb : Below w.heap.size w W) => rbytes_any M N W ((hr.below hb (Nat.le_refl _)).more hb.size) hR)
  have Hr := Lib.hid hr
  have HRt := Lib.hid (fun h : RightP N => rightB_true h)
  have HRf := Lib.hid (fun h : ¬ RightP N => rightB_false h)
  have HRb := Lib.hid (show rightB N = true → RightP N from fun h => rightB_iff.1 h)
  clear hr hcl hkl
  generalize rightB N = rb at *
  obtain ⟨lf, hlf⟩ : ∃ lf, N.leaf = lf := ⟨_, rfl⟩
  rw [hlf] at Hgr Hrr Hrt Hpu Hsz Hby ⊢
  unfold ndC at Hgr Hrr Hrt Hpu Hsz Hby ⊢
  have Hl := Lib.hid hlf
  clear hlf
  go_enter Tryd.func7, Tryd.ntmps7
  go_wp2_with fail
  with_reducible refine (Hwk.out _).mono ?_
  rintro e w1 ⟨rfl, hb1⟩
  have hg1 : Bk w1 w.heap.size 27 #[.bool lf, .slice M.A M.n M.c, .slice M.K M.m M.d] := Bk.below (Bk.new w _ _) hb1 (by simp)
  have hB1 : Below w.heap.size w w1 := ((Below.refl w.heap.size w).alloc (Nat.le_refl _) (.cells #[.bool lf, .slice M.A M.n M.c, .slice M.K M.m M.d] 27)).trans (hb1.mono (by simp))
  have f0 : w1.cell? ⟨w.heap.size, 0, none⟩ = some (.bool lf) := hg1.cell 0
  have f1 : w1.cell? ⟨w.heap.size, 1, none⟩ = some (.slice M.A M.n M.c) := hg1.cell 1
  have f2 : w1.cell? ⟨w.heap.size, 2, none⟩ = some (.slice M.K M.m M.d) := hg1.cell 2
  have G1 := Lib.hid hg1
  have B1 := Lib.hid hB1
  clear hg1 hB1 hb1 Hwk
  go_wp2_with fail
  with_reducible refine (Hgr.out _ B1.out).mono ?_
  rintro e w2 ⟨hq, hb2⟩
  have G2 := Lib.hid (Bk.below G1.out hb2 G1.out.lt)
  have B2 := Lib.hid (B1.out.trans (hb2.mono B1.out.size))
  clear hb2 f0 f1 f2
  have f0 : w2.cell? ⟨w.heap.size, 0, none⟩ = some (.bool lf) := G2.out.cell 0
  have f1 : w2.cell? ⟨w.heap.size, 1, none⟩ = some (.slice M.A M.n M.c) := G2.out.cell 1
  have f2 : w2.cell? ⟨w.heap.size, 2, none⟩ = some (.slice M.K M.m M.d) := G2.out.cell 2
  rcases hq with rfl | ⟨rfl, hn, hm⟩
  · go_wp2_with fail
    go_ret
    exact ⟨rfl, B2.out⟩
  go_wp2_with fail
  with_reducible refine (Hpu.out _ B2.out hn hm).mono ?_
  rintro e w3 ⟨hp, hb3⟩
  have G3 := Lib.hid (Bk.below G2.out hb3 G2.out.lt)
  have B3 := Lib.hid (B2.out.trans (hb3.mono B2.out.size))
  clear hb3 f0 f1 f2
  have f0 : w3.cell? ⟨w.heap.size, 0, none⟩ = some (.bool lf) := G3.out.cell 0
  have f1 : w3.cell? ⟨w.heap.size, 1, none⟩ = some (.slice M.A M.n M.c) := G3.out.cell 1
  have f2 : w3.cell? ⟨w.heap.size, 2, none⟩ = some (.slice M.K M.m M.d) := G3.out.cell 2
  rcases hp with ⟨hR, rfl⟩ | ⟨hR, h5, rfl⟩ | ⟨hR, h5, v, rfl, hown⟩
  · -- no right node
    obtain rfl := HRf.out hR
    have HR := Lib.hid hR
    clear hR
    go_wp2_with fail
    with_reducible refine (Hrr.out _ B3.out hn hm).mono ?_
    rintro e w4 ⟨rfl, hb4⟩
    have G4 := Lib.hid (Bk.below G3.out hb4 G3.out.lt)
    have B4 := Lib.hid (B3.out.trans (hb4.mono B3.out.size))
    clear hb4 f0 f1 f2
    have f0 : w4.cell? ⟨w.heap.size, 0, none⟩ = some (.bool lf) := G4.out.cell 0
    have f1 : w4.cell? ⟨w.heap.size, 1, none⟩ = some (.slice M.A M.n M.c) := G4.out.cell 1
    have f2 : w4.cell? ⟨w.heap.size, 2, none⟩ = some (.slice M.K M.m M.d) := G4.out.cell 2
    go_wp2_with fail
    with_reducible refine (Hrt.out _ B4.out hn hm).mono ?_
    rintro e w5 ⟨rfl, hb5⟩
    have G5 := Lib.hid (Bk.below G4.out hb5 G4.out.lt)
    have B5 := Lib.hid (B4.out.trans (hb5.mono B4.out.size))
    clear hb5 f0 f1 f2
    have f0 : w5.cell? ⟨w.heap.size, 0, none⟩ = some (.bool lf) := G5.out.cell 0
    have f1 : w5.cell? ⟨w.heap.size, 1, none⟩ = some (.slice M.A M.n M.c) := G5.out.cell 1
    have f2 : w5.cell? ⟨w.heap.size, 2, none⟩ = some (.slice M.K M.m M.d) := G5.out.cell 2
    go_wp2_with fail
    with_reducible refine (Hsz.out _ B5.out hn hm).mono ?_
    rintro e w6 ⟨⟨h, _⟩ | ⟨_, rfl⟩, hb6⟩
    · exact absurd h HR.out
    have B6 := Lib.hid (B5.out.trans (hb6.mono B5.out.size))
    clear hb6
    go_wp2_with fail
    go_ret
    exact ⟨rfl, B6.out⟩
  · -- too long
    obtain rfl := HRt.out hR
    have HR := Lib.hid hR
    have H5 := Lib.hid h5
    have h5' : (508 : Int) < ((packN N).length : Int) := by omega
    clear hR h5
    go_wp2_with fail
    with_reducible refine (Hrr.out _ B3.out hn hm).mono ?_
    rintro e w4 ⟨rfl, hb4⟩
    have G4 := Lib.hid (Bk.below G3.out hb4 G3.out.lt)
    have B4 := Lib.hid (B3.out.trans (hb4.mono B3.out.size))
    clear hb4 f0 f1 f2
    have f0 : w4.cell? ⟨w.heap.size, 0, none⟩ = some (.bool lf) := G4.out.cell 0
    have f1 : w4.cell? ⟨w.heap.size, 1, none⟩ = some (.slice M.A M.n M.c) := G4.out.cell 1
    have f2 : w4.cell? ⟨w.heap.size, 2, none⟩ = some (.slice M.K M.m M.d) := G4.out.cell 2
    go_wp2_with fail
    with_reducible refine (Hby.out HR.out _ B4.out).mono ?_
    rintro e w5 ⟨v5, rfl, ho5, hb5⟩
    obtain ⟨A5, c5, rfl, _, _⟩ := own_form ho5
    have G5 := Lib.hid (Bk.below G4.out hb5 G4.out.lt)
    have B5 := Lib.hid (B4.out.trans (hb5.mono B4.out.size))
    clear hb5 f0 f1 f2 ho5
    have f0 : w5.cell? ⟨w.heap.size, 0, none⟩ = some (.bool lf) := G5.out.cell 0
    have f1 : w5.cell? ⟨w.heap.size, 1, none⟩ = some (.slice M.A M.n M.c) := G5.out.cell 1
    have f2 : w5.cell? ⟨w.heap.size, 2, none⟩ = some (.slice M.K M.m M.d) := G5.out.cell 2
    go_wp2_with fail
    with_reducible refine (Hrt.out _ B5.out hn hm).mono ?_
    rintro e w6 ⟨rfl, hb6⟩
    have G6 := Lib.hid (Bk.below G5.out hb6 G5.out.lt)
    have B6 := Lib.hid (B5.out.trans (hb6.mono B5.out.size))
    clear hb6 f0 f1 f2
    have f0 : w6.cell? ⟨w.heap.size, 0, none⟩ = some (.bool lf) := G6.out.cell 0
    have f1 : w6.cell? ⟨w.heap.size, 1, none⟩ = some (.slice M.A M.n M.c) := G6.out.cell 1
    have f2 : w6.cell? ⟨w.heap.size, 2, none⟩ = some (.slice M.K M.m M.d) := G6.out.cell 2
    go_wp2_with fail
    with_reducible refine (Hsz.out _ B6.out hn hm).mono ?_
    rintro e w7 ⟨⟨_, rfl⟩ | ⟨h, _⟩, hb7⟩
    rotate_left
    · exact absurd HR.out h
    have B7 := Lib.hid (B6.out.trans (hb7.mono B6.out.size))
    clear hb7
    generalize (packN N).length = pl at *
    have hne : ((pl : Int) != (pl : Int)) = false := by simp
    go_wp2_with fail
    go_ret
    exact ⟨rfl, B7.out⟩
  · -- put, and got again
    obtain rfl := HRt.out hR
    have HR := Lib.hid hR
    obtain ⟨A3, c3, rfl, hc3, _⟩ := own_form hown
    have HO3 := Lib.hid hown
    have h5' : ¬ (508 : Int) < ((packN N).length : Int) := by omega
    clear hR hown
    go_wp2_with fail
    with_reducible refine (Hrr.out _ B3.out hn hm).mono ?_
    rintro e w4 ⟨rfl, hb4⟩
    have O4 := Lib.hid (own_below HO3.out hb4 (Nat.le_refl _))
    have G4 := Lib.hid (Bk.below G3.out hb4 G3.out.lt)
    have B4 := Lib.hid (B3.out.trans (hb4.mono B3.out.size))
    clear hb4 f0 f1 f2
    have f0 : w4.cell? ⟨w.heap.size, 0, none⟩ = some (.bool lf) := G4.out.cell 0
    have f1 : w4.cell? ⟨w.heap.size, 1, none⟩ = some (.slice M.A M.n M.c) := G4.out.cell 1
    have f2 : w4.cell? ⟨w.heap.size, 2, none⟩ = some (.slice M.K M.m M.d) := G4.out.cell 2
    go_wp2_with fail
    with_reducible refine (Hby.out HR.out _ B4.out).mono ?_
    rintro e w5 ⟨v5, rfl, ho5, hb5⟩
    have O5 := Lib.hid (own_below O4.out hb5 (Nat.le_refl _))
    have P5 := Lib.hid ho5
    obtain ⟨A5, c5, rfl, hc5, _⟩ := own_form ho5
    have G5 := Lib.hid (Bk.below G4.out hb5 G4.out.lt)
    have B5 := Lib.hid (B4.out.trans (hb5.mono B4.out.size))
    clear hb5 f0 f1 f2 ho5
    have f0 : w5.cell? ⟨w.heap.size, 0, none⟩ = some (.bool lf) := G5.out.cell 0
    have f1 : w5.cell? ⟨w.heap.size, 1, none⟩ = some (.slice M.A M.n M.c) := G5.out.cell 1
    have f2 : w5.cell? ⟨w.heap.size, 2, none⟩ = some (.slice M.K M.m M.d) := G5.out.cell 2
    go_wp2_with fail
    with_reducible refine (Hrt.out _ B5.out hn hm).mono ?_
    rintro e w6 ⟨rfl, hb6⟩
    have O6 := Lib.hid (own_below O5.out hb6 (Nat.le_refl _))
    have P6 := Lib.hid (own_below P5.out hb6 (Nat.le_refl _))
    have G6 := Lib.hid (Bk.below G5.out hb6 G5.out.lt)
    have B6 := Lib.hid (B5.out.trans (hb6.mono B5.out.size))
    clear hb6 f0 f1 f2
    have f0 : w6.cell? ⟨w.heap.size, 0, none⟩ = some (.bool lf) := G6.out.cell 0
    have f1 : w6.cell? ⟨w.heap.size, 1, none⟩ = some (.slice M.A M.n M.c) := G6.out.cell 1
    have f2 : w6.cell? ⟨w.heap.size, 2, none⟩ = some (.slice M.K M.m M.d) := G6.out.cell 2
    go_wp2_with fail
    with_reducible refine (Hsz.out _ B6.out hn hm).mono ?_
    rintro e w7 ⟨⟨_, rfl⟩ | ⟨h, _⟩, hb7⟩
    rotate_left
    · exact absurd HR.out h
    have O7 := Lib.hid (own_below O6.out hb7 (Nat.le_refl _))
    have P7 := Lib.hid (own_below P6.out hb7 (Nat.le_refl _))
    have G7 := Lib.hid (Bk.below G6.out hb7 G6.out.lt)
    have B7 := Lib.hid (B6.out.trans (hb7.mono B6.out.size))
    clear hb7 f0 f1 f2
    have f0 : w7.cell? ⟨w.heap.size, 0, none⟩ = some (.bool lf) := G7.out.cell 0
    have f1 : w7.cell? ⟨w.heap.size, 1, none⟩ = some (.slice M.A M.n M.c) := G7.out.cell 1
    have f2 : w7.cell? ⟨w.heap.size, 2, none⟩ = some (.slice M.K M.m M.d) := G7.out.cell 2
    clear O4 O5 O6 P5 P6 HO3 G1 G2 G3 G4 G5 G6 B1 B2 B3 B4 B5 B6 Hgr Hrr Hrt Hpu Hsz Hby
    obtain ⟨zn, hzn, hzn5⟩ : ∃ zn : Nat, z = (zn : Int) ∧ zn ≤ 255 := ⟨z.toNat, by omega, by omega⟩
    subst hzn
    have HIN := Lib.hid (isN_pack HR.out (List.replicate zn 0) (fun x hx => (List.mem_replicate.1 hx).2))
    have HSz := Lib.hid (show ∀ d ∈ N.cells, d.key.length ≤ 1000000 ∧ d.val.length ≤ 1000000 from by
      intro d hd
      obtain ⟨i, hi, rfl⟩ := List.getElem_of_mem hd
      have hok := HR.out.2.1.1 i _ hi (List.getElem?_eq_getElem hi)
      refine ⟨by have := hok.1; omega, ?_⟩
      have h2 := hok.2
      cases hlf : N.leaf
      · rw [hlf] at h2; simp only [Bool.false_eq_true, if_false] at h2; omega
      · rw [hlf] at h2; simp only [if_true] at h2; unfold cellP at h2
        by_cases h0 : N.cells[i].over = 0
        · rw [if_pos h0] at h2; omega
        · rw [if_neg h0] at h2; omega)
    have HRd := Lib.hid (fun W (hb : Below w.heap.size w W) => ((Hr.out.below hb (Nat.le_refl _)).more hb.size))
    have hne : (((packN N).length : Int) != ((packN N).length : Int)) = false := by simp
    have hle : (packN N).length ≤ 508 := h5
    clear h5 HRf HRt HRb
    generalize hL : packN N = L at *
    have hsz7 := B7.out.size
    have HGO := Lib.hid (show ∀ (w8 : World) (v8 : Value), w8.ownsRow w7.heap.size 5 1 v8 (0 + L.length) (bys ([] ++ L)) → w8.ownsRow w7.heap.size 5 1 v8 L.length (bys L) from by
      intro w8 v8 h1
      simpa only [Nat.zero_add, List.nil_append] using h1)
    clear hz
    go_wp2_with (first
      | (at_builtin
         refine ap_bys (own_lit0 w7 _) ((Rd.of_own O7.out).alloc (Nat.le_refl _) _) ((Below.refl w7.heap.size w7).alloc (Nat.le_refl _) _) (by simp) (by omega) rfl rfl rfl ?_
         intro v8 w8 hown8 hb8 _ _
         have hown8' := HGO.out w8 v8 hown8)
      | (at_builtin
         refine ap_zeros hown8' zn (zn : Int) rfl hb8 hb8.size (by omega) rfl rfl rfl ?_
         intro v9 w9 hown9 hb9 _ _))
    obtain ⟨A9, c9, rfl, hc9, _⟩ := own_form hown9
    have Hget := Lib.hid (get_any A9 (L.length + zn) c9 (L ++ List.replicate zn 0) w9 (Rd.of_own hown9) hc9 (by omega))
    have H79 := Lib.hid hb9
    clear hown8 hown8' hown9 hb8 hb9 HGO hc9
    with_reducible refine Hget.out.mono ?_
    rintro e w10 ⟨hq, hb10⟩
    have H710 := Lib.hid (H79.out.trans (hb10.mono H79.out.size))
    clear hb10 Hget H79
    rcases hq with ⟨M2, N2, rfl, hN2, hrd2⟩ | ⟨_, hno⟩
    rotate_left
    · exact absurd HIN.out (hno N)
    have hNN := (hN2.inj HIN.out).symm
    subst hNN
    have hlen2 := hrd2.len
    unfold ndC
    rw [Hl.out]
    have HW := Lib.hid (H710.out.alloc H710.out.size (.cells #[.bool lf, .slice M2.A M2.n M2.c, .slice M2.K M2.m M2.d] 27))
    have BW := Lib.hid (B7.out.trans (HW.out.mono hsz7))
    have GN := Lib.hid (Bk.below G7.out HW.out G7.out.lt)
    have GX := Lib.hid (Bk.new w10 27 #[.bool lf, .slice M2.A M2.n M2.c, .slice M2.K M2.m M2.d])
    have HX2 := Lib.hid (show RdN (w10.alloc (.cells #[.bool lf, .slice M2.A M2.n M2.c, .slice M2.K M2.m M2.d] 27)) (w10.alloc (.cells #[.bool lf, .slice M2.A M2.n M2.c, .slice M2.K M2.m M2.d] 27)).heap.size M2 N from (hrd2.alloc (Nat.le_refl _) (.cells #[.bool lf, .slice M2.A M2.n M2.c, .slice M2.K M2.m M2.d] 27)).more (by simp))
    have hx10 : w10.heap.size < (w10.alloc (.cells #[.bool lf, .slice M2.A M2.n M2.c, .slice M2.K M2.m M2.d] 27)).heap.size := by simp
    have hMn : M.n ≤ 1000000 := by omega
    have hMm : M.m ≤ 1000000 := by omega
    have hM2 : M2.n ≤ 1000000 ∧ M2.m ≤ 1000000 := by have := Hr.out.len; omega
    have HSm := Lib.hid ((same_any A3 A5 L.length L.length c3 c5 L L (w10.alloc (.cells #[.bool lf, .slice M2.A M2.n M2.c, .slice M2.K M2.m M2.d] 27)) ((Rd.of_own (own_below O7.out HW.out (Nat.le_refl _)))) ((Rd.of_own (own_below P7.out HW.out (Nat.le_refl _)))) (by omega) (by omega)).mono (R' := fun e w' => e = .returned (.bool true) ∧ ∃ q, w' = (w10.alloc (.cells #[.bool lf, .slice M2.A M2.n M2.c, .slice M2.K M2.m M2.d] 27)).drewN q) (fun e w' h => ⟨by rw [h.1]; simp, h.2⟩))
    clear hrd2 hN2 hlen2 H710 G7 B7 O7 P7 HIN f0 f1 f2
    go_wp2_with fail
    generalize (w10.alloc (.cells #[.bool lf, .slice M2.A M2.n M2.c, .slice M2.K M2.m M2.d] 27)) = wx at *
    with_reducible refine HSm.out.mono ?_
    rintro e w11 ⟨rfl, q, rfl⟩
    have n0 : wx.cell? ⟨w.heap.size, 0, none⟩ = some (.bool lf) := GN.out.cell 0
    have n1 : wx.cell? ⟨w.heap.size, 1, none⟩ = some (.slice M.A M.n M.c) := GN.out.cell 1
    have n2 : wx.cell? ⟨w.heap.size, 2, none⟩ = some (.slice M.K M.m M.d) := GN.out.cell 2
    have x0 : wx.cell? ⟨w10.heap.size, 0, none⟩ = some (.bool lf) := GX.out.cell 0
    have x1 : wx.cell? ⟨w10.heap.size, 1, none⟩ = some (.slice M2.A M2.n M2.c) := GX.out.cell 1
    have x2 : wx.cell? ⟨w10.heap.size, 2, none⟩ = some (.slice M2.K M2.m M2.d) := GX.out.cell 2
    have hrs := rsame_eq M2 M N (wx.drewN q) (HX2.out.keep (fun _ _ => rfl)) ((HRd.out wx BW.out).keep (fun _ _ => rfl)) hM2.1 hM2.2 HSz.out
    unfold ndC at hrs
    rw [Hl.out] at hrs
    have Hrs := Lib.hid hrs
    clear hrs HSm
    go_wp2_with fail
    with_reducible refine Hrs.out.mono ?_
    rintro e w12 ⟨rfl, hb12⟩
    have hbx : Below wx.heap.size wx w12 := ⟨hb12.os, hb12.tape, hb12.output, hb12.size, hb12.block⟩
    have B12 := Lib.hid (BW.out.trans (hbx.mono BW.out.size))
    have hg1 := Bk.below GN.out hbx GN.out.lt
    have hg2 := Bk.below GX.out hbx GX.out.lt
    have hns := nsame_eq M2 M N w12 ((HX2.out.below hbx (Nat.le_refl _)).more hbx.size) (HRd.out w12 B12.out) hM2.1 hM2.2
    unfold ndC at hns
    rw [Hl.out] at hns
    have Hns := Lib.hid hns
    clear n0 n1 n2 x0 x1 x2 hns
    have n0 : w12.cell? ⟨w.heap.size, 0, none⟩ = some (.bool lf) := hg1.cell 0
    have n1 : w12.cell? ⟨w.heap.size, 1, none⟩ = some (.slice M.A M.n M.c) := hg1.cell 1
    have n2 : w12.cell? ⟨w.heap.size, 2, none⟩ = some (.slice M.K M.m M.d) := hg1.cell 2
    have x0 : w12.cell? ⟨w10.heap.size, 0, none⟩ = some (.bool lf) := hg2.cell 0
    have x1 : w12.cell? ⟨w10.heap.size, 1, none⟩ = some (.slice M2.A M2.n M2.c) := hg2.cell 1
    have x2 : w12.cell? ⟨w10.heap.size, 2, none⟩ = some (.slice M2.K M2.m M2.d) := hg2.cell 2
    clear hb12 hbx hg1 hg2 Hrs
    go_wp2_with fail
    with_reducible refine Hns.out.mono ?_
    rintro e w13 ⟨rfl, hb13⟩
    have B13 := Lib.hid (B12.out.trans (hb13.mono B12.out.size))
    clear hb13
    go_wp2_with fail
    go_ret
    exact ⟨rfl, B13.out⟩
end Go.Proofs.YtelaliokmmaopaaDoor
