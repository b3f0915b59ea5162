/- VfsReads: any part of a file is read as it was written. -/
import Derived.Test.YtknjopefbbldfaaDoorVfsX
import Derived.Test.YtknjopefbbldfaaDoorSame
import Derived.Test.YtknjopefbbldfaaDoorMem
import Derived.PinnedBridge
import Derived.Stop.LaidErr
namespace Go.Proofs.YtknjopefbbldfaaDoor
open Go.RowKit
attribute [local go_sem ↓] Go.wp_at_zero Go.wp_at_succ

theorem vfsReads_laid (W : World) (_ : laidMet Tryd.prog Rows.vfsReadsRow.laid W) : True := trivial
@[reducible] def xN : ByteArray := ⟨#[120]⟩
@[reducible] def yN : ByteArray := ⟨#[121]⟩
theorem x_right : rightP xN.data.toList = true := by decide
theorem y_ne : yN.data.toList ≠ xN.data.toList := by decide
/-- The store of this law. -/
theorem reads_store (l : List UInt8) (hl : l.length ≤ 1000) : ∃ S1 S2 y, createP (newP 100) xN.data.toList = (0, S1) ∧ S1.stamp ≤ 1 ∧ S1.down = false ∧ findP S1 xN.data.toList = some ⟨[], [], [], 1⟩ ∧ writeP S1 xN.data.toList ((0 : Nat) : Int) l = (0, S2) ∧ S2.down = false ∧ findP S2 xN.data.toList = some y ∧ y.B = l ∧ findP S2 yN.data.toList = none := by
  have hf0 : findP (newP 100) xN.data.toList = none := rfl
  obtain ⟨c1, c2, c3, c4, c5⟩ := create0 (up_new 100) x_right hf0
  have hf1 := find_made hf0
  have hw1 : (madeF (newP 100) xN.data.toList).WF := madeF_wf (newP_wf 100) hf0 (by decide)
  have hx1 : findP (madeF (newP 100) xN.data.toList) xN.data.toList = some ⟨[], [], [], 1⟩ := by rw [hf1, if_pos rfl]; rfl
  obtain ⟨S2, y, d1, d2, d3, d4, d5, d6, d7⟩ := write0 l c2 hw1 hx1 rfl (by
    rw [c3, c4]
    have e1 : useP (newP 100).fs = 0 := rfl
    have e2 : (newP 100).most = 100 := rfl
    rw [e1, e2]; unfold needN; omega)
  refine ⟨_, S2, y, c1, by rw [c5]; exact Nat.le_refl _, c2.d, hx1, d1, d2.d, by rw [d7, if_pos rfl], d6, ?_⟩
  rw [d7, if_neg y_ne, hf1, if_neg y_ne]; rfl
set_option maxHeartbeats 8000000 in
set_option maxRecDepth 100000 in
theorem vfsReads_walk (A : Option Addr) (n c : Nat) (l : List UInt8) (p k : Int) (w : World) (hr : Rd w w.heap.size 1 A n (bys l)) (hnc : n ≤ c) (hcm : c ≤ maxLen) (hp : -9223372036854775808 ≤ p ∧ p ≤ 9223372036854775807) (hk : -9223372036854775808 ≤ k ∧ k ≤ 9223372036854775807) (_ : True) :
    Calls Tryd.prog 3 #[.slice A n c, .int .i64 p, .int .i64 k] w fun e w' => e = .returned (.bool true) ∧ Below w.heap.size w w' := by
  rename_i hT
  clear hT
  have hlen := hr.blen
  have HWk := Lib.hid (wakes_any w)
  have HR := Lib.hid hr
  by_cases h1000 : 1000 < n
  · have hi : (1000 : Int) < (n : Int) := by omega
    clear h1000 hlen hp hk hr hnc hcm
    go_enter Tryd.func3, Tryd.ntmps3
    go_wp2_with fail
    with_reducible refine HWk.out.mono ?_
    rintro e w1 ⟨rfl, b1⟩
    have B1 := Lib.hid b1
    clear b1
    go_wp2_with fail
    go_ret
    exact ⟨rfl, B1.out⟩
  · obtain ⟨S1, S2, y, hS1, hS1s, hS1d, hS1f, hS2, hS2d, hS2f, hyB, hS2y⟩ := reads_store l (by omega)
    have hi : ¬ (1000 : Int) < (n : Int) := by omega
    have HN := Lib.hid (fun W => new_fs 100 W)
    have HC := Lib.hid (fun f O W hO h => by have := create_at f O (newP 100) W hO h xN (by decide) (by decide); rw [hS1] at this; exact this)
    have HW := Lib.hid (fun f O W hO (h : FsA W O f S1) b0 A' c' hnc' hc' (hrs : Rs W b0 A' l) hb0 hb1 => by
      have := write_at f O S1 W hO h xN 0 n c' b0 l A' _ (by decide) (by omega) hlen.symm (by omega) hnc' hc' hrs hb0 hb1 hS1d hS1f (Nat.zero_le _)
      rw [hS2] at this
      rw [show ((0 : Nat) : Int) = (0 : Int) from rfl] at this
      exact this)
    have HRd := Lib.hid (fun f O W (h : FsA W O f S2) => by have := read_at f O S2 W h xN p k (by decide) hp; rw [read_of p k hS2d hS2f, hyB, hlen] at this; exact this)
    have HRy := Lib.hid (fun f O W (h : FsA W O f S2) => by have := read_at f O S2 W h yN p k (by decide) hp; rw [read_no p k hS2d hS2y] at this; exact this)
    have HSm := Lib.hid (fun A1 A2 n1 m1 c1 d1 l1 l2 W h1 h2 a1 a2 => same_any A1 A2 n1 m1 c1 d1 l1 l2 W h1 h2 a1 a2)
    have HL := Lib.hid (And.intro hlen (And.intro hnc (And.intro hcm (And.intro hp hk))))
    have hn1 : n ≤ 1000 := by omega
    clear hr hnc hcm hlen hp hk hS1 hS1s hS1d hS1f hS2 hS2d hS2f hyB hS2y h1000
    by_cases hb1 : p < 0
    · simp only [if_pos (Or.inl hb1 : p < 0 ∨ k < 0)] at HRd
      go_enter Tryd.func3, Tryd.ntmps3
      go_wp2_with fail
      with_reducible refine HWk.out.mono ?_
      rintro e w1 ⟨rfl, b1⟩
      have B1 := Lib.hid b1
      clear b1
      go_wp2_with fail
      with_reducible refine (HN.out w1).mono ?_
      rintro e w2 ⟨f, rfl, h2, b2⟩
      have H2 := Lib.hid (And.intro h2 b2)
      have hs2 : w.heap.size ≤ w2.heap.size := Nat.le_trans B1.out.size b2.size
      have Hs2 := Lib.hid (And.intro B1.out.size hs2)
      have hrd2 : Rd w2 w.heap.size 1 A n (bys l) := (HR.out.below B1.out (Nat.le_refl _)).below b2 B1.out.size
      have hsz2 : w.heap.size ≤ w2.heap.size := hs2
      clear h2 b2
      go_wp2_with ((refine ap_bys (own_lit0 w2 _) (hrd2.alloc hsz2 _) ((Below.refl w2.heap.size w2).alloc (Nat.le_refl _) _) (by simp) (by omega) rfl rfl rfl ?_; intro v3 w3 o1 o2 o3 o4; replace o1 := Lib.hid o1; replace o2 := Lib.hid o2; clear o3 o4; try go_frame))
      have hown3 : w3.ownsRow w2.heap.size 5 1 v3 n (bys l) := by have := o1.out; simpa using this
      obtain ⟨A3, c3, rfl, hnc3, hcm3⟩ := own_form hown3
      obtain ⟨g0, hg0, hrs3⟩ := own_rs hown3
      obtain ⟨O, hOd⟩ : ∃ O : Nat → Prop, O = fun i => w.heap.size ≤ i ∧ ¬ (0 < n ∧ i = g0) := ⟨_, rfl⟩
      have hOi : ∀ i, O i ↔ w.heap.size ≤ i ∧ ¬ (0 < n ∧ i = g0) := fun i => by rw [hOd]
      have hgn : 0 < n → ¬ O g0 := fun h0 => by rw [hOi]; exact fun h => h.2 ⟨h0, rfl⟩
      have s23 := o2.out.size
      have h3 : FsA w3 O f (newP 100) := (FsA.below H2.out.1 o2.out).mono (fun i hi _ => (hOi i).2 ⟨Nat.le_trans B1.out.size hi.1, fun h => by have := (hg0 h.1).2.1; omega⟩)
      have hO3 : ∀ i, w3.heap.size ≤ i → O i := fun i hi => (hOi i).2 ⟨by omega, fun h => by have := (hg0 h.1).2.2; omega⟩
      have HX := Lib.hid (And.intro hown3 (And.intro hnc3 (And.intro hcm3 (And.intro hg0 (And.intro hrs3 (And.intro hOi (And.intro hgn (And.intro s23 (And.intro h3 (And.intro hO3 hn1))))))))))
      clear hown3 hnc3 hcm3 hg0 hrs3 hOi hgn s23 h3 hO3 hOd hrd2 hsz2 hs2 o1
      with_reducible refine (HC.out f O w3 HX.out.2.2.2.2.2.2.2.2.2.1 HX.out.2.2.2.2.2.2.2.2.1).mono ?_
      rintro e w4 ⟨rfl, h4, k4⟩
      have H4 := Lib.hid (And.intro h4 k4)
      clear h4 k4
      have HW4 := Lib.hid (show Calls Tryd.prog 11 #[.pointer (some ⟨f, 0, none⟩), .string ⟨#[120]⟩, .int .i64 0, .slice A3 n c3] w4 fun e w' => e = .returned (.int .i64 0) ∧ FsA w' O f S2 ∧ Ch O w4 w' from by
        obtain ⟨hown3, hnc3, hcm3, hg0, hrs3, hOi, hgn, s23, h3, hO3, hn1⟩ := HX.out
        have s4 := H4.out.2.size
        exact HW.out f O w4 (fun i hi => hO3 i (by omega)) H4.out.1 g0 A3 c3 hnc3 hcm3 (fun h0 => (hrs3.heap (H4.out.2.block g0 (hg0 (by have := HL.out.1; omega)).2.2 (hgn (by have := HL.out.1; omega)))) h0) hgn (fun h0 => by have := (hg0 h0).2.2; omega))
      go_wp2_with fail
      with_reducible refine HW4.out.mono ?_
      rintro e w5 ⟨rfl, h5, k5⟩
      have H5 := Lib.hid (show FsA w5 O f S2 ∧ Below w.heap.size w w5 ∧ (0 < n → ∃ l', w5.ownsRow w2.heap.size 5 1 (.slice A3 n c3) n (bys l')) from by
        obtain ⟨hown3, hnc3, hcm3, hg0, hrs3, hOi, hgn, s23, h3, hO3, hn1⟩ := HX.out
        have s1 := B1.out.size
        have s2 := H2.out.2.size
        have s4 := H4.out.2.size
        have hOb : ∀ i, O i → w.heap.size ≤ i := fun i hi => ((hOi i).1 hi).1
        refine ⟨h5, (((B1.out.trans (H2.out.2.mono s1)).trans (o2.out.mono (by omega))).trans (H4.out.2.below (by omega) hOb)).trans (k5.below (by omega) hOb), fun h0 => ⟨l, ?_⟩⟩
        have hv : ∀ i, (Value.slice A3 n c3).ownBlock = some i → ¬ O i := fun i hi => by
          have hA := (hg0 h0).1
          subst hA
          injection hi with hi
          rw [← hi]; exact hgn h0
        exact own_ch (own_ch hown3 H4.out.2 hv) k5 hv)
      clear h5 k5
      go_wp2_with fail
      go_loopw [35] (fun s35 wr => ∃ i : Nat, s35 = .int .i64 (i : Int) ∧ i ≤ n ∧ Hid (FsA wr O f S2 ∧ Below w.heap.size w wr ∧ (0 < n → ∃ l', wr.ownsRow w2.heap.size 5 1 (.slice A3 n c3) n (bys l')))) (fun s35 _ => n - (intOf s35).toNat)
      case atStart => exact ⟨0, rfl, Nat.zero_le _, H5⟩
      case round =>
        obtain ⟨i, rfl, hin, HI⟩ := hrel
        by_cases hlt : i < n
        · obtain ⟨l', hown⟩ := HI.out.2.2 (by omega)
          have hA := (HX.out.2.2.2.1 (by omega)).1
          have hgg := HX.out.2.2.2.1 (by omega)
          have hgn := HX.out.2.2.2.2.2.2.1 (by omega)
          subst hA
          have d0 := own_byte hown hlt
          have f0 := hown.frozenAt i
          generalize l'[i]?.getD 0 = u at *
          have e8 := u8_next u
          have hu : u.toNat < 256 := UInt8.toNat_lt u
          obtain ⟨o8, g8⟩ := own_set hown i (u + 1)
          have H8 := Lib.hid (show FsA (wr.setCell ⟨g0, i, none⟩ (.int .u8 ((u + 1).toNat : Int))) O f S2 ∧ Below w.heap.size w (wr.setCell ⟨g0, i, none⟩ (.int .u8 ((u + 1).toNat : Int))) ∧ (0 < n → ∃ l', (wr.setCell ⟨g0, i, none⟩ (.int .u8 ((u + 1).toNat : Int))).ownsRow w2.heap.size 5 1 (.slice (some ⟨g0, 0, none⟩) n c3) n (bys l')) from
            ⟨FsA.heap HI.out.1 (fun j hj _ => Below.heap_setCell _ _ _ j (by rintro rfl; exact hgn hj)), HI.out.2.1.setCell (p := ⟨g0, i, none⟩) (by have := Hs2.out.2; have := hgg.2.1; show w.heap.size ≤ g0; omega) _, fun _ => ⟨_, o8⟩⟩)
          clear hown hgg hgn o8 g8 HI
          generalize ((u + 1).toNat : Int) = u2 at *
          go_wp2_with fail
          go_roundw
          case rel => exact ⟨i + 1, by rfl, by omega, H8⟩
          case measure => simp [intOf]; omega
        · have hin2 : n = i := by omega
          subst hin2
          have H6 := Lib.hid (And.intro HI.out.1 HI.out.2.1)
          obtain ⟨wo, hwo⟩ : ∃ wo : World, wo = wr := ⟨_, rfl⟩
          subst hwo
          clear HI
          go_wp2_with fail
          go_loopw [45] (fun s45 wr => ∃ j : Nat, s45 = .int .i64 (j : Int) ∧ j ≤ 2 ∧ Hid (FsA wr O f S2 ∧ Below w.heap.size w wr)) (fun s45 _ => 2 - (intOf s45).toNat)
          case atStart => exact ⟨0, rfl, by omega, H6⟩
          case round =>
            obtain ⟨j, rfl, hj, HJ⟩ := hrel
            by_cases hjt : j < 2
            · go_wp2_with fail
              with_reducible refine (HRd.out f O wr HJ.out.1).mono ?_
              rintro e w9 ⟨A9, n9, c9, rfl, hn9, hnc9, hc9, hown, b9⟩
              obtain rfl : n9 = 0 := hn9
              have B9 := Lib.hid b9
              clear hnc9 hc9 hown b9
              go_wp2_with fail
              go_ret
              exact ⟨rfl, HJ.out.2.trans (B9.out.mono HJ.out.2.size)⟩
            · have hj2 : j = 2 := by omega
              subst hj2
              go_wp2_with fail
              with_reducible refine (HRy.out f O wr HJ.out.1).mono ?_
              rintro e w9 ⟨A9, n9, c9, rfl, hn9, hnc9, hc9, hown, b9⟩
              have B9 := Lib.hid b9
              clear hn9 hnc9 hc9 hown b9
              go_wp2_with fail
              go_ret
              exact ⟨rfl, HJ.out.2.trans (B9.out.mono HJ.out.2.size)⟩
    · by_cases hb2 : k < 0
      · simp only [if_pos (Or.inr hb2 : p < 0 ∨ k < 0)] at HRd
        go_enter Tryd.func3, Tryd.ntmps3
        go_wp2_with fail
        with_reducible refine HWk.out.mono ?_
        rintro e w1 ⟨rfl, b1⟩
        have B1 := Lib.hid b1
        clear b1
        go_wp2_with fail
        with_reducible refine (HN.out w1).mono ?_
        rintro e w2 ⟨f, rfl, h2, b2⟩
        have H2 := Lib.hid (And.intro h2 b2)
        have hs2 : w.heap.size ≤ w2.heap.size := Nat.le_trans B1.out.size b2.size
        have Hs2 := Lib.hid (And.intro B1.out.size hs2)
        have hrd2 : Rd w2 w.heap.size 1 A n (bys l) := (HR.out.below B1.out (Nat.le_refl _)).below b2 B1.out.size
        have hsz2 : w.heap.size ≤ w2.heap.size := hs2
        clear h2 b2
        go_wp2_with ((refine ap_bys (own_lit0 w2 _) (hrd2.alloc hsz2 _) ((Below.refl w2.heap.size w2).alloc (Nat.le_refl _) _) (by simp) (by omega) rfl rfl rfl ?_; intro v3 w3 o1 o2 o3 o4; replace o1 := Lib.hid o1; replace o2 := Lib.hid o2; clear o3 o4; try go_frame))
        have hown3 : w3.ownsRow w2.heap.size 5 1 v3 n (bys l) := by have := o1.out; simpa using this
        obtain ⟨A3, c3, rfl, hnc3, hcm3⟩ := own_form hown3
        obtain ⟨g0, hg0, hrs3⟩ := own_rs hown3
        obtain ⟨O, hOd⟩ : ∃ O : Nat → Prop, O = fun i => w.heap.size ≤ i ∧ ¬ (0 < n ∧ i = g0) := ⟨_, rfl⟩
        have hOi : ∀ i, O i ↔ w.heap.size ≤ i ∧ ¬ (0 < n ∧ i = g0) := fun i => by rw [hOd]
        have hgn : 0 < n → ¬ O g0 := fun h0 => by rw [hOi]; exact fun h => h.2 ⟨h0, rfl⟩
        have s23 := o2.out.size
        have h3 : FsA w3 O f (newP 100) := (FsA.below H2.out.1 o2.out).mono (fun i hi _ => (hOi i).2 ⟨Nat.le_trans B1.out.size hi.1, fun h => by have := (hg0 h.1).2.1; omega⟩)
        have hO3 : ∀ i, w3.heap.size ≤ i → O i := fun i hi => (hOi i).2 ⟨by omega, fun h => by have := (hg0 h.1).2.2; omega⟩
        have HX := Lib.hid (And.intro hown3 (And.intro hnc3 (And.intro hcm3 (And.intro hg0 (And.intro hrs3 (And.intro hOi (And.intro hgn (And.intro s23 (And.intro h3 (And.intro hO3 hn1))))))))))
        clear hown3 hnc3 hcm3 hg0 hrs3 hOi hgn s23 h3 hO3 hOd hrd2 hsz2 hs2 o1
        with_reducible refine (HC.out f O w3 HX.out.2.2.2.2.2.2.2.2.2.1 HX.out.2.2.2.2.2.2.2.2.1).mono ?_
        rintro e w4 ⟨rfl, h4, k4⟩
        have H4 := Lib.hid (And.intro h4 k4)
        clear h4 k4
        have HW4 := Lib.hid (show Calls Tryd.prog 11 #[.pointer (some ⟨f, 0, none⟩), .string ⟨#[120]⟩, .int .i64 0, .slice A3 n c3] w4 fun e w' => e = .returned (.int .i64 0) ∧ FsA w' O f S2 ∧ Ch O w4 w' from by
          obtain ⟨hown3, hnc3, hcm3, hg0, hrs3, hOi, hgn, s23, h3, hO3, hn1⟩ := HX.out
          have s4 := H4.out.2.size
          exact HW.out f O w4 (fun i hi => hO3 i (by omega)) H4.out.1 g0 A3 c3 hnc3 hcm3 (fun h0 => (hrs3.heap (H4.out.2.block g0 (hg0 (by have := HL.out.1; omega)).2.2 (hgn (by have := HL.out.1; omega)))) h0) hgn (fun h0 => by have := (hg0 h0).2.2; omega))
        go_wp2_with fail
        with_reducible refine HW4.out.mono ?_
        rintro e w5 ⟨rfl, h5, k5⟩
        have H5 := Lib.hid (show FsA w5 O f S2 ∧ Below w.heap.size w w5 ∧ (0 < n → ∃ l', w5.ownsRow w2.heap.size 5 1 (.slice A3 n c3) n (bys l')) from by
          obtain ⟨hown3, hnc3, hcm3, hg0, hrs3, hOi, hgn, s23, h3, hO3, hn1⟩ := HX.out
          have s1 := B1.out.size
          have s2 := H2.out.2.size
          have s4 := H4.out.2.size
          have hOb : ∀ i, O i → w.heap.size ≤ i := fun i hi => ((hOi i).1 hi).1
          refine ⟨h5, (((B1.out.trans (H2.out.2.mono s1)).trans (o2.out.mono (by omega))).trans (H4.out.2.below (by omega) hOb)).trans (k5.below (by omega) hOb), fun h0 => ⟨l, ?_⟩⟩
          have hv : ∀ i, (Value.slice A3 n c3).ownBlock = some i → ¬ O i := fun i hi => by
            have hA := (hg0 h0).1
            subst hA
            injection hi with hi
            rw [← hi]; exact hgn h0
          exact own_ch (own_ch hown3 H4.out.2 hv) k5 hv)
        clear h5 k5
        go_wp2_with fail
        go_loopw [35] (fun s35 wr => ∃ i : Nat, s35 = .int .i64 (i : Int) ∧ i ≤ n ∧ Hid (FsA wr O f S2 ∧ Below w.heap.size w wr ∧ (0 < n → ∃ l', wr.ownsRow w2.heap.size 5 1 (.slice A3 n c3) n (bys l')))) (fun s35 _ => n - (intOf s35).toNat)
        case atStart => exact ⟨0, rfl, Nat.zero_le _, H5⟩
        case round =>
          obtain ⟨i, rfl, hin, HI⟩ := hrel
          by_cases hlt : i < n
          · obtain ⟨l', hown⟩ := HI.out.2.2 (by omega)
            have hA := (HX.out.2.2.2.1 (by omega)).1
            have hgg := HX.out.2.2.2.1 (by omega)
            have hgn := HX.out.2.2.2.2.2.2.1 (by omega)
            subst hA
            have d0 := own_byte hown hlt
            have f0 := hown.frozenAt i
            generalize l'[i]?.getD 0 = u at *
            have e8 := u8_next u
            have hu : u.toNat < 256 := UInt8.toNat_lt u
            obtain ⟨o8, g8⟩ := own_set hown i (u + 1)
            have H8 := Lib.hid (show FsA (wr.setCell ⟨g0, i, none⟩ (.int .u8 ((u + 1).toNat : Int))) O f S2 ∧ Below w.heap.size w (wr.setCell ⟨g0, i, none⟩ (.int .u8 ((u + 1).toNat : Int))) ∧ (0 < n → ∃ l', (wr.setCell ⟨g0, i, none⟩ (.int .u8 ((u + 1).toNat : Int))).ownsRow w2.heap.size 5 1 (.slice (some ⟨g0, 0, none⟩) n c3) n (bys l')) from
              ⟨FsA.heap HI.out.1 (fun j hj _ => Below.heap_setCell _ _ _ j (by rintro rfl; exact hgn hj)), HI.out.2.1.setCell (p := ⟨g0, i, none⟩) (by have := Hs2.out.2; have := hgg.2.1; show w.heap.size ≤ g0; omega) _, fun _ => ⟨_, o8⟩⟩)
            clear hown hgg hgn o8 g8 HI
            generalize ((u + 1).toNat : Int) = u2 at *
            go_wp2_with fail
            go_roundw
            case rel => exact ⟨i + 1, by rfl, by omega, H8⟩
            case measure => simp [intOf]; omega
          · have hin2 : n = i := by omega
            subst hin2
            have H6 := Lib.hid (And.intro HI.out.1 HI.out.2.1)
            obtain ⟨wo, hwo⟩ : ∃ wo : World, wo = wr := ⟨_, rfl⟩
            subst hwo
            clear HI
            go_wp2_with fail
            go_loopw [45] (fun s45 wr => ∃ j : Nat, s45 = .int .i64 (j : Int) ∧ j ≤ 2 ∧ Hid (FsA wr O f S2 ∧ Below w.heap.size w wr)) (fun s45 _ => 2 - (intOf s45).toNat)
            case atStart => exact ⟨0, rfl, by omega, H6⟩
            case round =>
              obtain ⟨j, rfl, hj, HJ⟩ := hrel
              by_cases hjt : j < 2
              · go_wp2_with fail
                with_reducible refine (HRd.out f O wr HJ.out.1).mono ?_
                rintro e w9 ⟨A9, n9, c9, rfl, hn9, hnc9, hc9, hown, b9⟩
                obtain rfl : n9 = 0 := hn9
                have B9 := Lib.hid b9
                clear hnc9 hc9 hown b9
                go_wp2_with fail
                go_ret
                exact ⟨rfl, HJ.out.2.trans (B9.out.mono HJ.out.2.size)⟩
              · have hj2 : j = 2 := by omega
                subst hj2
                go_wp2_with fail
                with_reducible refine (HRy.out f O wr HJ.out.1).mono ?_
                rintro e w9 ⟨A9, n9, c9, rfl, hn9, hnc9, hc9, hown, b9⟩
                have B9 := Lib.hid b9
                clear hn9 hnc9 hc9 hown b9
                go_wp2_with fail
                go_ret
                exact ⟨rfl, HJ.out.2.trans (B9.out.mono HJ.out.2.size)⟩
      · simp only [if_neg (by omega : ¬ (p < 0 ∨ k < 0))] at HRd
        obtain ⟨P, rfl⟩ : ∃ P : Nat, p = (P : Int) := ⟨p.toNat, by omega⟩
        obtain ⟨K, rfl⟩ : ∃ K : Nat, k = (K : Int) := ⟨k.toNat, by omega⟩
        by_cases hb3 : n < P
        · simp only [if_pos (Or.inl (by omega) : (n : Int) < (P : Int) ∨ (n : Int) - (P : Int) < (K : Int))] at HRd
          go_enter Tryd.func3, Tryd.ntmps3
          go_wp2_with fail
          with_reducible refine HWk.out.mono ?_
          rintro e w1 ⟨rfl, b1⟩
          have B1 := Lib.hid b1
          clear b1
          go_wp2_with fail
          with_reducible refine (HN.out w1).mono ?_
          rintro e w2 ⟨f, rfl, h2, b2⟩
          have H2 := Lib.hid (And.intro h2 b2)
          have hs2 : w.heap.size ≤ w2.heap.size := Nat.le_trans B1.out.size b2.size
          have Hs2 := Lib.hid (And.intro B1.out.size hs2)
          have hrd2 : Rd w2 w.heap.size 1 A n (bys l) := (HR.out.below B1.out (Nat.le_refl _)).below b2 B1.out.size
          have hsz2 : w.heap.size ≤ w2.heap.size := hs2
          clear h2 b2
          go_wp2_with ((refine ap_bys (own_lit0 w2 _) (hrd2.alloc hsz2 _) ((Below.refl w2.heap.size w2).alloc (Nat.le_refl _) _) (by simp) (by omega) rfl rfl rfl ?_; intro v3 w3 o1 o2 o3 o4; replace o1 := Lib.hid o1; replace o2 := Lib.hid o2; clear o3 o4; try go_frame))
          have hown3 : w3.ownsRow w2.heap.size 5 1 v3 n (bys l) := by have := o1.out; simpa using this
          obtain ⟨A3, c3, rfl, hnc3, hcm3⟩ := own_form hown3
          obtain ⟨g0, hg0, hrs3⟩ := own_rs hown3
          obtain ⟨O, hOd⟩ : ∃ O : Nat → Prop, O = fun i => w.heap.size ≤ i ∧ ¬ (0 < n ∧ i = g0) := ⟨_, rfl⟩
          have hOi : ∀ i, O i ↔ w.heap.size ≤ i ∧ ¬ (0 < n ∧ i = g0) := fun i => by rw [hOd]
          have hgn : 0 < n → ¬ O g0 := fun h0 => by rw [hOi]; exact fun h => h.2 ⟨h0, rfl⟩
          have s23 := o2.out.size
          have h3 : FsA w3 O f (newP 100) := (FsA.below H2.out.1 o2.out).mono (fun i hi _ => (hOi i).2 ⟨Nat.le_trans B1.out.size hi.1, fun h => by have := (hg0 h.1).2.1; omega⟩)
          have hO3 : ∀ i, w3.heap.size ≤ i → O i := fun i hi => (hOi i).2 ⟨by omega, fun h => by have := (hg0 h.1).2.2; omega⟩
          have HX := Lib.hid (And.intro hown3 (And.intro hnc3 (And.intro hcm3 (And.intro hg0 (And.intro hrs3 (And.intro hOi (And.intro hgn (And.intro s23 (And.intro h3 (And.intro hO3 hn1))))))))))
          clear hown3 hnc3 hcm3 hg0 hrs3 hOi hgn s23 h3 hO3 hOd hrd2 hsz2 hs2 o1
          with_reducible refine (HC.out f O w3 HX.out.2.2.2.2.2.2.2.2.2.1 HX.out.2.2.2.2.2.2.2.2.1).mono ?_
          rintro e w4 ⟨rfl, h4, k4⟩
          have H4 := Lib.hid (And.intro h4 k4)
          clear h4 k4
          have HW4 := Lib.hid (show Calls Tryd.prog 11 #[.pointer (some ⟨f, 0, none⟩), .string ⟨#[120]⟩, .int .i64 0, .slice A3 n c3] w4 fun e w' => e = .returned (.int .i64 0) ∧ FsA w' O f S2 ∧ Ch O w4 w' from by
            obtain ⟨hown3, hnc3, hcm3, hg0, hrs3, hOi, hgn, s23, h3, hO3, hn1⟩ := HX.out
            have s4 := H4.out.2.size
            exact HW.out f O w4 (fun i hi => hO3 i (by omega)) H4.out.1 g0 A3 c3 hnc3 hcm3 (fun h0 => (hrs3.heap (H4.out.2.block g0 (hg0 (by have := HL.out.1; omega)).2.2 (hgn (by have := HL.out.1; omega)))) h0) hgn (fun h0 => by have := (hg0 h0).2.2; omega))
          go_wp2_with fail
          with_reducible refine HW4.out.mono ?_
          rintro e w5 ⟨rfl, h5, k5⟩
          have H5 := Lib.hid (show FsA w5 O f S2 ∧ Below w.heap.size w w5 ∧ (0 < n → ∃ l', w5.ownsRow w2.heap.size 5 1 (.slice A3 n c3) n (bys l')) from by
            obtain ⟨hown3, hnc3, hcm3, hg0, hrs3, hOi, hgn, s23, h3, hO3, hn1⟩ := HX.out
            have s1 := B1.out.size
            have s2 := H2.out.2.size
            have s4 := H4.out.2.size
            have hOb : ∀ i, O i → w.heap.size ≤ i := fun i hi => ((hOi i).1 hi).1
            refine ⟨h5, (((B1.out.trans (H2.out.2.mono s1)).trans (o2.out.mono (by omega))).trans (H4.out.2.below (by omega) hOb)).trans (k5.below (by omega) hOb), fun h0 => ⟨l, ?_⟩⟩
            have hv : ∀ i, (Value.slice A3 n c3).ownBlock = some i → ¬ O i := fun i hi => by
              have hA := (hg0 h0).1
              subst hA
              injection hi with hi
              rw [← hi]; exact hgn h0
            exact own_ch (own_ch hown3 H4.out.2 hv) k5 hv)
          clear h5 k5
          go_wp2_with fail
          go_loopw [35] (fun s35 wr => ∃ i : Nat, s35 = .int .i64 (i : Int) ∧ i ≤ n ∧ Hid (FsA wr O f S2 ∧ Below w.heap.size w wr ∧ (0 < n → ∃ l', wr.ownsRow w2.heap.size 5 1 (.slice A3 n c3) n (bys l')))) (fun s35 _ => n - (intOf s35).toNat)
          case atStart => exact ⟨0, rfl, Nat.zero_le _, H5⟩
          case round =>
            obtain ⟨i, rfl, hin, HI⟩ := hrel
            by_cases hlt : i < n
            · obtain ⟨l', hown⟩ := HI.out.2.2 (by omega)
              have hA := (HX.out.2.2.2.1 (by omega)).1
              have hgg := HX.out.2.2.2.1 (by omega)
              have hgn := HX.out.2.2.2.2.2.2.1 (by omega)
              subst hA
              have d0 := own_byte hown hlt
              have f0 := hown.frozenAt i
              generalize l'[i]?.getD 0 = u at *
              have e8 := u8_next u
              have hu : u.toNat < 256 := UInt8.toNat_lt u
              obtain ⟨o8, g8⟩ := own_set hown i (u + 1)
              have H8 := Lib.hid (show FsA (wr.setCell ⟨g0, i, none⟩ (.int .u8 ((u + 1).toNat : Int))) O f S2 ∧ Below w.heap.size w (wr.setCell ⟨g0, i, none⟩ (.int .u8 ((u + 1).toNat : Int))) ∧ (0 < n → ∃ l', (wr.setCell ⟨g0, i, none⟩ (.int .u8 ((u + 1).toNat : Int))).ownsRow w2.heap.size 5 1 (.slice (some ⟨g0, 0, none⟩) n c3) n (bys l')) from
                ⟨FsA.heap HI.out.1 (fun j hj _ => Below.heap_setCell _ _ _ j (by rintro rfl; exact hgn hj)), HI.out.2.1.setCell (p := ⟨g0, i, none⟩) (by have := Hs2.out.2; have := hgg.2.1; show w.heap.size ≤ g0; omega) _, fun _ => ⟨_, o8⟩⟩)
              clear hown hgg hgn o8 g8 HI
              generalize ((u + 1).toNat : Int) = u2 at *
              go_wp2_with fail
              go_roundw
              case rel => exact ⟨i + 1, by rfl, by omega, H8⟩
              case measure => simp [intOf]; omega
            · have hin2 : n = i := by omega
              subst hin2
              have H6 := Lib.hid (And.intro HI.out.1 HI.out.2.1)
              obtain ⟨wo, hwo⟩ : ∃ wo : World, wo = wr := ⟨_, rfl⟩
              subst hwo
              clear HI
              go_wp2_with fail
              go_loopw [45] (fun s45 wr => ∃ j : Nat, s45 = .int .i64 (j : Int) ∧ j ≤ 2 ∧ Hid (FsA wr O f S2 ∧ Below w.heap.size w wr)) (fun s45 _ => 2 - (intOf s45).toNat)
              case atStart => exact ⟨0, rfl, by omega, H6⟩
              case round =>
                obtain ⟨j, rfl, hj, HJ⟩ := hrel
                by_cases hjt : j < 2
                · go_wp2_with fail
                  with_reducible refine (HRd.out f O wr HJ.out.1).mono ?_
                  rintro e w9 ⟨A9, n9, c9, rfl, hn9, hnc9, hc9, hown, b9⟩
                  obtain rfl : n9 = 0 := hn9
                  have B9 := Lib.hid b9
                  clear hnc9 hc9 hown b9
                  go_wp2_with fail
                  go_ret
                  exact ⟨rfl, HJ.out.2.trans (B9.out.mono HJ.out.2.size)⟩
                · have hj2 : j = 2 := by omega
                  subst hj2
                  go_wp2_with fail
                  with_reducible refine (HRy.out f O wr HJ.out.1).mono ?_
                  rintro e w9 ⟨A9, n9, c9, rfl, hn9, hnc9, hc9, hown, b9⟩
                  have B9 := Lib.hid b9
                  clear hn9 hnc9 hc9 hown b9
                  go_wp2_with fail
                  go_ret
                  exact ⟨rfl, HJ.out.2.trans (B9.out.mono HJ.out.2.size)⟩
        · have hq1 : IntKind.i64.wrap ((n : Int) - (P : Int)) = (n : Int) - (P : Int) := IntWalk.i64_in _ (by omega)
          by_cases hb4 : (n : Int) - (P : Int) < (K : Int)
          · simp only [if_pos (Or.inr hb4 : (n : Int) < (P : Int) ∨ (n : Int) - (P : Int) < (K : Int))] at HRd
            go_enter Tryd.func3, Tryd.ntmps3
            go_wp2_with fail
            with_reducible refine HWk.out.mono ?_
            rintro e w1 ⟨rfl, b1⟩
            have B1 := Lib.hid b1
            clear b1
            go_wp2_with fail
            with_reducible refine (HN.out w1).mono ?_
            rintro e w2 ⟨f, rfl, h2, b2⟩
            have H2 := Lib.hid (And.intro h2 b2)
            have hs2 : w.heap.size ≤ w2.heap.size := Nat.le_trans B1.out.size b2.size
            have Hs2 := Lib.hid (And.intro B1.out.size hs2)
            have hrd2 : Rd w2 w.heap.size 1 A n (bys l) := (HR.out.below B1.out (Nat.le_refl _)).below b2 B1.out.size
            have hsz2 : w.heap.size ≤ w2.heap.size := hs2
            clear h2 b2
            go_wp2_with ((refine ap_bys (own_lit0 w2 _) (hrd2.alloc hsz2 _) ((Below.refl w2.heap.size w2).alloc (Nat.le_refl _) _) (by simp) (by omega) rfl rfl rfl ?_; intro v3 w3 o1 o2 o3 o4; replace o1 := Lib.hid o1; replace o2 := Lib.hid o2; clear o3 o4; try go_frame))
            have hown3 : w3.ownsRow w2.heap.size 5 1 v3 n (bys l) := by have := o1.out; simpa using this
            obtain ⟨A3, c3, rfl, hnc3, hcm3⟩ := own_form hown3
            obtain ⟨g0, hg0, hrs3⟩ := own_rs hown3
            obtain ⟨O, hOd⟩ : ∃ O : Nat → Prop, O = fun i => w.heap.size ≤ i ∧ ¬ (0 < n ∧ i = g0) := ⟨_, rfl⟩
            have hOi : ∀ i, O i ↔ w.heap.size ≤ i ∧ ¬ (0 < n ∧ i = g0) := fun i => by rw [hOd]
            have hgn : 0 < n → ¬ O g0 := fun h0 => by rw [hOi]; exact fun h => h.2 ⟨h0, rfl⟩
            have s23 := o2.out.size
            have h3 : FsA w3 O f (newP 100) := (FsA.below H2.out.1 o2.out).mono (fun i hi _ => (hOi i).2 ⟨Nat.le_trans B1.out.size hi.1, fun h => by have := (hg0 h.1).2.1; omega⟩)
            have hO3 : ∀ i, w3.heap.size ≤ i → O i := fun i hi => (hOi i).2 ⟨by omega, fun h => by have := (hg0 h.1).2.2; omega⟩
            have HX := Lib.hid (And.intro hown3 (And.intro hnc3 (And.intro hcm3 (And.intro hg0 (And.intro hrs3 (And.intro hOi (And.intro hgn (And.intro s23 (And.intro h3 (And.intro hO3 hn1))))))))))
            clear hown3 hnc3 hcm3 hg0 hrs3 hOi hgn s23 h3 hO3 hOd hrd2 hsz2 hs2 o1
            with_reducible refine (HC.out f O w3 HX.out.2.2.2.2.2.2.2.2.2.1 HX.out.2.2.2.2.2.2.2.2.1).mono ?_
            rintro e w4 ⟨rfl, h4, k4⟩
            have H4 := Lib.hid (And.intro h4 k4)
            clear h4 k4
            have HW4 := Lib.hid (show Calls Tryd.prog 11 #[.pointer (some ⟨f, 0, none⟩), .string ⟨#[120]⟩, .int .i64 0, .slice A3 n c3] w4 fun e w' => e = .returned (.int .i64 0) ∧ FsA w' O f S2 ∧ Ch O w4 w' from by
              obtain ⟨hown3, hnc3, hcm3, hg0, hrs3, hOi, hgn, s23, h3, hO3, hn1⟩ := HX.out
              have s4 := H4.out.2.size
              exact HW.out f O w4 (fun i hi => hO3 i (by omega)) H4.out.1 g0 A3 c3 hnc3 hcm3 (fun h0 => (hrs3.heap (H4.out.2.block g0 (hg0 (by have := HL.out.1; omega)).2.2 (hgn (by have := HL.out.1; omega)))) h0) hgn (fun h0 => by have := (hg0 h0).2.2; omega))
            go_wp2_with fail
            with_reducible refine HW4.out.mono ?_
            rintro e w5 ⟨rfl, h5, k5⟩
            have H5 := Lib.hid (show FsA w5 O f S2 ∧ Below w.heap.size w w5 ∧ (0 < n → ∃ l', w5.ownsRow w2.heap.size 5 1 (.slice A3 n c3) n (bys l')) from by
              obtain ⟨hown3, hnc3, hcm3, hg0, hrs3, hOi, hgn, s23, h3, hO3, hn1⟩ := HX.out
              have s1 := B1.out.size
              have s2 := H2.out.2.size
              have s4 := H4.out.2.size
              have hOb : ∀ i, O i → w.heap.size ≤ i := fun i hi => ((hOi i).1 hi).1
              refine ⟨h5, (((B1.out.trans (H2.out.2.mono s1)).trans (o2.out.mono (by omega))).trans (H4.out.2.below (by omega) hOb)).trans (k5.below (by omega) hOb), fun h0 => ⟨l, ?_⟩⟩
              have hv : ∀ i, (Value.slice A3 n c3).ownBlock = some i → ¬ O i := fun i hi => by
                have hA := (hg0 h0).1
                subst hA
                injection hi with hi
                rw [← hi]; exact hgn h0
              exact own_ch (own_ch hown3 H4.out.2 hv) k5 hv)
            clear h5 k5
            go_wp2_with fail
            go_loopw [35] (fun s35 wr => ∃ i : Nat, s35 = .int .i64 (i : Int) ∧ i ≤ n ∧ Hid (FsA wr O f S2 ∧ Below w.heap.size w wr ∧ (0 < n → ∃ l', wr.ownsRow w2.heap.size 5 1 (.slice A3 n c3) n (bys l')))) (fun s35 _ => n - (intOf s35).toNat)
            case atStart => exact ⟨0, rfl, Nat.zero_le _, H5⟩
            case round =>
              obtain ⟨i, rfl, hin, HI⟩ := hrel
              by_cases hlt : i < n
              · obtain ⟨l', hown⟩ := HI.out.2.2 (by omega)
                have hA := (HX.out.2.2.2.1 (by omega)).1
                have hgg := HX.out.2.2.2.1 (by omega)
                have hgn := HX.out.2.2.2.2.2.2.1 (by omega)
                subst hA
                have d0 := own_byte hown hlt
                have f0 := hown.frozenAt i
                generalize l'[i]?.getD 0 = u at *
                have e8 := u8_next u
                have hu : u.toNat < 256 := UInt8.toNat_lt u
                obtain ⟨o8, g8⟩ := own_set hown i (u + 1)
                have H8 := Lib.hid (show FsA (wr.setCell ⟨g0, i, none⟩ (.int .u8 ((u + 1).toNat : Int))) O f S2 ∧ Below w.heap.size w (wr.setCell ⟨g0, i, none⟩ (.int .u8 ((u + 1).toNat : Int))) ∧ (0 < n → ∃ l', (wr.setCell ⟨g0, i, none⟩ (.int .u8 ((u + 1).toNat : Int))).ownsRow w2.heap.size 5 1 (.slice (some ⟨g0, 0, none⟩) n c3) n (bys l')) from
                  ⟨FsA.heap HI.out.1 (fun j hj _ => Below.heap_setCell _ _ _ j (by rintro rfl; exact hgn hj)), HI.out.2.1.setCell (p := ⟨g0, i, none⟩) (by have := Hs2.out.2; have := hgg.2.1; show w.heap.size ≤ g0; omega) _, fun _ => ⟨_, o8⟩⟩)
                clear hown hgg hgn o8 g8 HI
                generalize ((u + 1).toNat : Int) = u2 at *
                go_wp2_with fail
                go_roundw
                case rel => exact ⟨i + 1, by rfl, by omega, H8⟩
                case measure => simp [intOf]; omega
              · have hin2 : n = i := by omega
                subst hin2
                have H6 := Lib.hid (And.intro HI.out.1 HI.out.2.1)
                obtain ⟨wo, hwo⟩ : ∃ wo : World, wo = wr := ⟨_, rfl⟩
                subst hwo
                clear HI
                go_wp2_with fail
                go_loopw [45] (fun s45 wr => ∃ j : Nat, s45 = .int .i64 (j : Int) ∧ j ≤ 2 ∧ Hid (FsA wr O f S2 ∧ Below w.heap.size w wr)) (fun s45 _ => 2 - (intOf s45).toNat)
                case atStart => exact ⟨0, rfl, by omega, H6⟩
                case round =>
                  obtain ⟨j, rfl, hj, HJ⟩ := hrel
                  by_cases hjt : j < 2
                  · go_wp2_with fail
                    with_reducible refine (HRd.out f O wr HJ.out.1).mono ?_
                    rintro e w9 ⟨A9, n9, c9, rfl, hn9, hnc9, hc9, hown, b9⟩
                    obtain rfl : n9 = 0 := hn9
                    have B9 := Lib.hid b9
                    clear hnc9 hc9 hown b9
                    go_wp2_with fail
                    go_ret
                    exact ⟨rfl, HJ.out.2.trans (B9.out.mono HJ.out.2.size)⟩
                  · have hj2 : j = 2 := by omega
                    subst hj2
                    go_wp2_with fail
                    with_reducible refine (HRy.out f O wr HJ.out.1).mono ?_
                    rintro e w9 ⟨A9, n9, c9, rfl, hn9, hnc9, hc9, hown, b9⟩
                    have B9 := Lib.hid b9
                    clear hn9 hnc9 hc9 hown b9
                    go_wp2_with fail
                    go_ret
                    exact ⟨rfl, HJ.out.2.trans (B9.out.mono HJ.out.2.size)⟩
          · simp only [if_neg (by omega : ¬ ((n : Int) < (P : Int) ∨ (n : Int) - (P : Int) < (K : Int)))] at HRd
            have hPK : P + K ≤ n := by omega
            have hwr : IntKind.i64.wrap ((P : Int) + (K : Int)) = (P : Int) + (K : Int) := IntWalk.i64_in _ (by omega)
            go_enter Tryd.func3, Tryd.ntmps3
            go_wp2_with fail
            with_reducible refine HWk.out.mono ?_
            rintro e w1 ⟨rfl, b1⟩
            have B1 := Lib.hid b1
            clear b1
            go_wp2_with fail
            with_reducible refine (HN.out w1).mono ?_
            rintro e w2 ⟨f, rfl, h2, b2⟩
            have H2 := Lib.hid (And.intro h2 b2)
            have hs2 : w.heap.size ≤ w2.heap.size := Nat.le_trans B1.out.size b2.size
            have Hs2 := Lib.hid (And.intro B1.out.size hs2)
            have hrd2 : Rd w2 w.heap.size 1 A n (bys l) := (HR.out.below B1.out (Nat.le_refl _)).below b2 B1.out.size
            have hsz2 : w.heap.size ≤ w2.heap.size := hs2
            clear h2 b2
            go_wp2_with ((refine ap_bys (own_lit0 w2 _) (hrd2.alloc hsz2 _) ((Below.refl w2.heap.size w2).alloc (Nat.le_refl _) _) (by simp) (by omega) rfl rfl rfl ?_; intro v3 w3 o1 o2 o3 o4; replace o1 := Lib.hid o1; replace o2 := Lib.hid o2; clear o3 o4; try go_frame))
            have hown3 : w3.ownsRow w2.heap.size 5 1 v3 n (bys l) := by have := o1.out; simpa using this
            obtain ⟨A3, c3, rfl, hnc3, hcm3⟩ := own_form hown3
            obtain ⟨g0, hg0, hrs3⟩ := own_rs hown3
            obtain ⟨O, hOd⟩ : ∃ O : Nat → Prop, O = fun i => w.heap.size ≤ i ∧ ¬ (0 < n ∧ i = g0) := ⟨_, rfl⟩
            have hOi : ∀ i, O i ↔ w.heap.size ≤ i ∧ ¬ (0 < n ∧ i = g0) := fun i => by rw [hOd]
            have hgn : 0 < n → ¬ O g0 := fun h0 => by rw [hOi]; exact fun h => h.2 ⟨h0, rfl⟩
            have s23 := o2.out.size
            have h3 : FsA w3 O f (newP 100) := (FsA.below H2.out.1 o2.out).mono (fun i hi _ => (hOi i).2 ⟨Nat.le_trans B1.out.size hi.1, fun h => by have := (hg0 h.1).2.1; omega⟩)
            have hO3 : ∀ i, w3.heap.size ≤ i → O i := fun i hi => (hOi i).2 ⟨by omega, fun h => by have := (hg0 h.1).2.2; omega⟩
            have HX := Lib.hid (And.intro hown3 (And.intro hnc3 (And.intro hcm3 (And.intro hg0 (And.intro hrs3 (And.intro hOi (And.intro hgn (And.intro s23 (And.intro h3 (And.intro hO3 hn1))))))))))
            clear hown3 hnc3 hcm3 hg0 hrs3 hOi hgn s23 h3 hO3 hOd hrd2 hsz2 hs2 o1
            with_reducible refine (HC.out f O w3 HX.out.2.2.2.2.2.2.2.2.2.1 HX.out.2.2.2.2.2.2.2.2.1).mono ?_
            rintro e w4 ⟨rfl, h4, k4⟩
            have H4 := Lib.hid (And.intro h4 k4)
            clear h4 k4
            have HW4 := Lib.hid (show Calls Tryd.prog 11 #[.pointer (some ⟨f, 0, none⟩), .string ⟨#[120]⟩, .int .i64 0, .slice A3 n c3] w4 fun e w' => e = .returned (.int .i64 0) ∧ FsA w' O f S2 ∧ Ch O w4 w' from by
              obtain ⟨hown3, hnc3, hcm3, hg0, hrs3, hOi, hgn, s23, h3, hO3, hn1⟩ := HX.out
              have s4 := H4.out.2.size
              exact HW.out f O w4 (fun i hi => hO3 i (by omega)) H4.out.1 g0 A3 c3 hnc3 hcm3 (fun h0 => (hrs3.heap (H4.out.2.block g0 (hg0 (by have := HL.out.1; omega)).2.2 (hgn (by have := HL.out.1; omega)))) h0) hgn (fun h0 => by have := (hg0 h0).2.2; omega))
            go_wp2_with fail
            with_reducible refine HW4.out.mono ?_
            rintro e w5 ⟨rfl, h5, k5⟩
            have H5 := Lib.hid (show FsA w5 O f S2 ∧ Below w.heap.size w w5 ∧ (0 < n → ∃ l', w5.ownsRow w2.heap.size 5 1 (.slice A3 n c3) n (bys l')) from by
              obtain ⟨hown3, hnc3, hcm3, hg0, hrs3, hOi, hgn, s23, h3, hO3, hn1⟩ := HX.out
              have s1 := B1.out.size
              have s2 := H2.out.2.size
              have s4 := H4.out.2.size
              have hOb : ∀ i, O i → w.heap.size ≤ i := fun i hi => ((hOi i).1 hi).1
              refine ⟨h5, (((B1.out.trans (H2.out.2.mono s1)).trans (o2.out.mono (by omega))).trans (H4.out.2.below (by omega) hOb)).trans (k5.below (by omega) hOb), fun h0 => ⟨l, ?_⟩⟩
              have hv : ∀ i, (Value.slice A3 n c3).ownBlock = some i → ¬ O i := fun i hi => by
                have hA := (hg0 h0).1
                subst hA
                injection hi with hi
                rw [← hi]; exact hgn h0
              exact own_ch (own_ch hown3 H4.out.2 hv) k5 hv)
            clear h5 k5
            go_wp2_with fail
            go_loopw [35] (fun s35 wr => ∃ i : Nat, s35 = .int .i64 (i : Int) ∧ i ≤ n ∧ Hid (FsA wr O f S2 ∧ Below w.heap.size w wr ∧ (0 < n → ∃ l', wr.ownsRow w2.heap.size 5 1 (.slice A3 n c3) n (bys l')))) (fun s35 _ => n - (intOf s35).toNat)
            case atStart => exact ⟨0, rfl, Nat.zero_le _, H5⟩
            case round =>
              obtain ⟨i, rfl, hin, HI⟩ := hrel
              by_cases hlt : i < n
              · obtain ⟨l', hown⟩ := HI.out.2.2 (by omega)
                have hA := (HX.out.2.2.2.1 (by omega)).1
                have hgg := HX.out.2.2.2.1 (by omega)
                have hgn := HX.out.2.2.2.2.2.2.1 (by omega)
                subst hA
                have d0 := own_byte hown hlt
                have f0 := hown.frozenAt i
                generalize l'[i]?.getD 0 = u at *
                have e8 := u8_next u
                have hu : u.toNat < 256 := UInt8.toNat_lt u
                obtain ⟨o8, g8⟩ := own_set hown i (u + 1)
                have H8 := Lib.hid (show FsA (wr.setCell ⟨g0, i, none⟩ (.int .u8 ((u + 1).toNat : Int))) O f S2 ∧ Below w.heap.size w (wr.setCell ⟨g0, i, none⟩ (.int .u8 ((u + 1).toNat : Int))) ∧ (0 < n → ∃ l', (wr.setCell ⟨g0, i, none⟩ (.int .u8 ((u + 1).toNat : Int))).ownsRow w2.heap.size 5 1 (.slice (some ⟨g0, 0, none⟩) n c3) n (bys l')) from
                  ⟨FsA.heap HI.out.1 (fun j hj _ => Below.heap_setCell _ _ _ j (by rintro rfl; exact hgn hj)), HI.out.2.1.setCell (p := ⟨g0, i, none⟩) (by have := Hs2.out.2; have := hgg.2.1; show w.heap.size ≤ g0; omega) _, fun _ => ⟨_, o8⟩⟩)
                clear hown hgg hgn o8 g8 HI
                generalize ((u + 1).toNat : Int) = u2 at *
                go_wp2_with fail
                go_roundw
                case rel => exact ⟨i + 1, by rfl, by omega, H8⟩
                case measure => simp [intOf]; omega
              · have hin2 : n = i := by omega
                subst hin2
                have H6 := Lib.hid (And.intro HI.out.1 HI.out.2.1)
                obtain ⟨wo, hwo⟩ : ∃ wo : World, wo = wr := ⟨_, rfl⟩
                subst hwo
                clear HI
                go_wp2_with fail
                go_loopw [45] (fun s45 wr => ∃ j : Nat, s45 = .int .i64 (j : Int) ∧ j ≤ 2 ∧ Hid (FsA wr O f S2 ∧ Below w.heap.size w wr)) (fun s45 _ => 2 - (intOf s45).toNat)
                case atStart => exact ⟨0, rfl, by omega, H6⟩
                case round =>
                  obtain ⟨j, rfl, hj, HJ⟩ := hrel
                  by_cases hjt : j < 2
                  · obtain ⟨wq, hwq⟩ : ∃ wq : World, wq = wr := ⟨_, rfl⟩
                    subst hwq
                    go_wp2_with fail
                    with_reducible refine (HRd.out f O wq HJ.out.1).mono ?_
                    rintro e w9 ⟨A9, n9, c9, rfl, hn9, hnc9, hc9, hown, b9⟩
                    have hlK : ((l.drop P).take K).length = K := by rw [List.length_take, List.length_drop]; have := HL.out.1; omega
                    have hn9' : n9 = K := by rw [hn9]; simpa using hlK
                    subst hn9'
                    simp only [Int.toNat_natCast] at hown
                    obtain ⟨g9, hg9, _⟩ := own_rs hown
                    have hrd9 := Rd.of_own hown
                    have hrb9 : Rd w9 w9.heap.size 1 A n (bys l) := ((HR.out.below HJ.out.2 (Nat.le_refl _)).below b9 HJ.out.2.size).more (Nat.le_trans HJ.out.2.size b9.size)
                    have hs9 := b9.size
                    have H9 := Lib.hid (show FsA w9 (fun i => O i ∧ i < wq.heap.size) f S2 ∧ Below w.heap.size w w9 ∧ (0 < n9 → ∃ l', w9.ownsRow wq.heap.size 5 1 (.slice A9 n9 c9) n9 (bys l')) from ⟨FsA.below (HJ.out.1.mono (fun i ho hi => ⟨ho, hi⟩)) b9, HJ.out.2.trans (b9.mono HJ.out.2.size), fun _ => ⟨_, hown⟩⟩)
                    have Hg9 := Lib.hid (show (0 < n9 → A9 = some ⟨g9, 0, none⟩ ∧ wq.heap.size ≤ g9) from fun h0 => ⟨(hg9 h0).1, (hg9 h0).2.1⟩)
                    have hS9 := fun A' c' (h : Rd w9 w9.heap.size 1 A' n9 (bys ((l.drop P).take n9))) => by have := same_any A9 A' n9 n9 c9 c' _ _ w9 hrd9 h (by omega) (by omega); rw [show decide ((l.drop P).take n9 = (l.drop P).take n9) = true by simp] at this; exact this
                    have HS9 := Lib.hid hS9
                    have Hrb9 := Lib.hid hrb9
                    have hnc0 := HL.out.2.1
                    clear hn9 hnc9 hc9 hown b9 hrd9 hrb9 hS9 hg9 hs9 hlK
                    go_wp2_with (first
                      | (refine cut_bys Hrb9.out hnc0 P n9 hPK rfl rfl rfl rfl (by push_cast; rfl) rfl ?_; intro A7 c7 hr7 _ _; replace hr7 := Lib.hid hr7; try go_frame)
                      | (go_at_call 13; refine (HS9.out A7 c7 hr7.out).mono ?_; rintro e w7 ⟨rfl, q, hw7⟩; replace hw7 := hw7.symm; subst hw7))
                    have H10 := Lib.hid (show FsA (w9.drewN q) (fun i => O i ∧ i < wq.heap.size) f S2 ∧ Below w.heap.size w (w9.drewN q) ∧ (0 < n9 → ∃ l', (w9.drewN q).ownsRow wq.heap.size 5 1 (.slice A9 n9 c9) n9 (bys l')) from ⟨FsA.heap H9.out.1 (fun _ _ _ => rfl), below_drewN H9.out.2.1 q, H9.out.2.2⟩)
                    clear hr7 Hrb9 HS9 H9
                    generalize w9.drewN q = w10 at *
                    go_loopw [104] (fun s104 wr => ∃ i : Nat, s104 = .int .i64 (i : Int) ∧ i ≤ n9 ∧ Hid (FsA wr (fun i => O i ∧ i < wq.heap.size) f S2 ∧ Below w.heap.size w wr ∧ (0 < n9 → ∃ l', wr.ownsRow wq.heap.size 5 1 (.slice A9 n9 c9) n9 (bys l')))) (fun s104 _ => n9 - (intOf s104).toNat)
                    case atStart => exact ⟨0, rfl, Nat.zero_le _, H10⟩
                    case round =>
                      obtain ⟨i, rfl, hin, HI⟩ := hrel
                      by_cases hlt : i < n9
                      · obtain ⟨l', hown⟩ := HI.out.2.2 (by omega)
                        obtain ⟨hA, hgq⟩ := Hg9.out (by omega)
                        subst hA
                        have d0 := own_byte hown hlt
                        have f0 := hown.frozenAt i
                        generalize l'[i]?.getD 0 = u at *
                        have e8 := u8_next u
                        have hu : u.toNat < 256 := UInt8.toNat_lt u
                        obtain ⟨o8, g8⟩ := own_set hown i (u + 1)
                        have hzq := HJ.out.2.size
                        have H8 := Lib.hid (show FsA (wr.setCell ⟨g9, i, none⟩ (.int .u8 ((u + 1).toNat : Int))) (fun i => O i ∧ i < wq.heap.size) f S2 ∧ Below w.heap.size w (wr.setCell ⟨g9, i, none⟩ (.int .u8 ((u + 1).toNat : Int))) ∧ (0 < n9 → ∃ l', (wr.setCell ⟨g9, i, none⟩ (.int .u8 ((u + 1).toNat : Int))).ownsRow wq.heap.size 5 1 (.slice (some ⟨g9, 0, none⟩) n9 c9) n9 (bys l')) from
                          ⟨FsA.heap HI.out.1 (fun j hj _ => Below.heap_setCell _ _ _ j (by rintro rfl; omega)), HI.out.2.1.setCell (p := ⟨g9, i, none⟩) (by show w.heap.size ≤ g9; omega) _, fun _ => ⟨_, o8⟩⟩)
                        clear hown o8 g8 HI hgq hzq
                        generalize ((u + 1).toNat : Int) = u2 at *
                        go_wp2_with fail
                        go_roundw
                        case rel => first | exact ⟨i + 1, rfl, by omega, H8⟩ | ((repeat apply Exists.intro); exact ⟨⟨i + 1, rfl, by omega, H8⟩, rfl⟩)
                        case measure => simp [intOf]; omega
                      · have hin2 : n9 = i := by omega
                        subst hin2
                        have H11 := Lib.hid (show FsA wr O f S2 ∧ Below w.heap.size w wr from ⟨HI.out.1.mono (fun i hi _ => hi.1), HI.out.2.1⟩)
                        clear HI H10
                        go_wp2_with fail
                        go_roundw
                        case rel => first | exact ⟨j + 1, rfl, by omega, H11⟩ | ((repeat apply Exists.intro); exact ⟨⟨j + 1, rfl, by omega, H11⟩, rfl⟩)
                        case measure => simp [intOf]; omega
                  · have hj2 : j = 2 := by omega
                    subst hj2
                    go_wp2_with fail
                    with_reducible refine (HRy.out f O wr HJ.out.1).mono ?_
                    rintro e w9 ⟨A9, n9, c9, rfl, hn9, hnc9, hc9, hown, b9⟩
                    have B9 := Lib.hid b9
                    clear hn9 hnc9 hc9 hown b9
                    go_wp2_with fail
                    go_ret
                    exact ⟨rfl, HJ.out.2.trans (B9.out.mono HJ.out.2.size)⟩
end Go.Proofs.YtknjopefbbldfaaDoor
