/- VfsSyncs: what was synced stands behind any crash. -/
import Derived.Test.YtknjopefbbldfaaDoorVfsX
import Derived.Test.YtknjopefbbldfaaDoorSame
import Derived.PinnedBridge
import Derived.Stop.LaidErr
namespace Go.Proofs.YtknjopefbbldfaaDoor
open Go.RowKit
attribute [local go_sem ↓] Go.wp_at_zero Go.wp_at_succ

theorem vfsSyncs_laid (W : World) (_ : laidMet Tryd.prog Rows.vfsSyncsRow.laid W) : True := trivial
theorem last_W (x : FlP) (k j : Nat) : (lastP x k).W[j]?.getD false = if j = k then false else x.W[j]?.getD false := by
  unfold lastP
  dsimp only
  by_cases e : j = k
  · subst e
    rw [if_pos rfl, List.getElem?_set]
    simp only [if_true]
    split <;> rfl
  · rw [if_neg e, List.getElem?_set_ne (by omega)]
theorem back_W (x : FlP) (k j : Nat) : (backP x k).W[j]?.getD false = x.W[j]?.getD false := rfl
theorem syncN_B (x : FlP) : ∀ k, (syncN x k).B = x.B
  | 0 => rfl
  | k + 1 => (show (lastP (syncN x k) k).B = _ from syncN_B x k)
theorem syncN_W (x : FlP) : ∀ (k j : Nat), j < k → (syncN x k).W[j]?.getD false = false
  | 0, j, h => by omega
  | k + 1, j, h => by
    show (lastP (syncN x k) k).W[j]?.getD false = false
    rw [last_W]
    by_cases e : j = k
    · rw [if_pos e]
    · rw [if_neg e]; exact syncN_W x k j (by omega)
theorem crS_W (keep : UInt64) (k j : Nat) (s : Nat × FlP) : (crS keep k s).2.W[j]?.getD false = if j = k then false else s.2.W[j]?.getD false := by
  unfold crS
  by_cases h : s.2.W[k]?.getD false = true
  · rw [if_pos h]
    dsimp only
    rw [last_W]
    by_cases e : j = k
    · rw [if_pos e, if_pos e]
    · rw [if_neg e, if_neg e]
      split <;> rfl
  · rw [if_neg h]
    by_cases e : j = k
    · rw [if_pos e, e]; simpa using h
    · rw [if_neg e]
theorem crN_W (keep : UInt64) (s : Nat × FlP) : ∀ (k j : Nat), j < k → (crN keep s k).2.W[j]?.getD false = false
  | 0, j, h => by omega
  | k + 1, j, h => by
    show (crS keep k (crN keep s k)).2.W[j]?.getD false = false
    rw [crS_W]
    by_cases e : j = k
    · rw [if_pos e]
    · rw [if_neg e]; exact crN_W keep s k j (by omega)
theorem crN_none (keep : UInt64) (i : Nat) (x : FlP) (h : ∀ j : Nat, x.W[j]?.getD false = false) : ∀ k, crN keep (i, x) k = (i, x)
  | 0 => rfl
  | k + 1 => by
    show crS keep k (crN keep (i, x) k) = _
    rw [crN_none keep i x h k]
    unfold crS
    rw [if_neg (by rw [h k]; decide)]
theorem countP_no {l : List Bool} (h : ∀ j : Nat, j < l.length → l[j]?.getD false = false) : l.countP id = 0 := by
  rw [List.countP_eq_zero]
  intro b hb
  obtain ⟨j, hj, e⟩ := List.mem_iff_getElem.1 hb
  have := h j hj
  rw [List.getElem?_eq_getElem hj, e] at this
  simpa using this
theorem crashL_find (keep : UInt64) (n : List UInt8) (x : FlP) : ∀ (l : List (List UInt8 × FlP)) (i : Nat), l.lookup n = some x → ∃ i', (crashL keep i l).lookup n = some (crF keep i' x).2
  | [], i, h => by cases h
  | (m, y) :: r, i, h => by
    rw [List.lookup_cons] at h
    unfold crashL
    rw [List.lookup_cons]
    by_cases e : (n == m) = true
    · rw [e] at h
      rw [e]
      refine ⟨i, ?_⟩
      simp only [Option.some.injEq] at h
      rw [h]
    · have e' : (n == m) = false := by simpa using e
      rw [e'] at h
      rw [e']
      exact crashL_find keep n x r _ h
theorem find_crash {S : FsP} (keep : UInt64) {n : List UInt8} {x : FlP} (h : findP S n = some x) : ∃ i, findP (crashP S keep) n = some (crF keep i x).2 := crashL_find keep n x S.fs 0 h
theorem waits_crash (keep : UInt64) : ∀ (l : List (List UInt8 × FlP)) (i : Nat), (∀ p ∈ l, p.2.WF) → waitsP (crashL keep i l) = 0
  | [], _, _ => rfl
  | (m, y) :: r, i, h => by
    have h1 := waits_crash keep r (crF keep i y).1 (fun p hp => h p (List.mem_cons_of_mem _ hp))
    have hs := crF_same (h _ (List.mem_cons_self ..)) keep i
    have h2 : (crF keep i y).2.W.countP id = 0 := countP_no (fun j hj => crN_W keep (i, y) y.W.length j (by rw [hs.w] at hj; exact hj))
    have e : waitsP (crashL keep i ((m, y) :: r)) = (crF keep i y).2.W.countP id + waitsP (crashL keep (crF keep i y).1 r) := rfl
    rw [e, h2, h1]
theorem sync0 {S : FsP} {n : List UInt8} {x : FlP} (h : Up S) (hw : S.WF) (hf : findP S n = some x) :
    syncF S n = (0, keptF S n (syncP x)) ∧ Up (keptF S n (syncP x)) ∧ (keptF S n (syncP x)).most = S.most ∧ (keptF S n (syncP x)).stamp = S.stamp ∧ useP (keptF S n (syncP x)).fs = useP S.fs := by
  obtain ⟨h1, h2⟩ := h.burn
  have hsm : SameF x (syncP x) := same_syncN (hw.files _ (lookup_mem hf)) x.W.length
  refine ⟨?_, ⟨?_, ?_⟩, ?_, ?_, ?_⟩
  · unfold syncF
    rw [h.d, hf, h1]; rfl
  · unfold keptF; rw [h2]; exact h.d
  · unfold keptF; rw [h2]; exact h.f
  · unfold keptF; rw [h2]
  · unfold keptF; rw [h2]
  · have := use_set (x := syncP x) hw.order hf
    unfold keptF
    have := hsm.w
    simp only
    omega
@[reducible] def bN : ByteArray := ⟨#[98]⟩
theorem ab_ne : aN.data.toList ≠ bN.data.toList := by decide
theorem syncs_store (l1 l2 : List UInt8) (keep : UInt64) (h1 : l1.length ≤ 1000) (h2 : l2.length ≤ 1000) :
    ∃ S1 S2 S3 S4 S5 x1 x4, createP (newP 100) aN.data.toList = (0, S1) ∧ S1.stamp ≤ 1 ∧ S1.down = false ∧ findP S1 aN.data.toList = some x1 ∧
      writeP S1 aN.data.toList 0 l1 = (0, S2) ∧ S2.stamp ≤ 2 ∧ syncF S2 aN.data.toList = (0, S3) ∧ S3.stamp ≤ 2 ∧ createP S3 bN.data.toList = (0, S4) ∧ S4.stamp ≤ 3 ∧ S4.down = false ∧ findP S4 bN.data.toList = some x4 ∧
      writeP S4 bN.data.toList 0 l2 = (0, S5) ∧ S5.stamp ≤ 4 ∧ readP (crashP S5 keep) aN.data.toList 0 (l1.length : Int) = (0, l1) ∧ lenV (crashP S5 keep) bN.data.toList = .tuple #[.int .i64 (l2.length : Int), .bool true] ∧ (crashP S5 keep).down = false ∧ waitsP (crashP S5 keep).fs = 0 := by
  have hf0 : findP (newP 100) aN.data.toList = none := rfl
  have hfb0 : findP (newP 100) bN.data.toList = none := rfl
  obtain ⟨c1, c2, c3, c4, c5⟩ := create0 (up_new 100) (by decide) hf0
  have hf1 := find_made hf0
  have hw1 : (madeF (newP 100) aN.data.toList).WF := madeF_wf (newP_wf 100) hf0 (by decide)
  have hx1 : findP (madeF (newP 100) aN.data.toList) aN.data.toList = some ⟨[], [], [], 1⟩ := by rw [hf1, if_pos rfl]; rfl
  have hb1 : findP (madeF (newP 100) aN.data.toList) bN.data.toList = none := by rw [hf1, if_neg (Ne.symm ab_ne)]; exact hfb0
  have e1 : useP (newP 100).fs = 0 := rfl
  have e2 : (newP 100).most = 100 := rfl
  have e3 : (newP 100).stamp = 0 := rfl
  have n1 : needN l1.length ≤ 16 := by unfold needN; omega
  have n2 : needN l2.length ≤ 16 := by unfold needN; omega
  rw [e1] at c3; rw [e2] at c4; rw [e3] at c5
  generalize madeF (newP 100) aN.data.toList = S1 at *
  obtain ⟨S2, y, d1, d2, d3, d4, d5, d6, d7⟩ := write0 l1 c2 hw1 hx1 rfl (by omega)
  have hw2 : S2.WF := by have := writeP_wf (p := 0) (b := l1) hw1 c2.d hx1 (Nat.zero_le _); rw [d1] at this; exact this
  have hy2 : findP S2 aN.data.toList = some y := by rw [d7, if_pos rfl]
  have hb2 : findP S2 bN.data.toList = none := by rw [d7, if_neg (Ne.symm ab_ne)]; exact hb1
  obtain ⟨s1, s2, s3, s4, s5⟩ := sync0 d2 hw2 hy2
  have hwy : y.WF := hw2.files _ (lookup_mem hy2)
  have hsm : SameF y (syncP y) := same_syncN hwy y.W.length
  have hw3 : (keptF S2 aN.data.toList (syncP y)).WF := keptF_wf hw2 hy2 hsm
  have hf3 := fun u => find_kept (syncP y) hy2 u
  have ha3 : findP (keptF S2 aN.data.toList (syncP y)) aN.data.toList = some (syncP y) := by rw [hf3, if_pos rfl]
  have hb3 : findP (keptF S2 aN.data.toList (syncP y)) bN.data.toList = none := by rw [hf3, if_neg (Ne.symm ab_ne)]; exact hb2
  generalize keptF S2 aN.data.toList (syncP y) = S3 at *
  obtain ⟨t1, t2, t3, t4, t5⟩ := create0 s2 (show rightP bN.data.toList = true by decide) hb3
  have hf4 := find_made hb3
  have hw4 : (madeF S3 bN.data.toList).WF := madeF_wf hw3 hb3 (by decide)
  have hx4 : findP (madeF S3 bN.data.toList) bN.data.toList = some ⟨[], [], [], S3.stamp + 1⟩ := by rw [hf4, if_pos rfl]
  have ha4 : findP (madeF S3 bN.data.toList) aN.data.toList = some (syncP y) := by rw [hf4, if_neg ab_ne]; exact ha3
  generalize madeF S3 bN.data.toList = S4 at *
  obtain ⟨S5, z, u1, u2, u3, u4, u5, u6, u7⟩ := write0 l2 t2 hw4 hx4 rfl (by omega)
  have hw5 : S5.WF := by have := writeP_wf (p := 0) (b := l2) hw4 t2.d hx4 (Nat.zero_le _); rw [u1] at this; exact this
  have ha5 : findP S5 aN.data.toList = some (syncP y) := by rw [u7, if_neg ab_ne]; exact ha4
  have hb5 : findP S5 bN.data.toList = some z := by rw [u7, if_pos rfl]
  obtain ⟨i1, ra⟩ := find_crash keep ha5
  obtain ⟨i2, rb⟩ := find_crash keep hb5
  have hno : ∀ j : Nat, (syncP y).W[j]?.getD false = false := fun j => by
    by_cases hj : j < y.W.length
    · exact syncN_W y y.W.length j hj
    · rw [List.getElem?_eq_none (by have := hsm.w; omega)]; rfl
  have ea : (crF keep i1 (syncP y)).2 = syncP y := by unfold crF; rw [crN_none keep i1 _ hno]
  rw [ea] at ra
  have hzs := (crF_same (hw5.files _ (lookup_mem hb5)) keep i2).b
  simp only at hzs
  refine ⟨S1, S2, S3, S4, S5, _, _, c1, by omega, c2.d, hx1, d1, by omega, s1, by omega, t1, by omega, t2.d, hx4, u1, by omega, ?_, ?_, rfl, waits_crash keep S5.fs 0 hw5.files⟩
  · have hB : (syncP y).B = l1 := by rw [show (syncP y).B = y.B from syncN_B y _, d6]
    rw [read_of 0 (l1.length : Int) rfl ra, hB, if_neg (by omega), if_neg (by omega)]
    simp
  · unfold lenV lenP
    rw [rb]
    have e9 : (crashP S5 keep).down = false := rfl
    rw [e9]
    simp only [Bool.false_eq_true, if_false, Option.map_some]
    rw [hzs, u6]
set_option maxHeartbeats 8000000 in
set_option maxRecDepth 100000 in
theorem vfsSyncs_walk (A : Option Addr) (n c : Nat) (l : List UInt8) (A2 : Option Addr) (n2 c2 : Nat) (l2 : List UInt8) (k0 : Int) (w : World) (hr : Rd w w.heap.size 1 A n (bys l)) (hnc : n ≤ c) (hcm : c ≤ maxLen) (hr2 : Rd w w.heap.size 1 A2 n2 (bys l2)) (hnc2 : n2 ≤ c2) (hcm2 : c2 ≤ maxLen) (hk : 0 ≤ k0 ∧ k0 ≤ 18446744073709551615) (_ : True) :
    Calls Tryd.prog 5 #[.slice A n c, .slice A2 n2 c2, .int .u64 k0] w fun e w' => e = .returned (.bool true) ∧ Below w.heap.size w w' := by
  rename_i hT
  clear hT
  have hlen := hr.blen
  have hlen2 := hr2.blen
  have HWk := Lib.hid (wakes_any w)
  by_cases h1 : 1000 < n
  · have hi : (1000 : Int) < (n : Int) := by omega
    clear h1 hlen hlen2 hr hnc hcm hr2 hnc2 hcm2 hk
    go_enter Tryd.func5, Tryd.ntmps5
    go_wp2_with fail
    with_reducible refine HWk.out.mono ?_
    rintro e w1 ⟨rfl, b1⟩
    have B1 := Lib.hid b1
    clear b1
    go_wp2_with fail
    go_ret
    exact ⟨rfl, B1.out⟩
  · by_cases h2 : 1000 < n2
    · have hi : ¬ (1000 : Int) < (n : Int) := by omega
      have hi2 : (1000 : Int) < (n2 : Int) := by omega
      clear h1 h2 hlen hlen2 hr hnc hcm hr2 hnc2 hcm2 hk
      go_enter Tryd.func5, Tryd.ntmps5
      go_wp2_with fail
      with_reducible refine HWk.out.mono ?_
      rintro e w1 ⟨rfl, b1⟩
      have B1 := Lib.hid b1
      clear b1
      go_wp2_with fail
      go_ret
      exact ⟨rfl, B1.out⟩
    · have hi : ¬ (1000 : Int) < (n : Int) := by omega
      have hi2 : ¬ (1000 : Int) < (n2 : Int) := by omega
      obtain ⟨keep, hkeep⟩ : ∃ keep : UInt64, k0 = (keep.toNat : Int) := ⟨UInt64.ofNat k0.toNat, by rw [UInt64.toNat_ofNat']; omega⟩
      subst hkeep
      obtain ⟨S1, S2, S3, S4, S5, x1, x4, e1, s1, d1, f1, e2, s2, e3, s3, e4, s4, d4, f4, e5, s5, e6, e7, e8, e9⟩ := syncs_store l l2 keep (by omega) (by omega)
      have HN := Lib.hid (fun W => new_fs 100 W)
      have HC1 := Lib.hid (fun f W (h : Fs w.heap.size W f (newP 100)) => by have := create_fs _ f _ W h aN (by decide) (by decide); rw [e1] at this; exact this)
      have HW1 := Lib.hid (fun f W (h : Fs w.heap.size W f S1) (hb : Below w.heap.size w W) => by
        have := write_fs _ f _ W h aN 0 n c l A x1 (by decide) (by omega) (by omega) hnc hcm (hr.below hb (Nat.le_refl _)) d1 f1 (Nat.zero_le _)
        rw [show ((0 : Nat) : Int) = (0 : Int) from rfl, e2] at this; exact this)
      have HS := Lib.hid (fun f W (h : Fs w.heap.size W f S2) => by have := sync_fs _ f _ W h aN (by decide) (by omega); rw [e3] at this; exact this)
      have HC2 := Lib.hid (fun f W (h : Fs w.heap.size W f S3) => by have := create_fs _ f _ W h bN (by decide) (by omega); rw [e4] at this; exact this)
      have HW2 := Lib.hid (fun f W (h : Fs w.heap.size W f S4) (hb : Below w.heap.size w W) => by
        have := write_fs _ f _ W h bN 0 n2 c2 l2 A2 x4 (by decide) (by omega) (by omega) hnc2 hcm2 (hr2.below hb (Nat.le_refl _)) d4 f4 (Nat.zero_le _)
        rw [show ((0 : Nat) : Int) = (0 : Int) from rfl, e5] at this; exact this)
      have HK := Lib.hid (fun f W (h : Fs w.heap.size W f S5) => crash_fs _ f _ W h keep (by omega))
      have HRd := Lib.hid (fun f W (h : Fs w.heap.size W f (crashP S5 keep)) => by have := read_fs _ f _ W h aN 0 (l.length : Int) (by decide) (by decide); rw [e6, hlen] at this; exact this)
      have HLn := Lib.hid (fun f W (h : Fs w.heap.size W f (crashP S5 keep)) => by have := len_fs _ f _ W h bN (by decide); rw [e7, hlen2] at this; exact this)
      have HWt := Lib.hid (fun f W (h : Fs w.heap.size W f (crashP S5 keep)) => by have := waits_fs _ f _ W h; rw [e8, e9] at this; exact this)
      have HL := Lib.hid (And.intro hr (And.intro hlen (And.intro hlen2 (And.intro hnc (And.intro hcm (show n ≤ 1000 by omega))))))
      clear h1 h2 hlen hlen2 hr hnc hcm hr2 hnc2 hcm2 hk e1 s1 d1 f1 e2 s2 e3 s3 e4 s4 d4 f4 e5 s5 e6 e7 e8 e9
      go_enter Tryd.func5, Tryd.ntmps5
      go_wp2_with fail
      with_reducible refine HWk.out.mono ?_
      rintro e w1 ⟨rfl, b1⟩
      have B1 := Lib.hid b1
      clear b1
      go_wp2_with fail
      with_reducible refine (HN.out w1).mono ?_
      rintro e w2 ⟨f, rfl, h2, b2⟩
      have B2 := Lib.hid (Below.trans B1.out (b2.mono B1.out.size))
      have H2 := Lib.hid (show Fs w.heap.size w2 f (newP 100) from FsA.mono h2 (fun i hi _ => ⟨Nat.le_trans B1.out.size hi.1, hi.2⟩))
      clear h2 b2
      go_wp2_with fail
      with_reducible refine (HC1.out f w2 H2.out).mono ?_
      rintro e w3 ⟨rfl, h3, b3⟩
      have B3 := Lib.hid (Below.trans B2.out b3)
      have H3 := Lib.hid h3
      clear h3 b3
      go_wp2_with fail
      with_reducible refine (HW1.out f w3 H3.out B3.out).mono ?_
      rintro e w4 ⟨rfl, h4, b4⟩
      have B4 := Lib.hid (Below.trans B3.out b4)
      have H4 := Lib.hid h4
      clear h4 b4
      go_wp2_with fail
      with_reducible refine (HS.out f w4 H4.out).mono ?_
      rintro e w5 ⟨rfl, h5, b5⟩
      have B5 := Lib.hid (Below.trans B4.out b5)
      have H5 := Lib.hid h5
      clear h5 b5
      go_wp2_with fail
      with_reducible refine (HC2.out f w5 H5.out).mono ?_
      rintro e w6 ⟨rfl, h6, b6⟩
      have B6 := Lib.hid (Below.trans B5.out b6)
      have H6 := Lib.hid h6
      clear h6 b6
      go_wp2_with fail
      with_reducible refine (HW2.out f w6 H6.out B6.out).mono ?_
      rintro e w7 ⟨rfl, h7, b7⟩
      have B7 := Lib.hid (Below.trans B6.out b7)
      have H7 := Lib.hid h7
      clear h7 b7
      go_wp2_with fail
      with_reducible refine (HK.out f w7 H7.out).mono ?_
      rintro e w8 ⟨rfl, h8, b8⟩
      have B8 := Lib.hid (Below.trans B7.out b8)
      have H8 := Lib.hid h8
      clear h8 b8
      go_wp2_with fail
      with_reducible refine (HRd.out f w8 H8.out).mono ?_
      rintro e w9 ⟨A9, n9, c9, rfl, hn9, hnc9, hc9, hown, b9⟩
      have B9 := Lib.hid (Below.trans B8.out (b9.mono B8.out.size))
      have H9 := Lib.hid (show Fs w.heap.size w9 f (crashP S5 keep) from H8.out.below b9)
      have hrd9 := Rd.of_own hown
      have hra9 : Rd w9 w9.heap.size 1 A n (bys l) := (HL.out.1.below B9.out (Nat.le_refl _)).more B9.out.size
      have HSm := Lib.hid (same_any A9 A n9 n c9 c l l w9 hrd9 hra9 (by have := HL.out.2.2.2.2.2; omega) (by have := HL.out.2.2.2.2.2; omega))
      rw [show decide (l = l) = true by simp] at HSm
      have Hn9 := Lib.hid (And.intro hn9 (And.intro hnc9 hc9))
      clear hn9 hnc9 hc9 hown b9 hrd9 hra9
      go_wp2_with fail
      with_reducible refine (HLn.out f w9 H9.out).mono ?_
      rintro e w10 ⟨rfl, hw10⟩
      have hw10' := hw10.symm
      clear hw10
      subst hw10'
      go_wp2_with fail
      with_reducible refine HSm.out.mono ?_
      rintro e w11 ⟨rfl, q, hq⟩
      have hq' := hq.symm
      clear hq
      subst hq'
      have H11 := Lib.hid (show Fs w.heap.size (w9.drewN q) f (crashP S5 keep) from FsA.heap H9.out (fun _ _ _ => rfl))
      go_wp2_with fail
      with_reducible refine (HWt.out f (w9.drewN q) H11.out).mono ?_
      rintro e w12 ⟨rfl, b12⟩
      have B12 := Lib.hid (Below.trans (below_drewN B9.out q) (b12.mono (show w.heap.size ≤ (w9.drewN q).heap.size from B9.out.size)))
      clear b12
      go_wp2_with fail
      go_ret
      exact ⟨rfl, B12.out⟩
end Go.Proofs.YtknjopefbbldfaaDoor
