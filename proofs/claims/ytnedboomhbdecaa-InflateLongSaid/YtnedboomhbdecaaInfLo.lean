/- InflateLong. -/
import Derived.Test.YtnedboomhbdecaaInfEn
namespace Go.Proofs.Ytnedboomhbdecaa
open Go.RowKit
attribute [local go_sem ↓] Go.wp_at_zero Go.wp_at_succ

set_option maxHeartbeats 4000000 in
set_option maxRecDepth 100000 in
theorem inflateLong_walk (A : Option Addr) (n c : Nat) (b : List UInt8) (a : Int) (w : World) (hr : Rd w w.heap.size 1 A n (bys b)) (hnc : n ≤ c) (hcm : c ≤ maxLen) (ha : 0 ≤ a ∧ a ≤ 65535) :
    Calls Try.prog 13 #[.slice A n c, .int .u16 a] w fun e w' => e = .returned (.bool true) ∧ Below w.heap.size w w' := by
  unfold maxLen at hcm
  by_cases h1 : 2000 < n
  · clear hr
    go_enter Try.func13, Try.ntmps13
    go_wp2_with fail
    refine (infwakes_any w).mono ?_
    rintro e w1 ⟨rfl, hb1⟩
    go_wp2
    go_ret
    exact ⟨rfl, hb1⟩
  have Hr := Lib.hid hr
  obtain ⟨M, hM⟩ : ∃ M : Nat, a % 20000 = (M : Int) := ⟨(a % 20000).toNat, by omega⟩
  have hM2 : M ≤ 20000 := by omega
  have HM := Lib.hid hM
  clear hr hM
  go_enter Try.func13, Try.ntmps13
  go_wp2_with fail
  refine (infwakes_any w).mono ?_
  rintro e w1 ⟨rfl, hb1⟩
  have hz1 := hb1.size
  have ha1 := all_any A n c b 20000 w1 ((Hr.out.below hb1 (Nat.le_refl _)).more hz1) (by omega) (by omega)
  have Ha1 := Lib.hid ha1
  have Hb1 := Lib.hid hb1
  clear ha1 hb1
  go_wp2_with fail
  refine Ha1.out.mono ?_
  rintro e w2 ⟨hb2, hcase⟩
  have hb12 := Hb1.out.trans (hb2.mono hz1)
  have hz2 := hb12.size
  have ha2 := all_any A n c b M w2 ((Hr.out.below hb12 (Nat.le_refl _)).more hz2) (by omega) hM2
  have Ha2 := Lib.hid ha2
  have Hb12 := Lib.hid hb12
  clear ha2 hb12 hb2 Hb1 Ha1
  rcases hcase with ⟨X, nx, cx, x, k, rfl, hoc, hrd, hnx⟩ | ⟨rfl, hoc⟩ | ⟨E, hE, rfl, hoc⟩
  · have Hoc := Lib.hid hoc
    have Hrd := Lib.hid hrd
    have hxl := hoc.len
    have hxn := hrd.blen
    have hnx2 : nx ≤ 20000 := by omega
    have Hxn := Lib.hid hxn
    clear hoc hrd hxl hxn
    go_wp2_with fail
    rw [HM.out]
    refine Ha2.out.mono ?_
    rintro e w3 ⟨hb3, hcase⟩
    have hb13 := Hb12.out.trans (hb3.mono hz2)
    have Hb13 := Lib.hid hb13
    have Hrx := Lib.hid (Hrd.out.below hb3 (Nat.le_refl _))
    have hz3 := hb3.size
    clear hb13 hb3 Hrd
    by_cases hlt : M < nx
    · have hl : ∀ r f, Oc (bitsB b) M r f → r = none ∧ f = true := fun r f h => ((Oc.less hM2 Hoc.out h).2 _ _ rfl).1 (by have := Hxn.out; omega)
      have Hl := Lib.hid hl
      clear hl
      have hlt2 : a % 20000 < (nx : Int) := by have := HM.out; omega
      rcases hcase with ⟨Y, ny, cy, y, m, rfl, hoc, hrd, hny⟩ | ⟨rfl, hoc⟩ | ⟨E, hE, rfl, hoc⟩
      · exact absurd (Hl.out _ _ hoc).1 (by simp)
      · clear hoc
        go_wp2
        go_ret
        exact ⟨rfl, Hb13.out⟩
      · exact absurd (Hl.out _ _ hoc).2 (by simp)
    · have hl : ∀ r f, Oc (bitsB b) M r f → r = some (x, k) := fun r f h => ((Oc.less hM2 Hoc.out h).2 _ _ rfl).2 (by have := Hxn.out; omega)
      have Hl := Lib.hid hl
      clear hl
      have hlt2 : ¬ a % 20000 < (nx : Int) := by have := HM.out; omega
      rcases hcase with ⟨Y, ny, cy, y, m, rfl, hoc, hrd, hny⟩ | ⟨rfl, hoc⟩ | ⟨E, hE, rfl, hoc⟩
      · have he := Hl.out _ _ hoc
        injection he with he
        injection he with he1 he2
        subst he1 he2
        have hny2 : ny ≤ 20000 := by have := hrd.blen; have := Hxn.out; omega
        have hs1 := same_self X Y nx ny cx cy y y w3 (Hrx.out.more hz3) hrd rfl (by omega) (by omega)
        have Hs1 := Lib.hid hs1
        clear hs1 hoc hrd Hrx Hl Hoc
        go_wp2_with fail
        refine Hs1.out.mono ?_
        rintro e w7 ⟨rfl, q, rfl⟩
        go_wp2
        go_ret
        exact ⟨rfl, below_drewN Hb13.out _⟩
      · exact absurd (Hl.out _ _ hoc) (by simp)
      · exact absurd (Hl.out _ _ hoc) (by simp)
  · have hl : ∀ r f, Oc (bitsB b) M r f → r = none := fun r f h => (Oc.less hM2 hoc h).1 rfl
    have Hl := Lib.hid hl
    clear hoc hl
    go_wp2_with fail
    rw [HM.out]
    refine Ha2.out.mono ?_
    rintro e w3 ⟨hb3, ⟨Y, ny, cy, y, m, rfl, hoc, hrd, hny⟩ | ⟨rfl, hoc⟩ | ⟨E, hE, rfl, hoc⟩⟩
    · exact absurd (Hl.out _ _ hoc) (by simp)
    · have hb13 := Hb12.out.trans (hb3.mono hz2)
      clear hoc
      go_wp2
      go_ret
      exact ⟨rfl, hb13⟩
    · have hb13 := Hb12.out.trans (hb3.mono hz2)
      have hE1 : (E != 0) = true := by simpa using hE
      clear hoc
      go_wp2
      go_ret
      exact ⟨rfl, hb13⟩
  · have hl : ∀ r f, Oc (bitsB b) M r f → r = none := fun r f h => (Oc.less hM2 hoc h).1 rfl
    have Hl := Lib.hid hl
    have hE1 : (E != 0) = true := by simpa using hE
    clear hoc hl
    go_wp2_with fail
    rw [HM.out]
    refine Ha2.out.mono ?_
    rintro e w3 ⟨hb3, ⟨Y, ny, cy, y, m, rfl, hoc, hrd, hny⟩ | ⟨rfl, hoc⟩ | ⟨E2, hE2, rfl, hoc⟩⟩
    · exact absurd (Hl.out _ _ hoc) (by simp)
    · have hb13 := Hb12.out.trans (hb3.mono hz2)
      clear hoc
      go_wp2
      go_ret
      exact ⟨rfl, hb13⟩
    · have hb13 := Hb12.out.trans (hb3.mono hz2)
      have hE3 : (E2 != 0) = true := by simpa using hE2
      clear hoc
      go_wp2
      go_ret
      exact ⟨rfl, hb13⟩
end Go.Proofs.Ytnedboomhbdecaa
