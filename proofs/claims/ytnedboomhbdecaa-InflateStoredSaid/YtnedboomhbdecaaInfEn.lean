/- InflateEnds. -/
import Derived.Test.YtnedboomhbdecaaInfWl
import Derived.Test.YtnedboomhbdecaaSame
import Derived.Test.YtnedboomhbdecaaMem
namespace Go.Proofs.Ytnedboomhbdecaa
open Go.RowKit
attribute [local go_sem ↓] Go.wp_at_zero Go.wp_at_succ

theorem Oc.len {B : List Bool} {m k : Nat} {x : List UInt8} {f : Bool} (h : Oc B m (some (x, k)) f) : x.length ≤ m := by
  cases h; assumption
theorem same_self (A B : Option Addr) (n m c d : Nat) (l r : List UInt8) (w : World) (hl : Rd w w.heap.size 1 A n (bys l)) (hr : Rd w w.heap.size 1 B m (bys r)) (e : l = r) (hn : n ≤ 9223372036854775807) (hm : m ≤ 9223372036854775807) :
    Calls Try.prog 19 #[.slice A n c, .slice B m d] w fun e w' => e = .returned (.bool true) ∧ ∃ q, w' = w.drewN q := by
  subst e
  simpa using same_any A B n m c d l l w hl hr hn hm

set_option maxHeartbeats 4000000 in
set_option maxRecDepth 100000 in
theorem inflateEnds_walk (A : Option Addr) (n c : Nat) (b : List UInt8) (A2 : Option Addr) (n2 c2 : Nat) (more : List UInt8) (w : World) (hr : Rd w w.heap.size 1 A n (bys b)) (hnc : n ≤ c) (hcm : c ≤ maxLen) (hr2 : Rd w w.heap.size 1 A2 n2 (bys more)) (hnc2 : n2 ≤ c2) (hcm2 : c2 ≤ maxLen) :
    Calls Try.prog 11 #[.slice A n c, .slice A2 n2 c2] w fun e w' => e = .returned (.bool true) ∧ Below w.heap.size w w' := by
  unfold maxLen at hcm hcm2
  by_cases h1 : 2000 < n
  · clear hr hr2
    go_enter Try.func11, Try.ntmps11
    go_wp2_with fail
    refine (infwakes_any w).mono ?_
    rintro e w1 ⟨rfl, hb1⟩
    go_wp2
    go_ret
    exact ⟨rfl, hb1⟩
  by_cases h2 : 200 < n2
  · clear hr hr2
    go_enter Try.func11, Try.ntmps11
    go_wp2_with fail
    refine (infwakes_any w).mono ?_
    rintro e w1 ⟨rfl, hb1⟩
    go_wp2
    go_ret
    exact ⟨rfl, hb1⟩
  have Hr := Lib.hid hr
  have Hr2 := Lib.hid hr2
  clear hr hr2
  go_enter Try.func11, Try.ntmps11
  go_wp2_with fail
  refine (infwakes_any w).mono ?_
  rintro e w1 ⟨rfl, hb1⟩
  have hz1 := hb1.size
  have ha1 := all_any A n c b 20000 w1 ((Hr.out.below hb1 (Nat.le_refl _)).more hz1) (by omega) (by omega)
  have Ha1 := Lib.hid ha1
  have Hb1 := Lib.hid hb1
  clear ha1 hb1
  go_wp2_with fail
  refine Ha1.out.mono ?_
  rintro e w2 ⟨hb2, ⟨X, nx, cx, x, k, rfl, hoc, hrd, hnx⟩ | ⟨rfl, hoc⟩ | ⟨E, hE, rfl, hoc⟩⟩
  · obtain ⟨hk, hA, hB⟩ := hoc.ends (more := more)
    have hxl := hoc.len
    have hxn := hrd.blen
    have hbl := Hr.out.blen
    have hb12 := Hb1.out.trans (hb2.mono hz1)
    have hz2 := hb12.size
    have hrA := (Hr.out.below hb12 (Nat.le_refl _))
    have hrA2 := (Hr2.out.below hb12 (Nat.le_refl _))
    have HrA := Lib.hid hrA
    have HrA2 := Lib.hid hrA2
    have Hrd := Lib.hid hrd
    have HA := Lib.hid hA
    have HB := Lib.hid hB
    have Hxn := Lib.hid hxn
    have Hbl := Lib.hid hbl
    have Hb12 := Lib.hid hb12
    have hkn : k ≤ n := by omega
    have hnx2 : nx ≤ 20000 := by omega
    clear hoc hrA hrA2 hrd hA hB hxn hbl hb12 hb2 hk hxl Ha1
    go_wp2_with (
      at_builtin
      first
      | (refine ap_bys (own_lit0 w2 _) (HrA.out.alloc hz2 _) ((Below.refl w2.heap.size w2).alloc (Nat.le_refl _) _) (by simp) (by omega) rfl rfl rfl ?_
         intro v3 w3 hown3 hb3 hg3 ha3
         have Hown3 := Lib.hid hown3
         have hz3 := hb3.size
         have Hb3 := Lib.hid hb3
         clear hown3 hg3 ha3 hb3)
      | (refine ap_bys Hown3.out (HrA2.out.below Hb3.out hz2) Hb3.out hz3 (by omega) rfl rfl rfl ?_
         intro v4 w4 hown4 hb4 hg4 ha4
         rw [List.nil_append, Nat.zero_add] at hown4))
    obtain ⟨A4, c4, rfl, hc4, hm4⟩ := own_form hown4
    have hz4 := hb4.size
    have ha4' := all_any A4 (n + n2) c4 (b ++ more) 20000 w4 (Rd.of_own hown4) (by omega) (by omega)
    have Ha4 := Lib.hid ha4'
    have Hb4 := Lib.hid hb4
    clear ha4 ha4' hown4 hb4 hg4 Hown3 Hb3
    go_wp2_with fail
    refine Ha4.out.mono ?_
    rintro e w5 ⟨hb5, ⟨Y, ny, cy, y, m, rfl, hoc, hrd, hny⟩ | ⟨rfl, hoc⟩ | ⟨E, hE, rfl, hoc⟩⟩
    · obtain ⟨he, _⟩ := HA.out _ _ hoc
      injection he with he
      injection he with he1 he2
      subst he1 he2
      have hb25 := Hb4.out.trans (hb5.mono hz4)
      have hz5 := hb25.size
      have hrx := Hrd.out.below hb25 (Nat.le_refl _)
      have hb15 := Hb12.out.trans (hb25.mono hz2)
      have hrb : Rd w5 w5.heap.size 1 A m (bys (b.take m)) := by
        have := ((Hr.out.below hb15 (Nat.le_refl _)).more hb15.size).bcut (k := 0) (m := m) (by omega) (A' := A) (fun _ => by cases A <;> simp [Addr.add])
        rwa [List.drop_zero] at this
      have ha5 := all_any A m c (b.take m) nx w5 hrb (by omega) (by omega)
      have Ha5 := Lib.hid ha5
      have Hrx := Lib.hid hrx
      have Hry := Lib.hid hrd
      have Hb15 := Lib.hid hb15
      have hmc : (m : Int) ≤ (c : Int) := by omega
      have hm0 : (0 : Int) ≤ (m : Int) := by omega
      have hyl := Hxn.out
      have hny : ny = nx := by have := hrd.blen; omega
      have Hnyx := Lib.hid hny
      have hny2 : ny ≤ 20000 := by omega
      clear ha5 hrx hrd hb15 hb25 hb5 hrb hoc hyl hny Ha4 Hrd
      go_wp2_with fail
      refine Ha5.out.mono ?_
      rintro e w6 ⟨hb6, ⟨Z, nz, cz, z, m2, rfl, hoc, hrd, hnz⟩ | ⟨rfl, hoc⟩ | ⟨E, hE, rfl, hoc⟩⟩
      · obtain ⟨he, _⟩ := HB.out _ _ (by rw [Hxn.out]; exact hoc)
        injection he with he
        injection he with he1 he2
        subst he1 he2
        have hb16 := Hb15.out.trans (hb6.mono Hb15.out.size)
        have hrx := Hrx.out.below hb6 (by omega)
        have hry := Hry.out.below hb6 (Nat.le_refl _)
        have hz6 := hb6.size
        have hnzl : nz ≤ 20000 := by have := hrd.blen; have := Hxn.out; omega
        have hs1 := fun W q (e : W = w6.drewN q) => same_self X Y nx ny cx cy z z W (by subst e; exact Rd.drewN (hrx.more (show w2.heap.size ≤ w6.heap.size by omega)) q) (by subst e; exact Rd.drewN (hry.more (show w5.heap.size ≤ w6.heap.size from hz6)) q) rfl (by omega) (by omega)
        have hs2 := fun W q (e : W = w6.drewN q) => same_self X Z nx nz cx cz z z W (by subst e; exact Rd.drewN (hrx.more (show w2.heap.size ≤ w6.heap.size by omega)) q) (by subst e; exact Rd.drewN hrd q) rfl (by omega) (by omega)
        have Hs1 := Lib.hid hs1
        have Hs2 := Lib.hid hs2
        have Hb16 := Lib.hid hb16
        clear hs1 hs2 hb16 hrx hry hrd hb6 hoc Ha5
        go_wp2_with fail
        refine (Hs1.out _ 0 rfl).mono ?_
        rintro e w7 ⟨rfl, q, rfl⟩
        go_wp2_with fail
        refine (Hs2.out _ q rfl).mono ?_
        rintro e w8 ⟨rfl, q2, rfl⟩
        go_wp2
        go_ret
        exact ⟨rfl, below_drewN Hb16.out _⟩
      · exact absurd (HB.out _ _ (by rw [Hxn.out]; exact hoc)).1 (by simp)
      · exact absurd (HB.out _ _ (by rw [Hxn.out]; exact hoc)).1 (by simp)
    · exact absurd (HA.out _ _ hoc).1 (by simp)
    · exact absurd (HA.out _ _ hoc).1 (by simp)
  · have hb12 := Hb1.out.trans (hb2.mono hz1)
    clear hoc
    go_wp2
    go_ret
    exact ⟨rfl, hb12⟩
  · have hb12 := Hb1.out.trans (hb2.mono hz1)
    have hE1 : (E != 0) = true := by simpa using hE
    clear hoc
    go_wp2
    go_ret
    exact ⟨rfl, hb12⟩
end Go.Proofs.Ytnedboomhbdecaa
