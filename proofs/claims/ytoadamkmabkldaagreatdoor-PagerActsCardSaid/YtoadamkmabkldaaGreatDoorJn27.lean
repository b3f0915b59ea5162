/- Contracts of package pager: parse. -/
import Derived.Test.YtoadamkmabkldaaGreatDoorJn24
import Derived.Test.YtoadamkmabkldaaGreatDoorJn26
set_option linter.unusedVariables false
set_option linter.unusedSimpArgs false
namespace Go.Proofs.YtoadamkmabkldaaGreatDoor
open Go.RowKit Go.Shelf
attribute [local go_sem ↓] Go.wp_at_zero Go.wp_at_succ
/-- The numbers that page 0 tells. -/
def numsH (h : HdP) : List Nat := h.many :: h.free :: h.roots
theorem flat_at : ∀ (l : List Nat) (i : Nat) (x : Nat) (s : List UInt8), l[i]? = some x → (((l.flatMap fun (k : Nat) => leB (k : Int) 4) ++ s).drop (4 * i)).take 4 = leB (x : Int) 4
  | [], i, x, s, h => by simp at h
  | a :: r, 0, x, s, h => by
    have e : a = x := by simpa using h
    subst e
    rw [Nat.mul_zero, List.drop_zero, List.flatMap_cons, List.append_assoc, List.take_append_of_le_length (by rw [leB_len]; omega), List.take_of_length_le (by rw [leB_len]; omega)]
  | a :: r, i + 1, x, s, h => by
    rw [List.flatMap_cons, List.append_assoc, show 4 * (i + 1) = (leB (a : Int) 4).length + 4 * i by rw [leB_len]; omega, ← List.drop_drop, List.drop_left]
    exact flat_at r i x s (by simpa using h)
theorem hdB_flat (h : HdP) : hdB h = markD ++ (numsH h).flatMap fun (k : Nat) => leB (k : Int) 4 := by
  unfold hdB putB numsH natI
  simp [List.flatMap_map]
theorem num_at {h : HdP} {i x : Nat} (hx : (numsH h)[i]? = some x) : ((padB (hdB h)).drop (4 + 4 * i)).take 4 = leB (x : Int) 4 := by
  unfold padB
  generalize List.replicate (508 - (hdB h).length) (0 : UInt8) = z
  rw [hdB_flat, List.append_assoc, show 4 + 4 * i = markD.length + 4 * i from rfl, ← List.drop_drop, List.drop_left]
  exact flat_at _ i x z hx
theorem num_le {h : HdP} {i x : Nat} (hx : (numsH h)[i]? = some x) (hb : x ≤ 65536) : leN (((padB (hdB h)).drop (4 + 4 * i)).take 4) = (x : Int) := by
  rw [num_at hx, leN_leB]
  have : (256 : Int) ^ 4 = 4294967296 := by decide
  rw [this]; omega
theorem mark_at (h : HdP) : (padB (hdB h)).take 4 = markD := by
  unfold padB
  rw [hdB_flat, List.append_assoc, List.take_append_of_le_length (by decide), List.take_of_length_le (by decide)]
set_option maxHeartbeats 1000000 in
set_option maxRecDepth 100000 in
theorem num_any (h : HdP) (i x B c : Nat) (g : Nat) (W : World) (hx : (numsH h)[i]? = some x) (hb : x ≤ 65536) (hi : i ≤ 100) (hl : h.roots.length = 8) (c0 : W.cell? ⟨B, 0, none⟩ = some (.slice (some ⟨g, 0, none⟩) 508 c)) (hr : Rd W W.heap.size 1 (some ⟨g, 0, none⟩) 508 (bys (padB (hdB h)))) (hc : 508 ≤ c) :
    Calls Tryz.prog 92 #[.int .i64 (i : Int), .pointer (some ⟨B, 0, none⟩)] W fun e w' => e = .returned (.int .i64 (x : Int)) ∧ Below W.heap.size W w' := by
  have h4 : (wid 4) = 4 := by decide
  have hG := get_ok (some ⟨g, 0, none⟩) 508 c (4 + 4 * i) 4 (padB (hdB h)) W hr hc (by
    rw [h4]
    have : i < 10 := by
      have := (List.getElem?_eq_some_iff.1 hx).1
      simpa [numsH, hl] using this
    omega) (by omega)
  rw [show (wid 4).toNat = 4 by decide, num_le hx hb] at hG
  obtain ⟨P, hP⟩ : ∃ P : Int, P = ((4 + 4 * i : Nat) : Int) := ⟨_, rfl⟩
  rw [← hP] at hG
  have q1 : IntKind.i64.wrap (4 * (i : Int)) = ((4 * i : Nat) : Int) := by rw [IntWalk.i64_in _ (by omega)]; omega
  obtain ⟨X, hX⟩ : ∃ X : Int, X = ((4 * i : Nat) : Int) := ⟨_, rfl⟩
  rw [← hX] at q1
  have q2 : IntKind.i64.wrap (4 + X) = P := by rw [IntWalk.i64_in _ (by omega)]; omega
  have HG := Lib.hid hG
  clear hG hX hP hx hb hi hl hr hc h4
  go_enter Tryz.func92, Tryz.ntmps92
  go_wp2_with fail
  with_reducible refine HG.out.mono ?_
  rintro e w1 ⟨rfl, b1⟩
  have B1 := Lib.hid b1
  clear b1
  go_wp2_with fail
  go_ret
  exact ⟨rfl, B1.out⟩
/-- A head's cells, so many of its roots known. -/
def hdK (h : HdP) (k : Nat) : Array Value := #[.int .i64 (h.many : Int), .int .i64 (h.free : Int), .int .i64 (if 0 < k then rtH h 0 else 0), .int .i64 (if 1 < k then rtH h 1 else 0), .int .i64 (if 2 < k then rtH h 2 else 0), .int .i64 (if 3 < k then rtH h 3 else 0), .int .i64 (if 4 < k then rtH h 4 else 0), .int .i64 (if 5 < k then rtH h 5 else 0), .int .i64 (if 6 < k then rtH h 6 else 0), .int .i64 (if 7 < k then rtH h 7 else 0)]
theorem hdK_all (h : HdP) : hdK h 8 = (hdL h).toArray := by simp [hdK, hdL]
theorem hdK_step (h : HdP) (k : Nat) (hk : k < 8) : (hdK h k).setIfInBounds (2 + k) (.int .i64 (rtH h k)) = hdK h (k + 1) := by
  match k, hk with
  | 0, _ | 1, _ | 2, _ | 3, _ | 4, _ | 5, _ | 6, _ | 7, _ => simp [hdK]
theorem hdK_at (h : HdP) (k : Nat) (hk : k < 8) : (hdK h (k + 1))[2 + k]? = some (.int .i64 (rtH h k)) := by
  match k, hk with
  | 0, _ | 1, _ | 2, _ | 3, _ | 4, _ | 5, _ | 6, _ | 7, _ => simp [hdK]
theorem hdK_size (h : HdP) (k : Nat) : (hdK h k).size = 10 := rfl
set_option maxHeartbeats 4000000 in
set_option maxRecDepth 100000 in
theorem parse_any (h : HdP) (g c : Nat) (w : World) (hok : h.Ok) (hr : Rd w w.heap.size 1 (some ⟨g, 0, none⟩) 508 (bys (padB (hdB h)))) (hc : 508 ≤ c) :
    Calls Tryz.prog 63 #[.slice (some ⟨g, 0, none⟩) 508 c] w fun e w' => e = .returned (.tuple #[.agg (hdL h).toArray, .bool true]) ∧ Below w.heap.size w w' := by
  obtain ⟨Z, hZ⟩ : ∃ Z : Array Value, Z = #[.int .i64 0, .int .i64 0, .int .i64 0, .int .i64 0, .int .i64 0, .int .i64 0, .int .i64 0, .int .i64 0, .int .i64 0, .int .i64 0] := ⟨_, rfl⟩
  obtain ⟨W3, hW3⟩ : ∃ W3, W3 = ((w.alloc (.cells #[.slice (some ⟨g, 0, none⟩) 508 c] 22)).alloc (.cells Z 65)).alloc (.cells Z 65) := ⟨_, rfl⟩
  have hb3 : Below w.heap.size w W3 := by rw [hW3]; exact (((Below.refl _ w).alloc (Nat.le_refl _) _).alloc (by simp) _).alloc (by simp; omega) _
  have hz3 : W3.heap.size = w.heap.size + 3 := by rw [hW3]; simp
  have hr3 := hr.below hb3 (Nat.le_refl _)
  have hcut := hr3.bcut (k := 0) (m := 4) (by omega) (A' := some ⟨g, 0, none⟩) (fun _ => by simp [addLit])
  rw [List.drop_zero, mark_at h] at hcut
  have hconv : (convert 22 9 (.slice (some ⟨g, 0, none⟩) 4 c)).run Tryz.prog W3 = .ok (.string ⟨#[105, 113, 100, 98]⟩) W3 := conv_bys hcut
  have c0 : W3.cell? ⟨w.heap.size, 0, none⟩ = some (.slice (some ⟨g, 0, none⟩) 508 c) := by
    rw [hW3]; exact ((((Bk.new w 22 _).alloc _).alloc _)).cell 0
  have bR : Bk W3 (w.heap.size + 1) 65 Z := by rw [hW3]; exact (Bk.new' _ _ _ (by simp)).alloc _
  have bH : Bk W3 (w.heap.size + 1 + 1) 65 Z := by rw [hW3]; exact Bk.new' _ _ _ (by simp)
  have HN := Lib.hid (fun W (hc2 : Ch (fun i => i = w.heap.size + 1 ∨ i = w.heap.size + 1 + 1) W3 W) i x (hx : (numsH h)[i]? = some x) (hxb : x ≤ 65536) (hi : i ≤ 100) =>
    num_any h i x w.heap.size c g W hx hxb hi hok.rl (cellAt c0 (hc2.block _ (by omega) (by omega))) ((hr3.ch (hc2.mono (S' := fun i => w.heap.size ≤ i) (fun i e => by omega)) (by omega) (fun i e => e)).more (by have := hc2.size; omega)) hc)
  have hm1 := hok.m1
  have hm2 := hok.m2
  have hfm := hok.fr
  have d1 : decide ((1 : Int) ≤ (h.many : Int)) = true := by rw [decide_eq_true_eq]; omega
  have d2 : decide ((h.many : Int) ≤ 65536) = true := by rw [decide_eq_true_eq]; omega
  have d3 : decide (h.free < h.many) = true := by rw [decide_eq_true_eq]; omega
  have HC := Lib.hid hc
  have HB := Lib.hid (And.intro hb3 (And.intro bR (And.intro bH (And.intro hok (And.intro hz3 hZ)))))
  subst hW3
  clear hb3 hr3 hcut bR bH hr hc hm1 hm2 hfm hok hz3
  subst hZ
  have hc4 : (4 : Int) ≤ (c : Int) := by have := HC.out; omega
  go_enter Tryz.func63, Tryz.ntmps63
  go_wp2_with fail
  have HN0 := Lib.hid (by
    have := HN.out _ (Ch.refl _ _) 0 h.many rfl HB.out.2.2.2.1.m2 (by omega)
    rw [show ((0 : Nat) : Int) = 0 from rfl] at this
    exact this)
  with_reducible refine HN0.out.mono ?_
  rintro e w4 ⟨rfl, b4⟩
  have hc4' : Ch (fun i => i = w.heap.size + 1 ∨ i = w.heap.size + 1 + 1) _ w4 := Ch.of_below b4 (Nat.le_refl _)
  have HN1 := Lib.hid (by
    have := HN.out w4 hc4' 1 h.free rfl (by have := HB.out.2.2.2.1.m2; have := HB.out.2.2.2.1.fr; omega) (by omega)
    rw [show ((1 : Nat) : Int) = 1 from rfl] at this
    exact this)
  have H4 := Lib.hid b4
  clear b4 hc4'
  go_wp2_with fail
  with_reducible refine HN1.out.mono ?_
  rintro e w5 ⟨rfl, b5⟩
  have hb5 := H4.out.trans (b5.mono H4.out.size)
  have k5 : Bk w5 (w.heap.size + 1 + 1) 65 _ := HB.out.2.2.1.below hb5 HB.out.2.2.1.lt
  have e0 : w5.cell? ⟨w.heap.size + 1 + 1, 0, none⟩ = some (.int .i64 0) := k5.cell 0
  have e1 : w5.cell? ⟨w.heap.size + 1 + 1, 1, none⟩ = some (.int .i64 0) := k5.cell 1
  have f0 := k5.free 0
  have f1 := k5.free 1
  have hS : ∀ W, W = (w5.setCell ⟨w.heap.size + 1 + 1, 0, none⟩ (.int .i64 (h.many : Int))).setCell ⟨w.heap.size + 1 + 1, 1, none⟩ (.int .i64 (h.free : Int)) → Bk W (w.heap.size + 1 + 1) 65 (hdK h 0) ∧ Ch (fun i => i = w.heap.size + 1 + 1) w5 W := by
    rintro W rfl
    exact ⟨(k5.set 0 (.int .i64 (h.many : Int))).set 1 (.int .i64 (h.free : Int)), ((Ch.refl (fun i => i = w.heap.size + 1 + 1) w5).set (p := ⟨w.heap.size + 1 + 1, 0, none⟩) (.inl rfl) _).set (p := ⟨w.heap.size + 1 + 1, 1, none⟩) (.inl rfl) _⟩
  obtain ⟨s1, s2⟩ := hS _ rfl
  have HS := Lib.hid (And.intro s1 (And.intro s2 hb5))
  clear k5 s1 s2 hS hb5 b5
  go_wp2_with fail
  have HW := Lib.hid (show Ch (fun i => i = w.heap.size + 1 + 1) _ w5 from Ch.of_below HS.out.2.2 (Nat.le_refl _))
  go_loopw [6, 35] (fun s6 s35 wr => ∃ k : Nat, s35 = .int .i64 (k : Int) ∧ s6 = .bool true ∧ k ≤ 8 ∧ Hid (Bk wr (w.heap.size + 1 + 1) 65 (hdK h k) ∧ Ch (fun i => i = w.heap.size + 1 + 1) w5 wr)) (fun _ s35 _ => 8 - (intOf s35).toNat)
  case atStart => exact ⟨0, rfl, rfl, by omega, Lib.hid ⟨HS.out.1, HS.out.2.1⟩⟩
  case round =>
    obtain ⟨k, rfl, rfl, hk, HI⟩ := hrel
    by_cases hlt : k < 8
    · obtain ⟨x, hx⟩ : ∃ x, h.roots[k]? = some x := ⟨_, List.getElem?_eq_getElem (by rw [HB.out.2.2.2.1.rl]; exact hlt)⟩
      have hxm : x < h.many := HB.out.2.2.2.1.rt x (List.mem_of_getElem? hx)
      have hrt : rtH h k = (x : Int) := by unfold rtH; rw [hx]; rfl
      obtain ⟨P, hP⟩ : ∃ P : Int, P = ((2 + k : Nat) : Int) := ⟨_, rfl⟩
      have q1 : IntKind.i64.wrap (2 + (k : Int)) = P := by rw [IntWalk.i64_in _ (by omega), hP]; omega
      have hchr := ((HW.out.trans HI.out.2 (fun i e => .inl e)).mono (S' := fun i => i = w.heap.size + 1 ∨ i = w.heap.size + 1 + 1) (fun i e => .inr e))
      have HNk := Lib.hid (by
        have := HN.out wr hchr (2 + k) x (by unfold numsH; rw [show 2 + k = k + 1 + 1 by omega]; exact hx) (by have := HB.out.2.2.2.1.m2; omega) (by omega)
        rw [← hP] at this
        exact this)
      have hk8 : (k : Int) < 8 := by omega
      have hk0 : (0 : Int) ≤ (k : Int) := by omega
      have dx : decide (x < h.many) = true := by rw [decide_eq_true_eq]; exact hxm
      have HK := Lib.hid (And.intro hlt hrt)
      clear hchr hx hxm hP hlt hrt
      go_wp2_with fail
      with_reducible refine HNk.out.mono ?_
      rintro e w7 ⟨rfl, b7⟩
      have k7 := HI.out.1.below b7 HI.out.1.lt
      obtain ⟨v, hv⟩ : ∃ v, w7.cell? ⟨w.heap.size + 1 + 1, 2 + k, none⟩ = some v := by
        rw [k7.cell]
        exact ⟨_, Array.getElem?_eq_getElem (by rw [hdK_size]; have := HK.out.1; omega)⟩
      have f7 := k7.free (2 + k)
      have k8 := k7.set (2 + k) (.int .i64 (x : Int))
      rw [← HK.out.2, hdK_step h k HK.out.1, HK.out.2] at k8
      have m0 : (w7.setCell ⟨w.heap.size + 1 + 1, 2 + k, none⟩ (.int .i64 (x : Int))).cell? ⟨w.heap.size + 1 + 1, 0, none⟩ = some (.int .i64 (h.many : Int)) := k8.cell 0
      have m1 : (w7.setCell ⟨w.heap.size + 1 + 1, 2 + k, none⟩ (.int .i64 (x : Int))).cell? ⟨w.heap.size + 1 + 1, 2 + k, none⟩ = some (.int .i64 (x : Int)) := by rw [k8.cell, hdK_at h k HK.out.1, HK.out.2]
      have H7 := Lib.hid (And.intro k8 ((HI.out.2.trans (Ch.of_below (S := fun _ => False) b7 (Nat.le_refl _)) (fun i e => e.elim)).set (p := ⟨w.heap.size + 1 + 1, 2 + k, none⟩) (.inl rfl) (.int .i64 (x : Int))))
      clear k7 k8 b7
      go_wp2_with fail
      go_quiet (fail)
      go_wp2_with fail
      go_roundw
      case rel => exact ⟨k + 1, by first | rfl | (congr 1; omega), rfl, by have := HK.out.1; omega, Lib.hid ⟨H7.out.1, H7.out.2.drewN _⟩⟩
      case measure => have := HK.out.1; simp [intOf]; omega
    · have hk8 : k = 8 := by omega
      subst hk8
      have hbH := HI.out.1
      rw [hdK_all] at hbH
      have hrg : wr.rangeAt (w.heap.size + 1 + 1) 0 (hdL h) := hbH.range fun j _ => by rw [Nat.zero_add, List.getElem?_toArray]
      have hbR := (HB.out.2.1.below HS.out.2.2 (HB.out.2.1.lt)).ch HI.out.2 (by omega)
      have hth : wr.there (w.heap.size + 1) 0 10 := hbR.there (by simp)
      have HL := Lib.hid hrg
      have HT := Lib.hid hth
      clear hbH hrg hth hlt hk
      go_wp2_with (first
        | (with_reducible refine at_load 65 ?_; go_loud ((apply op_ldH (w.heap.size + 1 + 1) 0 h HL.out); (case hx => kernel_rfl); try go_frame))
        | (with_reducible refine at_store 65 ?_; go_loud ((apply op_stH (w.heap.size + 1) 0 h HT.out); (case hx => kernel_rfl); (case hy => kernel_rfl); try go_frame)))
      have bW : Bk (wr.setCells (w.heap.size + 1) 0 (hdL h)) (w.heap.size + 1) 65 (hdL h).toArray := by
        have := bk_setC (hdL h) 0 wr _ hbR
        have e : setA #[.int .i64 0, .int .i64 0, .int .i64 0, .int .i64 0, .int .i64 0, .int .i64 0, .int .i64 0, .int .i64 0, .int .i64 0, .int .i64 0] 0 (hdL h) = (hdL h).toArray := by
          simp only [hdL, setA, List.setIfInBounds_toArray, List.set_cons_succ, List.set_cons_zero]
        rw [e] at this
        exact this
      have s0 : (wr.setCells (w.heap.size + 1) 0 (hdL h)).cell? ⟨w.heap.size + 1, 0, none⟩ = some (.int .i64 (h.many : Int)) := bW.cell 0
      have s1 : (wr.setCells (w.heap.size + 1) 0 (hdL h)).cell? ⟨w.heap.size + 1, 1, none⟩ = some (.int .i64 (h.free : Int)) := bW.cell 1
      have s2 : (wr.setCells (w.heap.size + 1) 0 (hdL h)).cell? ⟨w.heap.size + 1, 2, none⟩ = some (.int .i64 (rtH h 0)) := bW.cell 2
      have s3 : (wr.setCells (w.heap.size + 1) 0 (hdL h)).cell? ⟨w.heap.size + 1, 3, none⟩ = some (.int .i64 (rtH h 1)) := bW.cell 3
      have s4 : (wr.setCells (w.heap.size + 1) 0 (hdL h)).cell? ⟨w.heap.size + 1, 4, none⟩ = some (.int .i64 (rtH h 2)) := bW.cell 4
      have s5 : (wr.setCells (w.heap.size + 1) 0 (hdL h)).cell? ⟨w.heap.size + 1, 5, none⟩ = some (.int .i64 (rtH h 3)) := bW.cell 5
      have s6 : (wr.setCells (w.heap.size + 1) 0 (hdL h)).cell? ⟨w.heap.size + 1, 6, none⟩ = some (.int .i64 (rtH h 4)) := bW.cell 6
      have s7 : (wr.setCells (w.heap.size + 1) 0 (hdL h)).cell? ⟨w.heap.size + 1, 7, none⟩ = some (.int .i64 (rtH h 5)) := bW.cell 7
      have s8 : (wr.setCells (w.heap.size + 1) 0 (hdL h)).cell? ⟨w.heap.size + 1, 8, none⟩ = some (.int .i64 (rtH h 6)) := bW.cell 8
      have s9 : (wr.setCells (w.heap.size + 1) 0 (hdL h)).cell? ⟨w.heap.size + 1, 9, none⟩ = some (.int .i64 (rtH h 7)) := bW.cell 9
      have hfin : Below w.heap.size w (wr.setCells (w.heap.size + 1) 0 (hdL h)) := by
        have h1 := HB.out.1
        have z := HB.out.2.2.2.2.1
        have h2 : Ch (fun i => i = w.heap.size + 1 ∨ i = w.heap.size + 1 + 1) _ (wr.setCells (w.heap.size + 1) 0 (hdL h)) := ((HW.out.trans HI.out.2 (fun i e => .inl e)).mono (S' := fun i => i = w.heap.size + 1 ∨ i = w.heap.size + 1 + 1) (fun i e => .inr e)).trans (ch_setC wr (w.heap.size + 1) 0 _) (fun i e => .inl (.inl e))
        exact h1.trans (h2.below (by omega) (fun i e => by omega))
      generalize wr.setCells (w.heap.size + 1) 0 (hdL h) = WF at *
      clear HN HN0 HN1 HI HW HS HB bW hbR HL HT
      unfold hdL
      exact bodyPost_ret (v := .tuple #[.agg #[.int .i64 (h.many : Int), .int .i64 (h.free : Int), .int .i64 (rtH h 0), .int .i64 (rtH h 1), .int .i64 (rtH h 2), .int .i64 (rtH h 3), .int .i64 (rtH h 4), .int .i64 (rtH h 5), .int .i64 (rtH h 6), .int .i64 (rtH h 7)], .bool true]) (by simp [results, Tryz.results63, go_sem, s0, s1, s2, s3, s4, s5, s6, s7, s8, s9]) rfl ⟨rfl, hfin⟩
end Go.Proofs.YtoadamkmabkldaaGreatDoor
/- Contracts of package pager: again where there is no journal; first. -/
namespace Go.Proofs.YtoadamkmabkldaaGreatDoor
open Go.RowKit Go.Shelf
attribute [local go_sem ↓] Go.wp_at_zero Go.wp_at_succ
set_option maxHeartbeats 2000000 in
set_option maxRecDepth 100000 in
theorem again_zero (f p : Nat) (O : Nat → Prop) (S : FsP) (nm : ByteArray) (w : World) (hF : FsA w O f S) (c0 : w.cell? ⟨p, 0, none⟩ = some (.pointer (some ⟨f, 0, none⟩))) (c1 : w.cell? ⟨p, 1, none⟩ = some (.string nm)) (hs : nm.size ≤ 100) (hl : lenP S (logN nm.data.toList) = some 0) :
    Calls Tryz.prog 36 #[.pointer (some ⟨p, 0, none⟩)] w fun e w' => e = .returned (.int .i64 0) ∧ ∃ q, w' = w.drewN q := by
  have HDB := Lib.hid (fun q => log_any p nm (w.drewN q) c1 (by omega))
  have HLn := Lib.hid (fun q => by
    have := len_at f O S (nm ++ logS) (w.drewN q) (hF.heap (fun _ _ _ => rfl)) (by rw [log_size]; omega)
    unfold lenV at this
    rw [log_list, hl] at this
    exact this)
  clear hF hs hl
  go_enter Tryz.func36, Tryz.ntmps36
  go_wp2_with fail
  go_quiet (first | (go_at_call 35; exact Calls.quiet_of_same (HDB.out _)) | (go_at_call 56; exact Calls.quiet_of_same (HLn.out _)))
  go_wp2_with fail
  go_ret
  exact ⟨rfl, _, rfl⟩
theorem ComR.ret {w w' : World} {O : Nat → Prop} {f p mch mcl : Nat} {nm : ByteArray} {P : PgP} {S : FsP} {D : Nat} {tch tcl : Nat → SlT} {vrow : Value} {e : Ending} (h : ComR w w' O f p mch mcl nm P S D tch tcl vrow e) : ∃ k : Nat, e = .returned (.int .i64 (k : Int)) := by
  obtain ⟨_, _, ⟨_, rfl, _⟩ | ⟨_, rc, _, _, _, rfl, _⟩ | ⟨_, _, _, rfl, _⟩⟩ := h
  · exact ⟨8, rfl⟩
  · exact ⟨rc, rfl⟩
  · exact ⟨0, rfl⟩
def hd0 : HdP := ⟨0, 0, List.replicate 8 0⟩
def hd1 : HdP := ⟨1, 0, List.replicate 8 0⟩
def pg0 : PgP := ⟨hd0, hd0, [], [], fun _ => [], 0, false⟩
theorem pg0_ok (h : HdP) : PgP.Ok { pg0 with now := h } := ⟨List.Pairwise.nil, fun q hq => (by cases hq), List.nodup_nil, Nat.zero_le _, fun k hk => (by cases hk)⟩
set_option maxHeartbeats 4000000 in
set_option maxRecDepth 100000 in
theorem first_new (f p mch mcl : Nat) (O : Nat → Prop) (S : FsP) (nm : ByteArray) (tch tcl : Nat → SlT) (vrow : Value) (w : World) (h : PgM w f p nm pg0 mch mcl tch tcl vrow) (hF : FsA w O f S) (hdis : ∀ i, PgO p mch mcl tch tcl vrow pg0 i → ¬ O i) (hs : nm.size ≤ 100) (hst : S.stamp ≤ 900000)
    (hup : S.down = false) (hdb : lenP S (dbN nm.data.toList) = some 0) :
    Calls Tryz.prog 37 #[.pointer (some ⟨p, 0, none⟩)] w fun e w' => ∃ w1, Ch (fun i => i = p) w w1 ∧ ComR w1 w' O f p mch mcl nm { pg0 with now := hd1 } S 0 tch tcl vrow e := by
  have HDB := Lib.hid (fun q => db_any p nm (w.drewN q) (h.hd.cell 1) (by omega))
  have HLn := Lib.hid (fun q => by
    have := len_at f O S (nm ++ dbS) (w.drewN q) (hF.heap (fun _ _ _ => rfl)) (by rw [db_size]; omega)
    unfold lenV at this
    rw [db_list, hdb] at this
    exact this)
  have c0 : w.cell? ⟨p, 0, none⟩ = some (.pointer (some ⟨f, 0, none⟩)) := h.hd.cell 0
  have HT := Lib.hid (fun q => show (w.drewN q).there p 2 10 from (show Bk (w.drewN q) p 67 _ from h.hd).there (by simp [pgC]))
  have HC := Lib.hid (fun q => by
    have hb : Bk ((w.drewN q).setCells p 2 (hdL hd1)) p 67 _ := pgC_setNow (show Bk (w.drewN q) p 67 _ from h.hd) hd1
    have hc := ch_setC (w.drewN q) p 2 (hdL hd1)
    have hM := (h.heap (W' := w.drewN q) (Nat.le_refl _) (fun _ _ => rfl)).own hd1 hd0 0 false hb hc
    have hF2 := (hF.heap (W' := w.drewN q) (fun _ _ _ => rfl)).ch hc (fun i hi e => hdis i (.inl e) hi)
    exact And.intro (commit_any f p mch mcl O S nm { pg0 with now := hd1 } tch tcl vrow _ 0 hM hF2 hdis (pg0_ok hd1) rfl hs hst (by show 0 < 180; omega) hup hdb (by omega) (by show 1 ≤ 65536; omega)) (((Ch.refl (fun i => i = p) w).drewN q).trans hc (fun i e => .inl e)))
  clear h hF hdis hs hst hup hdb
  go_enter Tryz.func37, Tryz.ntmps37
  go_wp2_with fail
  go_quiet (first | (go_at_call 33; exact Calls.quiet_of_same (HDB.out _)) | (go_at_call 56; exact Calls.quiet_of_same (HLn.out _)))
  go_wp2_with (with_reducible refine at_store 65 ?_; go_loud ((apply op_stH p 2 hd1 (HT.out _)); (case hx => kernel_rfl); (case hy => kernel_rfl); try go_frame))
  with_reducible refine (HC.out _).1.mono ?_
  rintro e w5 hR
  obtain ⟨k, rfl⟩ := hR.ret
  have HR := Lib.hid hR
  clear hR
  go_wp2_with fail
  go_ret
  exact ⟨_, (HC.out _).2, HR.out⟩
/-- What the last region of first reads, and writes. -/
def SFirst (g p : Nat) (h : HdP) (w : World) : Prop := w.rangeAt g 0 (hdL h) ∧ w.there p 2 10 ∧ w.there p 12 10
theorem setA_new (h : HdP) (Z : Array Value) (hz : Z.size = 10) : setA Z 0 (hdL h) = (hdL h).toArray := by
  obtain ⟨l⟩ := Z
  match l, hz with
  | [_, _, _, _, _, _, _, _, _, _], _ => simp only [hdL, setA, List.setIfInBounds_toArray, List.set_cons_succ, List.set_cons_zero]
set_option maxHeartbeats 4000000 in
set_option maxRecDepth 100000 in
theorem first_old (f p : Nat) (O1 O2 : Nat → Prop) (S : FsP) (nm : ByteArray) (h : HdP) (n : Nat) (w : World) (hA : PgA w O2 f p nm pg0) (hF : FsA w O1 f S) (hs : nm.size ≤ 100) (hdb : lenP S (dbN nm.data.toList) = some (n + 1)) (hok : h.Ok) (hH : Holds S nm.data.toList 0 (padB (hdB h))) :
    Calls Tryz.prog 37 #[.pointer (some ⟨p, 0, none⟩)] w fun e w' => e = .returned (.int .i64 0) ∧ PgA w' (fun i => O2 i ∨ w.heap.size ≤ i) f p nm { pgR pg0 0 (padB (hdB h)) with now := h, last := h } ∧ Ch O2 w w' := by
  obtain ⟨c26, c2, c3, c0, hOp, hpl⟩ := pc0 hA rfl
  have c1 : w.cell? ⟨p, 1, none⟩ = some (.string nm) := by
    obtain ⟨mch, mcl, tch, tcl, vrow, h, _⟩ := hA
    exact h.hd.cell 1
  have HDB := Lib.hid (fun q => db_any p nm (w.drewN q) c1 (by omega))
  have HLn := Lib.hid (fun q => by
    have := len_at f O1 S (nm ++ dbS) (w.drewN q) (hF.heap (fun _ _ _ => rfl)) (by rw [db_size]; omega)
    unfold lenV at this
    rw [db_list, hdb] at this
    exact this)
  have HPg := Lib.hid (fun q => by
    have := page_at f p 0 O1 O2 S nm pg0 (padB (hdB h)) (w.drewN q) (hA.heap (W' := w.drewN q) (Nat.le_refl _) (fun _ _ _ => rfl)) (hF.heap (fun _ _ _ => rfl)) hs (pg0_ok hd0) (by omega) (by show 0 ≤ 1000000; omega) (fun _ _ => hH)
    rw [show ((0 : Nat) : Int) = 0 from rfl, show contB pg0 0 (padB (hdB h)) = padB (hdB h) from rfl] at this
    exact this.mono (R' := fun e w' => ∃ g c, e = .returned (.tuple #[.slice (some ⟨g, 0, none⟩) 508 c, .int .i64 0]) ∧ Hid (PgA w' (fun i => O2 i ∨ w.heap.size ≤ i) f p nm (pgR pg0 0 (padB (hdB h))) ∧ Rd w' w'.heap.size 1 (some ⟨g, 0, none⟩) 508 (bys (padB (hdB h))) ∧ 508 ≤ c ∧ Ch O2 w w')) (by
      rintro e w' ⟨t, rfl, k1, k2, k3, k4⟩
      obtain ⟨g, c, rfl, k5, k6, _⟩ := k2.rd2 (padB_len _ (by rw [hdB_len hok.rl]; omega))
      exact ⟨g, c, rfl, Lib.hid ⟨k1, k5, k6, ((Ch.refl O2 w).drewN q).trans k3 (fun i e => .inl e)⟩⟩))
  have HPa := Lib.hid (fun W g c hr hc => parse_any h g c W hok hr hc)
  have hn1 : ¬ ((n + 1 : Nat) : Int) = 0 := by omega
  have HO := Lib.hid (And.intro hOp hpl)
  generalize hR : pgR pg0 0 (padB (hdB h)) = R at *
  clear hA hF hs hdb hok hH c26 c2 c3 hOp hpl c1 hR
  go_enter Tryz.func37, Tryz.ntmps37
  go_wp2_with fail
  go_quiet (first | (go_at_call 33; exact Calls.quiet_of_same (HDB.out _)) | (go_at_call 56; exact Calls.quiet_of_same (HLn.out _)))
  go_wp2_with fail
  with_reducible refine (HPg.out _).mono ?_
  rintro e w2 ⟨g, c, rfl, H2⟩
  have HPa2 := Lib.hid (HPa.out w2 g c H2.out.2.1 H2.out.2.2.1)
  go_wp2_with fail
  with_reducible refine HPa2.out.mono ?_
  rintro e w4 ⟨rfl, b4⟩
  obtain ⟨Z, hZ⟩ : ∃ Z : Array Value, Z = #[.int .i64 0, .int .i64 0, .int .i64 0, .int .i64 0, .int .i64 0, .int .i64 0, .int .i64 0, .int .i64 0, .int .i64 0, .int .i64 0] := ⟨_, rfl⟩
  have hbN : Bk (w4.alloc (.cells Z 65)) w4.heap.size 65 Z := Bk.new w4 _ _
  have hth : (w4.alloc (.cells Z 65)).there w4.heap.size 0 10 := hbN.there (by rw [hZ]; decide)
  have HB4 := Lib.hid b4
  have HT := Lib.hid hth
  have HBN := Lib.hid hbN
  clear b4 hbN hth
  subst hZ
  go_wp2_with (with_reducible refine at_store 65 ?_; go_loud ((apply op_stH w4.heap.size 0 h HT.out); (case hx => kernel_rfl); (case hy => kernel_rfl); try go_frame))
  -- REGION 11
  obtain ⟨mch, mcl, tch, tcl, vrow, h2, hO2⟩ := H2.out.1
  generalize hWW : (w4.alloc (.cells #[.int .i64 0, .int .i64 0, .int .i64 0, .int .i64 0, .int .i64 0, .int .i64 0, .int .i64 0, .int .i64 0, .int .i64 0, .int .i64 0] 65)).setCells w4.heap.size 0 (hdL h) = WW
  obtain ⟨W5, hW5⟩ : ∃ W5, W5 = WW.drew := ⟨_, rfl⟩
  have bT : Bk W5 w4.heap.size 65 (hdL h).toArray := by
    have := bk_setC (hdL h) 0 _ _ HBN.out
    have e := setA_new h #[.int .i64 0, .int .i64 0, .int .i64 0, .int .i64 0, .int .i64 0, .int .i64 0, .int .i64 0, .int .i64 0, .int .i64 0, .int .i64 0] rfl
    rw [e] at this
    rw [hWW] at this
    rw [hW5]
    exact this.drew
  have hb5 : Ch (fun _ => False) w2 W5 := by
    rw [hW5, ← hWW]
    exact (((Ch.of_below (S := fun _ => False) HB4.out (Nat.le_refl _)).alloc _).trans (ch_setC _ w4.heap.size 0 _) (fun i e => .inr (by have := HB4.out.size; omega))).drew
  have h5 := h2.heap (W' := W5) hb5.size (fun i hi => hb5.block i (h2.lt i hi) (fun e => e))
  have hpT : w4.heap.size ≠ p := by have := h2.hd.lt; have := HB4.out.size; omega
  have hS0 : SFirst w4.heap.size p h W5 := ⟨bT.range fun j _ => by rw [Nat.zero_add, List.getElem?_toArray], h5.hd.there (by simp [pgC]), h5.hd.there (by simp [pgC])⟩
  have b6 := pgC_setNow h5.hd h
  have hS1 : SFirst w4.heap.size p h (W5.setCells p 2 (hdL h)) := ⟨(show Bk (W5.setCells p 2 (hdL h)) w4.heap.size 65 (hdL h).toArray from (heap_setCells p _ _ W5 _ hpT).trans bT).range fun j _ => by rw [Nat.zero_add, List.getElem?_toArray], b6.there (by simp [pgC]), b6.there (by simp [pgC])⟩
  have b7 := pgC_setLast b6 h
  have hS2 : SFirst w4.heap.size p h ((W5.setCells p 2 (hdL h)).setCells p 12 (hdL h)) := ⟨(show Bk ((W5.setCells p 2 (hdL h)).setCells p 12 (hdL h)) w4.heap.size 65 (hdL h).toArray from (heap_setCells p _ _ _ _ hpT).trans ((heap_setCells p _ _ W5 _ hpT).trans bT)).range fun j _ => by rw [Nat.zero_add, List.getElem?_toArray], b7.there (by simp [pgC]), b7.there (by simp [pgC])⟩
  have hC7 : Ch (fun i => i = p) W5 ((W5.setCells p 2 (hdL h)).setCells p 12 (hdL h)) := (ch_setC W5 p 2 _).trans (ch_setC _ p 12 _) (fun i e => .inl e)
  have HF := Lib.hid (show PgM ((W5.setCells p 2 (hdL h)).setCells p 12 (hdL h)) f p nm { R with now := h, last := h } mch mcl tch tcl vrow ∧ Ch (fun i => i = p) w2 ((W5.setCells p 2 (hdL h)).setCells p 12 (hdL h)) ∧ (∀ i, PgO p mch mcl tch tcl vrow R i → O2 i ∨ w.heap.size ≤ i) from ⟨h5.own h h R.reads R.dead b7 hC7, (hb5.mono (S' := fun i => i = p) (fun i e => e.elim)).trans hC7 (fun i e => .inl e), hO2⟩)
  subst hW5
  clear hWW h2 hO2 bT hb5 h5 hpT b6 b7 hC7
  refine wp_region_held (S := SFirst w4.heap.size p h) (by kernel_rfl) ?_
  change wpAnyH _ _ _ _ _ _ _ _ WW.drew
  refine wpAnyH_take (i := 0) (oi := { dst := some 42, op := Op.move (Operand.tmp 0), type := 26, pos := "pager.go:98", after := #[], guard := none }) (v := (.pointer (some ⟨p, 0, none⟩))) rfl (by kernel_rfl) (by kernel_rfl) (by kernel_rfl) (fun _ _ _ h => h) (.inl ⟨by rfl, fun w' hw' => ?_⟩) hS0 ?_
  · clear hw'
    go_simp
  try simp only [Act.put, List.setIfInBounds_toArray, List.set_cons_zero, List.set_cons_succ]
  refine wpAnyH_take (i := 1) (oi := { dst := some 43, op := Op.move (Operand.tmp 0), type := 26, pos := "pager.go:98", after := #[{ on := 6, ground := Ground.gcOnly Departure.lateStores }], guard := none }) (v := (.pointer (some ⟨p, 0, none⟩))) rfl (by kernel_rfl) (by kernel_rfl) (by kernel_rfl) (fun _ _ _ h => h) (.inl ⟨by rfl, fun w' hw' => ?_⟩) hS0 ?_
  · clear hw'
    go_simp
  try simp only [Act.put, List.setIfInBounds_toArray, List.set_cons_zero, List.set_cons_succ]
  refine wpAnyH_take (i := 2) (oi := { dst := some 44, op := Op.load 65 (Operand.tmp 7), type := 65, pos := "pager.go:98", after := #[], guard := none }) (v := .agg (hdL h).toArray) rfl (by kernel_rfl) (by kernel_rfl) (by kernel_rfl) (fun _ _ _ h => h) (yieldsIf_load_mid (by rfl) _ _ rfl w4.heap.size 0 (by kernel_rfl) (hdL h) _ (fun w' hw' => hw'.1) Tryz.underlying65 rfl hdI) hS0 ?_
  try simp only [Act.put, List.setIfInBounds_toArray, List.set_cons_zero, List.set_cons_succ]
  refine wpAnyH_take (i := 3) (oi := { dst := some 45, op := Op.load 65 (Operand.tmp 7), type := 65, pos := "pager.go:98", after := #[{ on := 6, ground := Ground.gcOnly Departure.lateStores }], guard := none }) (v := .agg (hdL h).toArray) rfl (by kernel_rfl) (by kernel_rfl) (by kernel_rfl) (fun _ _ _ h => h) (yieldsIf_load_mid (by rfl) _ _ rfl w4.heap.size 0 (by kernel_rfl) (hdL h) _ (fun w' hw' => hw'.1) Tryz.underlying65 rfl hdI) hS0 ?_
  try simp only [Act.put, List.setIfInBounds_toArray, List.set_cons_zero, List.set_cons_succ]
  refine wpAnyH_take (i := 4) (oi := { dst := some 46, op := Op.nilCheck (Operand.tmp 42), type := 0, pos := "pager.go:98", after := #[{ on := 0, ground := Ground.data }, { on := 0, ground := Ground.phase }, { on := 1, ground := Ground.textOnly Departure.lateStores }, { on := 2, ground := Ground.phase }, { on := 3, ground := Ground.textOnly Departure.lateStores }], guard := none }) (v := (.pointer (some ⟨p, 0, none⟩))) rfl (by kernel_rfl) (by kernel_rfl) (by kernel_rfl) (fun _ _ _ h => h) (.inl ⟨by rfl, fun w' hw' => ?_⟩) hS0 ?_
  · clear hw'
    go_simp
  try simp only [Act.put, List.setIfInBounds_toArray, List.set_cons_zero, List.set_cons_succ]
  refine wpAnyH_take (i := 5) (oi := { dst := some 47, op := Op.fieldAddr 67 (Operand.tmp 46) 2, type := 0, pos := "pager.go:98", after := #[{ on := 4, ground := Ground.data }, { on := 0, ground := Ground.phase }, { on := 1, ground := Ground.textOnly Departure.lateStores }, { on := 2, ground := Ground.phase }, { on := 3, ground := Ground.textOnly Departure.lateStores }], guard := none }) (v := (.pointer (some ⟨p, 2, none⟩))) rfl (by kernel_rfl) (by kernel_rfl) (by kernel_rfl) (fun _ _ _ h => h) (.inl ⟨by rfl, fun w' hw' => ?_⟩) hS0 ?_
  · clear hw'
    go_simp
  try simp only [Act.put, List.setIfInBounds_toArray, List.set_cons_zero, List.set_cons_succ]
  refine wpAnyH_ready (rs := [6]) (by kernel_rfl) (by simp) ?_
  obtain ⟨o9, ho9⟩ : ∃ o : Oper, o = { dst := none, op := Op.store 65 (Operand.tmp 47) (Operand.tmp 44), type := 0, pos := "pager.go:98", after := #[{ on := 5, ground := Ground.data }, { on := 2, ground := Ground.data }, { on := 0, ground := Ground.phase }, { on := 1, ground := Ground.textOnly Departure.lateStores }, { on := 2, ground := Ground.phase }, { on := 3, ground := Ground.textOnly Departure.lateStores }], guard := none } := ⟨_, rfl⟩
  refine AllReadyH.cons (o := o9) (by rw [ho9]; kernel_rfl) (fun K hK => ?_) AllReadyH.nil
  refine step_stH (by rw [ho9]) (Operand.tmp 47) (Operand.tmp 44) (by rw [ho9]) p 2 h (hS0.2.1) (by kernel_rfl) (by kernel_rfl) ?_
  rw [ho9]
  clear ho9 o9
  with_reducible refine hK.out _ _ hS1 (fun _ => ?_)
  clear hK K
  try simp only [Act.put, List.setIfInBounds_toArray, List.set_cons_zero, List.set_cons_succ]
  refine wpAnyH_take (i := 7) (oi := { dst := some 48, op := Op.nilCheck (Operand.tmp 43), type := 0, pos := "pager.go:98", after := #[{ on := 1, ground := Ground.data }, { on := 0, ground := Ground.phase }, { on := 1, ground := Ground.phase }, { on := 2, ground := Ground.phase }, { on := 3, ground := Ground.phase }, { on := 4, ground := Ground.phase }, { on := 5, ground := Ground.phase }, { on := 6, ground := Ground.phase }], guard := none }) (v := (.pointer (some ⟨p, 0, none⟩))) rfl (by kernel_rfl) (by kernel_rfl) (by kernel_rfl) (fun _ _ _ h => h) (.inl ⟨by rfl, fun w' hw' => ?_⟩) hS1 ?_
  · clear hw'
    go_simp
  try simp only [Act.put, List.setIfInBounds_toArray, List.set_cons_zero, List.set_cons_succ]
  refine wpAnyH_take (i := 8) (oi := { dst := some 49, op := Op.fieldAddr 67 (Operand.tmp 48) 3, type := 0, pos := "pager.go:98", after := #[{ on := 7, ground := Ground.data }, { on := 0, ground := Ground.phase }, { on := 1, ground := Ground.phase }, { on := 2, ground := Ground.phase }, { on := 3, ground := Ground.phase }, { on := 4, ground := Ground.phase }, { on := 5, ground := Ground.phase }, { on := 6, ground := Ground.phase }], guard := none }) (v := (.pointer (some ⟨p, 12, none⟩))) rfl (by kernel_rfl) (by kernel_rfl) (by kernel_rfl) (fun _ _ _ h => h) (.inl ⟨by rfl, fun w' hw' => ?_⟩) hS1 ?_
  · clear hw'
    go_simp
  try simp only [Act.put, List.setIfInBounds_toArray, List.set_cons_zero, List.set_cons_succ]
  refine wpAnyH_ready (rs := [9]) (by kernel_rfl) (by simp) ?_
  obtain ⟨o9, ho9⟩ : ∃ o : Oper, o = { dst := none, op := Op.store 65 (Operand.tmp 49) (Operand.tmp 45), type := 0, pos := "pager.go:98", after := #[{ on := 8, ground := Ground.data }, { on := 3, ground := Ground.data }, { on := 6, ground := Ground.chain }, { on := 0, ground := Ground.phase }, { on := 1, ground := Ground.phase }, { on := 2, ground := Ground.phase }, { on := 3, ground := Ground.phase }, { on := 4, ground := Ground.phase }, { on := 5, ground := Ground.phase }, { on := 6, ground := Ground.phase }], guard := none } := ⟨_, rfl⟩
  refine AllReadyH.cons (o := o9) (by rw [ho9]; kernel_rfl) (fun K hK => ?_) AllReadyH.nil
  refine step_stH (by rw [ho9]) (Operand.tmp 49) (Operand.tmp 45) (by rw [ho9]) p 12 h (hS1.2.2) (by kernel_rfl) (by kernel_rfl) ?_
  rw [ho9]
  clear ho9 o9
  with_reducible refine hK.out _ _ hS2 (fun _ => ?_)
  clear hK K
  try simp only [Act.put, List.setIfInBounds_toArray, List.set_cons_zero, List.set_cons_succ]
  refine wpAnyH_done (by kernel_rfl) ?_ _
  go_wp2_with fail
  go_ret
  have z2 := H2.out.2.2.2.size
  refine ⟨rfl, ⟨mch, mcl, tch, tcl, vrow, HF.out.1, fun i hi => HF.out.2.2 i hi⟩, H2.out.2.2.2.trans HF.out.2.1 (fun i e => ?_)⟩
  subst e
  exact .inl HO.out.1
end Go.Proofs.YtoadamkmabkldaaGreatDoor
