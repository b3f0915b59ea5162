/- Contracts of package glob: a part. -/
import Derived.Test.YtbdehlphblbmoaaDoorGlbJ
namespace Go.Proofs.YtbdehlphblbmoaaDoor
open Go.RowKit
attribute [local go_sem ↓] Go.wp_at_zero Go.wp_at_succ

/-- What part gives. -/
def PrE (w : World) (rb B : Nat) (R0 : Option (PtP × List Int)) (e : Ending) (w' : World) : Prop :=
  Ch (fun i => i = rb) w w' ∧ match R0 with
    | none => ∃ v, e = .returned (.tuple #[v, .bool false])
    | some (p, k) => ∃ v, e = .returned (.tuple #[v, .bool true]) ∧ PtO w' w.heap.size p v ∧ GRd w' rb B k
theorem PtO.base {W : World} {b b' : Nat} {p : PtP} {v : Value} (h : PtO W b p v) (hb : b' ≤ b) : PtO W b' p v := by
  cases p with
  | lit r => exact h
  | one => exact h
  | stars d => exact h
  | cls n rs =>
    obtain ⟨A, c, A2, c2, h1, h2, h3, h4⟩ := h
    exact ⟨A, c, A2, c2, h1, own_base h2 hb, own_base h3 hb, h4⟩
theorem PtO.pv {W : World} {b : Nat} {p : PtP} {v : Value} (h : PtO W b p v) : PtV W W.heap.size p v := by
  cases p with
  | lit r => exact h
  | one => exact h
  | stars d => exact h
  | cls n rs =>
    obtain ⟨A, c, A2, c2, h1, h2, h3, h4⟩ := h
    exact ⟨A, c, A2, c2, h1, Rd.of_own h2, Rd.of_own h3, h4⟩
theorem PtO.one_ {W : World} {b : Nat} {p : PtP} {v : Value} (h : PtO W b p v) : v.oneCell' = true := by
  cases p with
  | lit r => rw [show v = _ from h]; rfl
  | one => rw [show v = _ from h]; rfl
  | stars d => rw [show v = _ from h]; rfl
  | cls n rs =>
    obtain ⟨A, c, A2, c2, h1, h2, h3, h4⟩ := h
    rw [h1]; rfl
theorem isR_len (c : Int) (l : List Int) : (isR c l).2.length ≤ l.length := by
  cases l with
  | nil => exact Nat.le_refl _
  | cons x m => rw [isR]; split <;> simp
theorem isR_false {c : Int} {l : List Int} (h : (isR c l).1 = false) : (isR c l).2 = l := by
  cases l with
  | nil => rfl
  | cons x m =>
    rw [isR] at h ⊢
    split at h
    · cases h
    · rename_i e; rw [if_neg e]
theorem partR_one {l : List Int} (h : (isR 63 l).1 = true) : partR l = some (.one, (isR 63 l).2) := by unfold partR; rw [if_pos h]
theorem partR_star {l : List Int} (h0 : (isR 63 l).1 = false) (h : (isR 42 l).1 = true) : partR l = some (.stars (isR 42 (isR 42 l).2).1, (isR 42 (isR 42 l).2).2) := by unfold partR; rw [h0, h]; rfl
theorem partR_cls {l : List Int} (h0 : (isR 63 l).1 = false) (h1 : (isR 42 l).1 = false) (h : (isR 91 l).1 = true) : partR l = match clsR ((isR 91 l).2.length + 1) [] (isR 33 (isR 91 l).2).2 with
    | none => none
    | some (rs, k) => some (.cls (isR 33 (isR 91 l).2).1 rs, k) := by unfold partR; rw [h0, h1, h]; rfl
theorem partR_lit {l : List Int} (h0 : (isR 63 l).1 = false) (h1 : (isR 42 l).1 = false) (h : (isR 91 l).1 = false) : partR l = match plainR l with
    | none => none
    | some (c, m) => some (.lit c, m) := by unfold partR; rw [h0, h1, h]; rfl
set_option maxHeartbeats 1000000 in
theorem part_any (rb B : Nat) (l : List Int) (w : World) (h : GRd w rb B l) (hB : B ≤ w.heap.size) (hb : B ≤ rb) :
    Calls Tryd.prog 20 #[.pointer (some ⟨rb, 0, none⟩)] w (PrE w rb B (partR l)) := by
  have H1 := Lib.hid (gis_any rb B l 63 w h hb)
  have H2 := Lib.hid (fun W (h : GRd W rb B l) => gis_any rb B l 42 W h hb)
  have H3 := Lib.hid (fun W l (h : GRd W rb B l) => gis_any rb B l 42 W h hb)
  have H4 := Lib.hid (fun W (h : GRd W rb B l) => gis_any rb B l 91 W h hb)
  have H5 := Lib.hid (fun W l (h : GRd W rb B l) (hB : B ≤ W.heap.size) => class_any rb B (l.length + 1) l W h hB hb (by have := isR_len 33 l; omega))
  have H6 := Lib.hid (fun W (h : GRd W rb B l) (hB : B ≤ W.heap.size) => gplain_any rb B l W h hb hB)
  have Q1 := Lib.hid (@partR_one l)
  have Q2 := Lib.hid (@partR_star l)
  have Q3 := Lib.hid (@partR_cls l)
  have Q4 := Lib.hid (@partR_lit l)
  have Q5 := Lib.hid (fun c => @isR_false c l)
  clear h
  generalize hR : partR l = R0 at *
  clear hR
  generalize hx1 : isR 63 l = X1 at *
  generalize hx2 : isR 42 l = X2 at *
  generalize hx3 : isR 91 l = X3 at *
  have F1 := Lib.hid (show X1.1 = false → X1.2 = l from fun h => by rw [← hx1] at h ⊢; exact isR_false h)
  have F2 := Lib.hid (show X2.1 = false → X2.2 = l from fun h => by rw [← hx2] at h ⊢; exact isR_false h)
  have F3 := Lib.hid (show X3.1 = false → X3.2 = l from fun h => by rw [← hx3] at h ⊢; exact isR_false h)
  clear hx1 hx2 hx3 Q5
  obtain ⟨b1, m1⟩ := X1
  obtain ⟨b2, m2⟩ := X2
  obtain ⟨b3, m3⟩ := X3
  simp only at H1 H2 H4 Q1 Q2 Q3 Q4 F1 F2 F3
  go_enter Tryd.func20, Tryd.ntmps20
  go_wp2_with fail
  with_reducible refine H1.out.mono ?_
  rintro e w1 ⟨rfl, g1, c1⟩
  have G1 := Lib.hid g1
  have C1 := Lib.hid c1
  clear g1 c1 H1
  cases b1
  · have e1 := F1.out (by first | rfl | trivial)
    rw [e1] at G1
    clear e1
    go_wp2_with fail
    with_reducible refine (H2.out w1 G1.out).mono ?_
    rintro e w2 ⟨rfl, g2, c2⟩
    have G2 := Lib.hid g2
    have C2 := Lib.hid (C1.out.trans c2 (fun i hi => .inl hi))
    clear g2 c2 H2 G1 C1
    cases b2
    · have e2 := F2.out (by first | rfl | trivial)
      rw [e2] at G2
      clear e2
      go_wp2_with fail
      with_reducible refine (H4.out w2 G2.out).mono ?_
      rintro e w3 ⟨rfl, g3, c3⟩
      have G3 := Lib.hid g3
      have C3 := Lib.hid (C2.out.trans c3 (fun i hi => .inl hi))
      have hB3 : B ≤ w3.heap.size := by have := C3.out.size; omega
      clear g3 c3 H4 G2 C2
      cases b3
      · have e3 := F3.out (by first | rfl | trivial)
        rw [e3] at G3
        clear e3
        go_wp2_with fail
        with_reducible refine (H6.out w3 G3.out hB3).mono ?_
        rintro e w4 ⟨c, bb, rfl, hp1, hp2, hp3, hp4⟩
        have HE := Lib.hid (show PrE w rb B R0 (.returned (.tuple #[.iface 75 (.int .i32 c), .bool bb])) w4 from by
          rw [Q4.out (by first | rfl | trivial) (by first | rfl | trivial) (by first | rfl | trivial)]
          refine ⟨C3.out.trans hp4 (fun i hi => .inl hi), ?_⟩
          cases bb
          · rw [hp3 rfl]
            exact ⟨_, rfl⟩
          · obtain ⟨m, hm⟩ := hp2 rfl
            rw [hm]
            exact ⟨_, rfl, rfl, hp1 m ⟨hm, rfl⟩⟩)
        clear hp1 hp2 hp3 hp4
        go_wp2_with fail
        go_ret2
        exact HE.out
      · go_wp2_with fail
        with_reducible refine (H5.out w3 m3 G3.out hB3).mono ?_
        intro e w4 hE
        obtain ⟨c4, hE⟩ := hE
        have HQ := Lib.hid (Q3.out (by first | rfl | trivial) (by first | rfl | trivial) (by first | rfl | trivial))
        have hz := C3.out.size
        cases hq : clsR (m3.length + 1) [] (isR 33 m3).2 with
        | none =>
          rw [hq] at hE
          obtain rfl := hE
          have HE := Lib.hid (show PrE w rb B R0 (.returned (.tuple #[.nilIface, .bool false])) w4 from by
            rw [HQ.out, hq]
            exact ⟨C3.out.trans c4 (fun i hi => .inl hi), _, rfl⟩)
          clear c4 hq HQ
          go_wp2_with fail
          go_ret2
          exact HE.out
        | some x =>
          obtain ⟨rs, k⟩ := x
          rw [hq] at hE
          obtain ⟨v, rfl, hv1, hv2⟩ := hE
          have HE := Lib.hid (show PrE w rb B R0 (.returned (.tuple #[v, .bool true])) w4 from by
            rw [HQ.out, hq]
            exact ⟨C3.out.trans c4 (fun i hi => .inl hi), _, rfl, hv1.base hz, hv2⟩)
          clear c4 hq HQ hv1 hv2
          go_wp2_with fail
          go_ret2
          exact HE.out
    · go_wp2_with fail
      with_reducible refine (H3.out w2 m2 G2.out).mono ?_
      rintro e w3 ⟨rfl, g3, c3⟩
      have HE := Lib.hid (show PrE w rb B R0 (.returned (.tuple #[.iface 64 (.agg #[.bool (isR 42 m2).1]), .bool true])) w3 from by
        rw [Q2.out (by first | rfl | trivial) (by first | rfl | trivial)]
        exact ⟨C2.out.trans c3 (fun i hi => .inl hi), _, rfl, rfl, g3⟩)
      clear g3 c3
      go_wp2_with fail
      go_ret2
      exact HE.out
  · have HE := Lib.hid (show PrE w rb B R0 (.returned (.tuple #[.iface 93 (.agg #[]), .bool true])) w1 from by
      rw [Q1.out (by first | rfl | trivial)]
      exact ⟨C1.out, _, rfl, rfl, G1.out⟩)
    go_wp2_with fail
    go_ret2
    exact HE.out
end Go.Proofs.YtbdehlphblbmoaaDoor
