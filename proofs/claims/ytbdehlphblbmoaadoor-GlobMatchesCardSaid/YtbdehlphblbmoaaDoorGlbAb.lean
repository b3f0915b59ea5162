/- The document's patterns: Match. -/
import Derived.Test.YtbdehlphblbmoaaDoorGlbAa
import Derived.Test.YtbdehlphblbmoaaDoorGlbH
import Derived.Test.YtbdehlphblbmoaaDoorOrd
namespace Go.Proofs.YtbdehlphblbmoaaDoor
open Go.RowKit
attribute [local go_sem ↓] Go.wp_at_zero Go.wp_at_succ

/-- A table's row, right from a place on. -/
def TB (ps : List PtP) (l : List Int) (a : List Bool) (j : Nat) : Prop := a.length = ps.length + 1 ∧ ∀ q, j ≤ q → q ≤ ps.length → a[q]? = some (mt (ps.drop q) l)
theorem mt_drop_nil {ps : List PtP} {j : Nat} {p : PtP} (h : ps[j]? = some p) : mt (ps.drop j) [] = (isStar p && mt (ps.drop (j + 1)) []) := by
  have hl := (List.getElem?_eq_some_iff.1 h).1
  rw [List.drop_eq_getElem_cons hl, (List.getElem?_eq_some_iff.1 h).2, mt]
theorem mt_drop_star {ps : List PtP} {j : Nat} {p : PtP} {r : Int} {l : List Int} (h : ps[j]? = some p) (hs : isStar p = true) : mt (ps.drop j) (r :: l) = (mt (ps.drop (j + 1)) (r :: l) || (fitsB p r && mt (ps.drop j) l)) := by
  have hl := (List.getElem?_eq_some_iff.1 h).1
  rw [List.drop_eq_getElem_cons hl, (List.getElem?_eq_some_iff.1 h).2, mt, if_pos hs]
theorem mt_drop_one {ps : List PtP} {j : Nat} {p : PtP} {r : Int} {l : List Int} (h : ps[j]? = some p) (hs : isStar p = false) : mt (ps.drop j) (r :: l) = (fitsB p r && mt (ps.drop (j + 1)) l) := by
  have hl := (List.getElem?_eq_some_iff.1 h).1
  rw [List.drop_eq_getElem_cons hl, (List.getElem?_eq_some_iff.1 h).2, mt, if_neg (by rw [hs]; simp)]
theorem TB.end_nil (ps : List PtP) : TB ps [] ((List.replicate (ps.length + 1) false).set ps.length true) ps.length := by
  refine ⟨by simp, fun q h1 h2 => ?_⟩
  obtain rfl : q = ps.length := by omega
  rw [List.getElem?_set, if_pos rfl, if_pos (by simp), List.drop_length, mt]
theorem TB.end_cons (ps : List PtP) (r : Int) (l : List Int) : TB ps (r :: l) (List.replicate (ps.length + 1) false) ps.length := by
  refine ⟨by simp, fun q h1 h2 => ?_⟩
  obtain rfl : q = ps.length := by omega
  rw [List.getElem?_replicate, if_pos (by omega), List.drop_length, mt]
theorem TB.put {ps : List PtP} {l : List Int} {a : List Bool} {j : Nat} (h : TB ps l a (j + 1)) (hj : j < ps.length) {b : Bool} (hb : b = mt (ps.drop j) l) : TB ps l (a.set j b) j := by
  refine ⟨by rw [List.length_set]; exact h.1, fun q h1 h2 => ?_⟩
  rw [List.getElem?_set]
  by_cases e : j = q
  · subst e
    rw [if_pos rfl, if_pos (by rw [h.1]; omega), hb]
  · rw [if_neg e]
    exact h.2 q (by omega) h2
set_option maxHeartbeats 4000000 in
set_option maxRecDepth 100000 in
theorem dmatch_any (A AL : Option Addr) (c n cL B : Nat) (ps : List PtP) (L : List Int) (E : Int) (w : World) (hp : RdPs w B A ps) (hr : Rd w B 1 AL n (its L)) (hB : B ≤ w.heap.size) (hm : ps.length ≤ 1000) (hn : n ≤ 1000000) :
    Calls Tryd.prog 13 #[.agg #[.slice A ps.length c, .int .i64 E], .slice AL n cL] w fun e w' => e = .returned (.bool (mt ps L)) ∧ Below w.heap.size w w' := by
  have Hpart := Lib.hid (fun W (hb : Below w.heap.size w W) i p (hi : ps[i]? = some p) => (hp.keep (W' := W) (fun q hq => hb.cell (by omega))).at_ hi)
  have Hrune := Lib.hid (fun W (hb : Below w.heap.size w W) j (hj : j < n) => (hr.below hb hB).num hj)
  have Hl := Lib.hid hr.ilen
  clear hp hr
  have Hmt := Lib.hid (show mt ps L = mt (ps.drop 0) (L.drop 0) from rfl)
  obtain ⟨m, hm'⟩ : ∃ m, ps.length = m := ⟨_, rfl⟩
  have Hm := Lib.hid hm'
  rw [hm'] at hm ⊢
  clear hm'
  have hb2 := Bk.new w 32 #[.slice A m c, .int .i64 E]
  have hmk := fun w => mk_bls (m + 1) ((m : Int) + 1) ((m : Int) + 1) (by omega) (by omega) (by omega) w
  have c0 : (w.alloc (.cells #[.slice A m c, .int .i64 E] 32)).cell? ⟨w.heap.size, 0, none⟩ = some (.slice A m c) := hb2.cell 0
  have HB2 := Lib.hid (hb2.alloc (.cells (bls (List.replicate (m + 1) false)).toArray 4))
  have HN := Lib.hid (Bk.new' (w.alloc (.cells #[.slice A m c, .int .i64 E] 32)) 4 (bls (List.replicate (m + 1) false)).toArray (g := w.heap.size + 1) (by simp))
  have HW := Lib.hid (((Below.refl w.heap.size w).alloc (Nat.le_refl _) (.cells #[.slice A m c, .int .i64 E] 32)).alloc (by simp) (.cells (bls (List.replicate (m + 1) false)).toArray 4))
  have q0 : IntKind.i64.wrap ((m : Int) + 1) = (m : Int) + 1 := IntWalk.i64_in _ (by omega)
  have q1 : IntKind.i64.wrap ((m : Int) - 1) = (m : Int) - 1 := IntWalk.i64_in _ (by omega)
  clear hb2
  go_enter Tryd.func13, Tryd.ntmps13
  go_upto_region 2 with (fail)
  clear c0
  generalize ((w.alloc (.cells #[.slice A m c, .int .i64 E] 32)).alloc (.cells (bls (List.replicate (m + 1) false)).toArray 4)) = w1 at *
  have c0 : w1.cell? ⟨w.heap.size, 0, none⟩ = some (.slice A m c) := HB2.out.cell 0
  have k0 : w1.cell? ⟨w.heap.size + 1, m, none⟩ = some (.bool false) := (HN.out.cell m).trans (bls_at (by simp))
  have f0 : w1.frozen? ⟨w.heap.size + 1, m, none⟩ = false := HN.out.free m
  have HN2 := Lib.hid (show Bk (w1.setCell ⟨w.heap.size + 1, m, none⟩ (.bool true)) (w.heap.size + 1) 4 (bls ((List.replicate (m + 1) false).set m true)).toArray from by have := HN.out.set m (.bool true); rwa [bls_set] at this)
  have HB22 := Lib.hid (HB2.out.far (p := ⟨w.heap.size + 1, m, none⟩) (by show w.heap.size ≠ w.heap.size + 1; omega) (.bool true))
  have HW2 := Lib.hid (HW.out.setCell (p := ⟨w.heap.size + 1, m, none⟩) (by show w.heap.size ≤ w.heap.size + 1; omega) (.bool true))
  have HT := Lib.hid (show TB ps [] ((List.replicate (m + 1) false).set m true) m from by have := TB.end_nil ps; rw [Hm.out] at this; exact this)
  clear HB2 HN HW hmk
  have hm0 : (m : Int) < (m : Int) + 1 := by omega
  have hm1 : m < m + 1 := by omega
  go_upto_region 3 with (fail)
  generalize w1.setCell ⟨w.heap.size + 1, m, none⟩ (.bool true) = w2 at *
  clear c0 k0 f0
  have c0 : w2.cell? ⟨w.heap.size, 0, none⟩ = some (.slice A m c) := HB22.out.cell 0
  go_wp2_with fail
  go_loopw [6] (fun v6 wr => ∃ j : Nat, v6 = .int .i64 ((j : Int) - 1) ∧ j ≤ m ∧ Hid (∃ a, TB ps [] a j ∧ Bk wr (w.heap.size + 1) 4 (bls a).toArray ∧ Bk wr w.heap.size 32 #[.slice A m c, .int .i64 E] ∧ Below w.heap.size w wr)) (fun v6 _ => (intOf v6 + 1).toNat)
  case atStart => exact ⟨m, rfl, Nat.le_refl _, Lib.hid ⟨_, HT.out, HN2.out, HB22.out, HW2.out⟩⟩
  case round =>
    obtain ⟨j, rfl, hj, HI⟩ := hrel
    obtain ⟨a, i1, i2, i3, i4⟩ := HI.out
    clear HI HT HN2 HB22 HW2 c0
    have c0 : wr.cell? ⟨w.heap.size, 0, none⟩ = some (.slice A m c) := i3.cell 0
    cases j with
    | zero =>
      have e0 : ((0 : Nat) : Int) - 1 = -1 := rfl
      have HS := Lib.hid (show ∃ a, TB ps (L.drop n) a 0 ∧ Bk wr (w.heap.size + 1) 4 (bls a).toArray ∧ Bk wr w.heap.size 32 #[.slice A m c, .int .i64 E] ∧ Below w.heap.size w wr from
        ⟨a, by rw [List.drop_of_length_le (by rw [Hl.out]; omega)]; exact i1, i2, i3, i4⟩)
      have qn : IntKind.i64.wrap ((n : Int) - 1) = (n : Int) - 1 := IntWalk.i64_in _ (by omega)
      clear i1 i2 i3 i4
      rw [e0]
      go_wp2_with fail
      clear hj
      go_loopw [5, 7] (fun v5 v7 wr => ∃ (j ba : Nat), v7 = .int .i64 ((j : Int) - 1) ∧ j ≤ n ∧ v5 = .slice (some ⟨ba, 0, none⟩) (m + 1) (m + 1) ∧ w.heap.size + 1 ≤ ba ∧ Hid (∃ a, TB ps (L.drop j) a 0 ∧ Bk wr ba 4 (bls a).toArray ∧ Bk wr w.heap.size 32 #[.slice A m c, .int .i64 E] ∧ Below w.heap.size w wr)) (fun _ v7 _ => (intOf v7 + 1).toNat)
      case atStart => exact ⟨n, _, rfl, Nat.le_refl _, rfl, Nat.le_refl _, HS⟩
      case round =>
        clear HS c0
        obtain ⟨j, ba, rfl, hj, rfl, hba, HI⟩ := hrel
        obtain ⟨a, a1, a2, a3, a4⟩ := HI.out
        clear HI
        have c0 : wr.cell? ⟨w.heap.size, 0, none⟩ = some (.slice A m c) := a3.cell 0
        cases j with
        | zero =>
          have e0 : ((0 : Nat) : Int) - 1 = -1 := rfl
          have hv := a1.2 0 (Nat.le_refl _) (Nat.zero_le _)
          have k0 : wr.cell? ⟨ba, 0, none⟩ = some (.bool (mt (ps.drop 0) (L.drop 0))) := (a2.cell 0).trans (bls_at hv)
          have HW := Lib.hid a4
          rw [← Hmt.out] at k0
          clear a1 a2 a3 a4 hv
          rw [e0]
          have g0 : (0 : Int) < (m : Int) + 1 := by omega
          have g1 : 0 < m + 1 := by omega
          go_wp2_with fail
          go_ret
          exact ⟨rfl, HW.out⟩
        | succ j =>
          have e0 : ((j + 1 : Nat) : Int) - 1 = (j : Int) := by omega
          obtain ⟨bL, oL, r, hAL, hbL, hrj, hcj⟩ := Hrune.out wr a4 j (by omega)
          have hdL : L.drop j = r :: L.drop (j + 1) := drop_cons hrj
          have hmk := fun w => mk_bls (m + 1) ((m : Int) + 1) ((m : Int) + 1) (by omega) (by omega) (by omega) w
          have hN := Bk.new wr 4 (bls (List.replicate (m + 1) false)).toArray
          have c1 : (wr.alloc (.cells (bls (List.replicate (m + 1) false)).toArray 4)).cell? ⟨w.heap.size, 0, none⟩ = some (.slice A m c) := (a3.alloc _).cell 0
          have A1 := Lib.hid a1
          have A2 := Lib.hid (a2.alloc (.cells (bls (List.replicate (m + 1) false)).toArray 4))
          have A3 := Lib.hid (a3.alloc (.cells (bls (List.replicate (m + 1) false)).toArray 4))
          have A4 := Lib.hid (a4.alloc a4.size (.cells (bls (List.replicate (m + 1) false)).toArray 4))
          have HN := Lib.hid hN
          have hbn : ba < wr.heap.size := a2.lt
          have hgn : w.heap.size < wr.heap.size := a3.lt
          have HT := Lib.hid (show TB ps (L.drop j) (List.replicate (m + 1) false) m from by have := TB.end_cons ps r (L.drop (j + 1)); rw [Hm.out, ← hdL] at this; exact this)
          have HdL := Lib.hid hdL
          rw [e0]
          clear a1 a2 a3 a4 hN hcj hdL e0
          go_upto_region 11 with (fail)
          generalize hbb : wr.heap.size = bn at *
          clear hbb hmk
          generalize wr.alloc (.cells (bls (List.replicate (m + 1) false)).toArray 4) = wy at *
          go_wp2_with fail
          go_loopw [9] (fun v9 wz => ∃ i : Nat, v9 = .int .i64 ((i : Int) - 1) ∧ i ≤ m ∧ Hid (∃ a', TB ps (L.drop j) a' i ∧ Bk wz bn 4 (bls a').toArray ∧ Ch (fun k => k = bn) wy wz)) (fun v9 _ => (intOf v9 + 1).toNat)
          case atStart => exact ⟨m, rfl, Nat.le_refl _, Lib.hid ⟨_, HT.out, HN.out, Ch.refl _ _⟩⟩
          case round =>
            clear HT HN
            obtain ⟨i, rfl, hi, HI⟩ := hrel
            obtain ⟨a', b1, b2, b3⟩ := HI.out
            clear HI c1
            have hW4 : Below w.heap.size w wr := A4.out.trans (b3.below (B := w.heap.size) A4.out.size (fun k hk => by omega))
            have c1 : wr.cell? ⟨w.heap.size, 0, none⟩ = some (.slice A m c) := (A3.out.ch b3 (by omega)).cell 0
            cases i with
            | zero =>
              have e0 : ((0 : Nat) : Int) - 1 = -1 := rfl
              have HS := Lib.hid (show ∃ a, TB ps (L.drop j) a 0 ∧ Bk wr bn 4 (bls a).toArray ∧ Bk wr w.heap.size 32 #[.slice A m c, .int .i64 E] ∧ Below w.heap.size w wr from ⟨a', b1, b2, A3.out.ch b3 (by omega), hW4⟩)
              have qj : IntKind.i64.wrap ((j : Int) - 1) = (j : Int) - 1 := IntWalk.i64_in _ (by omega)
              clear b1 b2 b3 hW4 A1 A2 A3 A4 HdL
              rw [e0]
              go_wp2_with fail
              go_roundw
              case rel => exact ⟨j, bn, rfl, by omega, rfl, by omega, HS⟩
              case measure => simp [intOf] <;> omega
            | succ i =>
              have e0 : ((i + 1 : Nat) : Int) - 1 = (i : Int) := by omega
              obtain ⟨p, hpi⟩ : ∃ p, ps[i]? = some p := ⟨_, List.getElem?_eq_getElem (by rw [Hm.out]; omega)⟩
              have hv1 := b1.2 (i + 1) (Nat.le_refl _) (by rw [Hm.out]; omega)
              have hx1 := A1.out.2 i (Nat.zero_le _) (by rw [Hm.out]; omega)
              have hx2 := A1.out.2 (i + 1) (Nat.zero_le _) (by rw [Hm.out]; omega)
              have hlen := b1.1
              rw [Hm.out] at hlen
              obtain ⟨y, hy⟩ : ∃ y, a'[i]? = some y := ⟨_, List.getElem?_eq_getElem (by omega)⟩
              have hmt0 : ∀ l, isStar p = true → mt (ps.drop i) (r :: l) = (mt (ps.drop (i + 1)) (r :: l) || (fitsB p r && mt (ps.drop i) l)) := fun l h => mt_drop_star hpi h
              have hmt1 : ∀ l, isStar p = false → mt (ps.drop i) (r :: l) = (fitsB p r && mt (ps.drop (i + 1)) l) := fun l h => mt_drop_one hpi h
              have hmtS := hmt0 (L.drop (j + 1))
              have hmtO := hmt1 (L.drop (j + 1))
              rw [← HdL.out] at hmtS hmtO
              have HmtS := Lib.hid hmtS
              have HmtO := Lib.hid hmtO
              have hA2 := A2.out.ch b3 (by omega)
              have HF0 : Hid (∀ W4, Below wr.heap.size wr W4 → ∀ W5, Below W4.heap.size W4 W5 → ∀ bv, bv = mt (ps.drop i) (L.drop j) → ∃ a', TB ps (L.drop j) a' i ∧ Bk (W5.setCell ⟨bn, i, none⟩ (.bool bv)) bn 4 (bls a').toArray ∧ Ch (fun k => k = bn) wy (W5.setCell ⟨bn, i, none⟩ (.bool bv))) := Lib.hid (fun W4 hb4 W5 hb5 bv hbv => by
                have hbb : Below wr.heap.size wr W5 := hb4.trans (hb5.mono hb4.size)
                have hcc : Ch (fun k => k = bn) wy W5 := b3.trans (Ch.of_below (S := fun _ => False) hbb (Nat.le_refl _)) (fun _ h => h.elim)
                exact ⟨a'.set i bv, b1.put (by rw [Hm.out]; omega) hbv, by have := (b2.below hbb b2.lt).set i (.bool bv); rwa [bls_set] at this, hcc.set (p := ⟨bn, i, none⟩) (.inl rfl) _⟩)
              obtain ⟨b, o, y1, y2, Ax, n3, c3, Ay, n4, c4, hA, hb, hD, k0, k1, k2, k3, k4⟩ := Hpart.out wr hW4 i p hpi
              have hz : bn < wr.heap.size := b2.lt
              have q2 : IntKind.i64.wrap ((i : Int) + 1) = (i : Int) + 1 := IntWalk.i64_in _ (by omega)
              have q3 : IntKind.i64.wrap ((i : Int) - 1) = (i : Int) - 1 := IntWalk.i64_in _ (by omega)
              have g0 : (0 : Int) ≤ (i : Int) := by omega
              have g1 : (i : Int) < (m : Int) + 1 := by omega
              have g2 : (i : Int) + 1 < (m : Int) + 1 := by omega
              have g3 : (i : Int) < (m : Int) := by omega
              have g4 : i < m + 1 := by omega
              have g5 : i + 1 < m + 1 := by omega
              have g6 : i < m := by omega
              have hB4 := (Below.refl wr.heap.size wr).alloc (Nat.le_refl _) (.cells #[.int .i64 (kindOf p), .int .i64 y1, .bool y2, .slice Ax n3 c3, .slice Ay n4 c4] 66)
              have hW5 : Below w.heap.size w (wr.alloc (.cells #[.int .i64 (kindOf p), .int .i64 y1, .bool y2, .slice Ax n3 c3, .slice Ay n4 c4] 66)) := hW4.trans (hB4.mono hW4.size)
              have HF := Lib.hid (HF0.out _ hB4)
              have hba4 := (hA2.below hB4 (by omega))
              have hbn4 := (b2.below hB4 (by omega))
              have n10 := Bk.new wr 66 #[.int .i64 (kindOf p), .int .i64 y1, .bool y2, .slice Ax n3 c3, .slice Ay n4 c4]
              obtain ⟨bL', oL', r', hAL', _, hrj', hcL⟩ := Hrune.out _ hW5 j (by omega)
              have hrr : r' = r := by rw [hrj] at hrj'; injection hrj' with h; exact h.symm
              rw [hrr] at hcL
              rw [hAL] at hAL'
              injection hAL' with hAL'
              injection hAL' with ea1 ea2 _
              subst ea1 ea2
              have l1 : (wr.alloc (.cells #[.int .i64 (kindOf p), .int .i64 y1, .bool y2, .slice Ax n3 c3, .slice Ay n4 c4] 66)).cell? ⟨bn, i + 1, none⟩ = some (.bool (mt (ps.drop (i + 1)) (L.drop j))) := (hbn4.cell (i + 1)).trans (bls_at hv1)
              have l2 : (wr.alloc (.cells #[.int .i64 (kindOf p), .int .i64 y1, .bool y2, .slice Ax n3 c3, .slice Ay n4 c4] 66)).cell? ⟨bn, i, none⟩ = some (.bool y) := (hbn4.cell i).trans (bls_at hy)
              have l3 : (wr.alloc (.cells #[.int .i64 (kindOf p), .int .i64 y1, .bool y2, .slice Ax n3 c3, .slice Ay n4 c4] 66)).frozen? ⟨bn, i, none⟩ = false := hbn4.free i
              have l4 : (wr.alloc (.cells #[.int .i64 (kindOf p), .int .i64 y1, .bool y2, .slice Ax n3 c3, .slice Ay n4 c4] 66)).cell? ⟨ba, i, none⟩ = some (.bool (mt (ps.drop i) (L.drop (j + 1)))) := (hba4.cell i).trans (bls_at hx1)
              have l5 : (wr.alloc (.cells #[.int .i64 (kindOf p), .int .i64 y1, .bool y2, .slice Ax n3 c3, .slice Ay n4 c4] 66)).cell? ⟨ba, i + 1, none⟩ = some (.bool (mt (ps.drop (i + 1)) (L.drop (j + 1)))) := (hba4.cell (i + 1)).trans (bls_at hx2)
              have m0 : (wr.alloc (.cells #[.int .i64 (kindOf p), .int .i64 y1, .bool y2, .slice Ax n3 c3, .slice Ay n4 c4] 66)).cell? ⟨wr.heap.size, 0, none⟩ = some (.int .i64 (kindOf p)) := n10.cell 0
              have N10 := Lib.hid n10
              have HBa := Lib.hid hba4
              have HBn := Lib.hid hbn4
              have HD := Lib.hid (hD.keep (W' := wr.alloc (.cells #[.int .i64 (kindOf p), .int .i64 y1, .bool y2, .slice Ax n3 c3, .slice Ay n4 c4] 66)) (fun q hq => hB4.cell (by have := hW4.size; omega)))
              have HW5 := Lib.hid hW5
              subst hA hAL
              rw [e0]
              clear hmt0 hmt1 hmtS hmtO b1 b2 b3 hv1 hx1 hx2 hlen hy hpi hA2 HF0 hB4 hW5 hba4 hbn4 n10 hW4 hD hrj' hrr hrj e0
              go_upto_region 15 with (fail)
              clear k0 k1 k2 k3 k4 c1
              generalize hw4 : wr.alloc (.cells #[.int .i64 (kindOf p), .int .i64 y1, .bool y2, .slice Ax n3 c3, .slice Ay n4 c4] 66) = w4 at *
              clear hw4
              generalize wr.heap.size = g10 at *
              generalize mt (ps.drop (i + 1)) (L.drop j) = n1 at *
              generalize mt (ps.drop i) (L.drop (j + 1)) = x1 at *
              generalize mt (ps.drop (i + 1)) (L.drop (j + 1)) = x2 at *
              cases hst : isStar p with
              | true =>
                obtain ⟨d, rfl⟩ : ∃ d, p = .stars d := by
                  cases p with
                  | stars d => exact ⟨d, rfl⟩
                  | lit _ => cases hst
                  | one => cases hst
                  | cls _ _ => cases hst
                have Hmt := Lib.hid (HmtS.out hst)
                clear HmtS HmtO hst HD N10 HBa HBn
                cases d with
                  | true =>
                    rw [show kindOf (.stars true) = 3 from rfl] at *
                    cases n1 with
                    | true =>
                      have hmt : mt (ps.drop i) (L.drop j) = true := by rw [Hmt.out]; simp
                      have HX := Lib.hid (HF.out _ (Below.refl _ _) true (by rw [hmt]))
                      clear HF hmt
                      go_wp2_with fail
                      go_roundw
                      case rel => exact ⟨i, rfl, by omega, HX⟩
                      case measure => simp [intOf] <;> omega
                    | false =>
                      cases x1 with
                      | false =>
                        have hmt : mt (ps.drop i) (L.drop j) = false := by rw [Hmt.out]; simp
                        have HX := Lib.hid (HF.out _ (Below.refl _ _) false (by rw [hmt]))
                        clear HF hmt
                        go_wp2_with fail
                        go_roundw
                        case rel => exact ⟨i, rfl, by omega, HX⟩
                        case measure => simp [intOf] <;> omega
                      | true =>
                        have hmt : mt (ps.drop i) (L.drop j) = true := by rw [Hmt.out]; simp [fitsB]
                        have HX := Lib.hid (HF.out _ (Below.refl _ _) true (by rw [hmt]))
                        clear HF hmt
                        go_wp2_with fail
                        go_roundw
                        case rel => exact ⟨i, rfl, by omega, HX⟩
                        case measure => simp [intOf] <;> omega
                  | false =>
                    rw [show kindOf (.stars false) = 2 from rfl] at *
                    cases n1 with
                    | true =>
                      have hmt : mt (ps.drop i) (L.drop j) = true := by rw [Hmt.out]; simp
                      have HX := Lib.hid (HF.out _ (Below.refl _ _) true (by rw [hmt]))
                      clear HF hmt
                      go_wp2_with fail
                      go_roundw
                      case rel => exact ⟨i, rfl, by omega, HX⟩
                      case measure => simp [intOf] <;> omega
                    | false =>
                      cases x1 with
                      | false =>
                        have hmt : mt (ps.drop i) (L.drop j) = false := by rw [Hmt.out]; simp
                        have HX := Lib.hid (HF.out _ (Below.refl _ _) false (by rw [hmt]))
                        clear HF hmt
                        go_wp2_with fail
                        go_roundw
                        case rel => exact ⟨i, rfl, by omega, HX⟩
                        case measure => simp [intOf] <;> omega
                      | true =>
                        by_cases hr47 : r = 47
                        · have hmt : mt (ps.drop i) (L.drop j) = false := by rw [Hmt.out, hr47]; simp [fitsB]
                          have hr' : (r != 47) = false := by simpa using hr47
                          clear hr47
                          have HX := Lib.hid (HF.out _ (Below.refl _ _) false (by rw [hmt]))
                          clear HF hmt
                          go_wp2_with fail
                          go_roundw
                          case rel => exact ⟨i, rfl, by omega, HX⟩
                          case measure => simp [intOf] <;> omega
                        · have hmt : mt (ps.drop i) (L.drop j) = true := by rw [Hmt.out]; simp [fitsB]; exact hr47
                          have hr' : (r != 47) = true := by simpa using hr47
                          clear hr47
                          have HX := Lib.hid (HF.out _ (Below.refl _ _) true (by rw [hmt]))
                          clear HF hmt
                          go_wp2_with fail
                          go_roundw
                          case rel => exact ⟨i, rfl, by omega, HX⟩
                          case measure => simp [intOf] <;> omega
              | false =>
                have p1 : (0 : Int) ≤ (i : Int) + 1 := by omega
                have p2 : ((i : Int) + 1).toNat = i + 1 := by omega
                have p3 : (j : Int) < (n : Int) := by omega
                have p4 : (0 : Int) ≤ (j : Int) := by omega
                have hk := kind_star p
                rw [hst] at hk
                have hk' : (kindOf p == 2) = false ∧ (kindOf p == 3) = false := by
                  cases h2 : (kindOf p == 2) with
                  | true => rw [h2] at hk; cases hk
                  | false => rw [h2] at hk; exact ⟨rfl, hk.symm⟩
                obtain ⟨h2, h3⟩ := hk'
                have Hmt := Lib.hid (HmtO.out hst)
                have HFt := Lib.hid (dfit_any p _ _ _ _ B r w4.drew HD.out (by show B ≤ w4.heap.size; have := HW5.out.size; omega) hst)
                have m1 : w4.cell? ⟨g10, 1, none⟩ = some (.int .i64 y1) := N10.out.cell 1
                have m2 : w4.cell? ⟨g10, 2, none⟩ = some (.bool y2) := N10.out.cell 2
                have m3 : w4.cell? ⟨g10, 3, none⟩ = some (.slice Ax n3 c3) := N10.out.cell 3
                have m4 : w4.cell? ⟨g10, 4, none⟩ = some (.slice Ay n4 c4) := N10.out.cell 4
                clear HmtS HmtO hst hk HD
                generalize kindOf p = K at *
                cases x2 with
                | false =>
                  have HX := Lib.hid (HF.out w4.drew (Below.refl _ _).drew false (by rw [Hmt.out]; simp))
                  clear HF HFt Hmt
                  have l5' : ({ heap := w4.heap, tape := w4.tape, drawn := w4.drawn + 1, os := w4.os, output := w4.output } : World).cell? ⟨ba, i + 1, none⟩ = some (.bool false) := l5
                  go_wp2_with fail
                  refine wp_region_u 16 (fun W => W.heap = w4.heap) (by kernel_rfl) (fun hcl0 => ?_)
                  refine wpAnyU_take0 (i := 0) (v := .slice (some ⟨bn, 0, none⟩) (m + 1) (m + 1)) hcl0 rfl (by kernel_rfl) (by kernel_rfl) (by kernel_rfl) (by decide) (fun _ _ _ h => h) (.inl ⟨by rfl, fun w' _ => ?_⟩) (fun _ => rfl) (fun hcl1 => ?_)
                  · go_simp
                  clear hcl0
                  try go_frame
                  refine wpAnyU_take0 (i := 1) (v := .int .i64 (i : Int)) hcl1 rfl (by kernel_rfl) (by kernel_rfl) (by kernel_rfl) (by decide) (fun _ _ _ h => h) (.inl ⟨by rfl, fun w' _ => ?_⟩) (fun _ => rfl) (fun hcl2 => ?_)
                  · go_simp
                  clear hcl1
                  try go_frame
                  refine wpAnyU_take0 (i := 2) (v := .slice (some ⟨ba, 0, none⟩) (m + 1) (m + 1)) hcl2 rfl (by kernel_rfl) (by kernel_rfl) (by kernel_rfl) (by decide) (fun _ _ _ h => h) (.inl ⟨by rfl, fun w' _ => ?_⟩) (fun _ => rfl) (fun hcl3 => ?_)
                  · go_simp
                  clear hcl2
                  try go_frame
                  refine wpAnyU_take0 (i := 3) (v := .int .i64 (i : Int)) hcl3 rfl (by kernel_rfl) (by kernel_rfl) (by kernel_rfl) (by decide) (fun _ _ _ h => h) (.inl ⟨by rfl, fun w' _ => ?_⟩) (fun _ => rfl) (fun hcl4 => ?_)
                  · go_simp
                  clear hcl3
                  try go_frame
                  refine wpAnyU_take0 (i := 4) (v := .int .i64 ((i : Int) + 1)) hcl4 rfl (by kernel_rfl) (by kernel_rfl) (by kernel_rfl) (by decide) (fun _ _ _ h => h) (.inl ⟨by rfl, fun w' _ => ?_⟩) (fun _ => rfl) (fun hcl5 => ?_)
                  · go_simp
                  clear hcl4
                  try go_frame
                  refine wpAnyU_take0 (i := 5) (v := .pointer (some ⟨ba, i + 1, none⟩)) hcl5 rfl (by kernel_rfl) (by kernel_rfl) (by kernel_rfl) (by decide) (fun _ _ _ h => h) (.inl ⟨by rfl, fun w' _ => ?_⟩) (fun _ => rfl) (fun hcl6 => ?_)
                  · go_simp
                  clear hcl5
                  try go_frame
                  refine wpAnyU_take (i := 6) (v := .bool false) hcl6 rfl (by kernel_rfl) (by kernel_rfl) (by kernel_rfl) (by kernel_rfl) (by decide) (fun _ _ _ h => h) (.inl ⟨by rfl, fun w' hw' => ?_⟩) rfl (fun hcl7 => ?_)
                  · have e : w'.cell? ⟨ba, i + 1, none⟩ = some (.bool false) := (World.cell?_of_block (by rw [hw'])).trans l5
                    clear hcl6 hw'; go_simp
                  clear hcl6 hcl7
                  try go_frame
                  refine wpAnyU_pure (i := 7) (v := .bool false) rfl (by kernel_rfl) (by kernel_rfl) (by kernel_rfl) (by decide) (fun _ _ _ h => h) (.inl ⟨by rfl, fun w' _ => ?_⟩) (fun _ => rfl) ?_
                  · go_simp
                  try go_frame
                  refine wpAnyU_pure (i := 8) (v := undef) rfl (by kernel_rfl) (by kernel_rfl) (by kernel_rfl) (by decide) (fun _ _ _ h => h) (.inr ⟨by kernel_rfl, rfl⟩) (fun _ => rfl) ?_
                  try go_frame
                  refine wpAnyU_pure (i := 9) (v := undef) rfl (by kernel_rfl) (by kernel_rfl) (by kernel_rfl) (by decide) (fun _ _ _ h => h) (.inr ⟨by kernel_rfl, rfl⟩) (fun _ => rfl) ?_
                  try go_frame
                  refine wpAnyU_pure (i := 10) (v := undef) rfl (by kernel_rfl) (by kernel_rfl) (by kernel_rfl) (by decide) (fun _ _ _ h => h) (.inr ⟨by kernel_rfl, rfl⟩) (fun _ => rfl) ?_
                  try go_frame
                  refine wpAnyU_pure (i := 11) (v := undef) rfl (by kernel_rfl) (by kernel_rfl) (by kernel_rfl) (by decide) (fun _ _ _ h => h) (.inr ⟨by kernel_rfl, rfl⟩) (fun _ => rfl) ?_
                  try go_frame
                  refine wpAnyU_pure (i := 12) (v := undef) rfl (by kernel_rfl) (by kernel_rfl) (by kernel_rfl) (by decide) (fun _ _ _ h => h) (.inr ⟨by kernel_rfl, rfl⟩) (fun _ => rfl) ?_
                  try go_frame
                  refine wpAnyU_pure (i := 13) (v := undef) rfl (by kernel_rfl) (by kernel_rfl) (by kernel_rfl) (by decide) (fun _ _ _ h => h) (.inr ⟨by kernel_rfl, rfl⟩) (fun _ => rfl) ?_
                  try go_frame
                  refine wpAnyU_pure (i := 14) (v := .bool false) rfl (by kernel_rfl) (by kernel_rfl) (by kernel_rfl) (by decide) (fun _ _ _ h => h) (.inl ⟨by rfl, fun w' _ => ?_⟩) (fun _ => rfl) ?_
                  · go_simp
                  try go_frame
                  refine wpAnyU_pure (i := 15) (v := .pointer (some ⟨bn, i, none⟩)) rfl (by kernel_rfl) (by kernel_rfl) (by kernel_rfl) (by decide) (fun _ _ _ h => h) (.inl ⟨by rfl, fun w' _ => ?_⟩) (fun _ => rfl) ?_
                  · go_simp
                  try go_frame
                  have l2' : w4.drew.cell? ⟨bn, i, none⟩ = some (.bool y) := l2
                  have l3' : w4.drew.frozen? ⟨bn, i, none⟩ = false := l3
                  refine wpAnyU_oneD (i := 16) (by kernel_rfl) (by kernel_rfl) rfl (fun K' hK => ?_)
                  go_simp
                  refine hK _ _ ?_
                  clear hK K'
                  refine wpAnyU_done (by kernel_rfl) ?_ _
                  go_wp2_with fail
                  go_roundw
                  case rel => first | exact ⟨i, rfl, by omega, HX⟩ | ((repeat apply Exists.intro); exact ⟨⟨i, rfl, by omega, HX⟩, rfl⟩)
                  case measure => simp [intOf] <;> omega
                | true =>
                  have HX := Lib.hid (fun W5 hb bv (e : bv = fitsB p r) => HF.out W5 hb bv (by rw [Hmt.out, e]; simp))
                  generalize fitsB p r = fb at *
                  have HS := Lib.hid (show ∀ W, Below w4.drew.heap.size w4.drew W → W.cell? ⟨ba, i + 1, none⟩ = some (.bool true) ∧ W.cell? ⟨g10, 0, none⟩ = some (.int .i64 K) ∧ W.cell? ⟨g10, 1, none⟩ = some (.int .i64 y1) ∧ W.cell? ⟨g10, 2, none⟩ = some (.bool y2) ∧ W.cell? ⟨g10, 3, none⟩ = some (.slice Ax n3 c3) ∧ W.cell? ⟨g10, 4, none⟩ = some (.slice Ay n4 c4) ∧ W.cell? ⟨bL, oL + j, none⟩ = some (.int .i64 r) from fun W hb =>
                    ⟨(hb.cell (p := ⟨ba, i + 1, none⟩) HBa.out.lt).trans l5, (hb.cell (p := ⟨g10, 0, none⟩) N10.out.lt).trans m0, (hb.cell (p := ⟨g10, 1, none⟩) N10.out.lt).trans m1, (hb.cell (p := ⟨g10, 2, none⟩) N10.out.lt).trans m2, (hb.cell (p := ⟨g10, 3, none⟩) N10.out.lt).trans m3, (hb.cell (p := ⟨g10, 4, none⟩) N10.out.lt).trans m4, (hb.cell (p := ⟨bL, oL + j, none⟩) (World.block_lt_of_cell? w4 _ hcL)).trans hcL⟩)
                  have HSB := Lib.hid (show ∀ W, Below w4.drew.heap.size w4.drew W → W.cell? ⟨bn, i, none⟩ = some (.bool y) ∧ W.frozen? ⟨bn, i, none⟩ = false from fun W hb => ⟨(hb.cell (p := ⟨bn, i, none⟩) HBn.out.lt).trans l2, (hb.frozen (p := ⟨bn, i, none⟩) HBn.out.lt).trans l3⟩)
                  have HS2 := Lib.hid (show ∀ W, Below w4.drew.heap.size w4.drew W → (W.setCell ⟨bn, i, none⟩ (.bool fb)).cell? ⟨ba, i + 1, none⟩ = some (.bool true) ∧ (W.setCell ⟨bn, i, none⟩ (.bool fb)).cell? ⟨g10, 0, none⟩ = some (.int .i64 K) ∧ (W.setCell ⟨bn, i, none⟩ (.bool fb)).cell? ⟨g10, 1, none⟩ = some (.int .i64 y1) ∧ (W.setCell ⟨bn, i, none⟩ (.bool fb)).cell? ⟨g10, 2, none⟩ = some (.bool y2) ∧ (W.setCell ⟨bn, i, none⟩ (.bool fb)).cell? ⟨g10, 3, none⟩ = some (.slice Ax n3 c3) ∧ (W.setCell ⟨bn, i, none⟩ (.bool fb)).cell? ⟨g10, 4, none⟩ = some (.slice Ay n4 c4) ∧ (W.setCell ⟨bn, i, none⟩ (.bool fb)).cell? ⟨bL, oL + j, none⟩ = some (.int .i64 r) from fun W hb => by
                    have hoth : ∀ q : Addr, q.block ≠ bn → (W.setCell ⟨bn, i, none⟩ (.bool fb)).cell? q = W.cell? q := fun q hq => World.cell?_setCell_other W ⟨bn, i, none⟩ q _ (fun e => hq (by rw [← e]))
                    have hgb : g10 ≠ bn := fun e => by have := N10.out; rw [e] at this; unfold Bk at this; rw [show _ = _ from HBn.out] at this; injection this with this; injection this with _ h; cases h
                    obtain ⟨s1, s2, s3, s4, s5, s6, s7⟩ := HS.out W hb
                    exact ⟨(hoth _ (by show ba ≠ bn; omega)).trans s1, (hoth _ hgb).trans s2, (hoth _ hgb).trans s3, (hoth _ hgb).trans s4, (hoth _ hgb).trans s5, (hoth _ hgb).trans s6, (hoth _ (by show bL ≠ bn; omega)).trans s7⟩)
                  clear HF Hmt l1 l4
                  go_wp2_with fail
                  go_region_held3 (fun w' => w'.cell? ⟨ba, i + 1, none⟩ = some (.bool true) ∧ w'.cell? ⟨g10, 0, none⟩ = some (.int .i64 K) ∧ w'.cell? ⟨g10, 1, none⟩ = some (.int .i64 y1) ∧ w'.cell? ⟨g10, 2, none⟩ = some (.bool y2) ∧ w'.cell? ⟨g10, 3, none⟩ = some (.slice Ax n3 c3) ∧ w'.cell? ⟨g10, 4, none⟩ = some (.slice Ay n4 c4) ∧ w'.cell? ⟨bL, oL + j, none⟩ = some (.int .i64 r)) (first | (exact HS.out _ (Below.refl _ _)) | (exact HS2.out _ hb5) | (exact HS.out _ hb5) | go_keep) ((go_at_call 24; (with_reducible refine HFt.out.mono ?_); rintro e w5 ⟨rfl, hb5⟩; have l2' := (HSB.out _ hb5).1; have l3' := (HSB.out _ hb5).2))
                  go_wp2_with fail
                  go_roundw
                  case rel => exact ⟨i, rfl, by omega, Lib.hid (HX.out w5 ((Below.refl _ _).drew.trans hb5) fb rfl)⟩
                  case measure => simp [intOf] <;> omega
    | succ j =>
      have e0 : ((j + 1 : Nat) : Int) - 1 = (j : Int) := by omega
      obtain ⟨p, hpj⟩ : ∃ p, ps[j]? = some p := ⟨_, List.getElem?_eq_getElem (by rw [Hm.out]; omega)⟩
      have hmt := mt_drop_nil hpj
      have HF : Hid (∀ bv, bv = mt (ps.drop j) [] → ∃ a, TB ps [] a j ∧ Bk (wr.setCell ⟨w.heap.size + 1, j, none⟩ (.bool bv)) (w.heap.size + 1) 4 (bls a).toArray ∧ Bk (wr.setCell ⟨w.heap.size + 1, j, none⟩ (.bool bv)) w.heap.size 32 #[.slice A m c, .int .i64 E] ∧ Below w.heap.size w (wr.setCell ⟨w.heap.size + 1, j, none⟩ (.bool bv))) := Lib.hid (fun bv hbv =>
        ⟨a.set j bv, i1.put (by rw [Hm.out]; omega) hbv, by have := i2.set j (.bool bv); rwa [bls_set] at this, i3.far (p := ⟨w.heap.size + 1, j, none⟩) (by show w.heap.size ≠ w.heap.size + 1; omega) _, i4.setCell (p := ⟨w.heap.size + 1, j, none⟩) (by show w.heap.size ≤ w.heap.size + 1; omega) _⟩)
      obtain ⟨b, o, _, _, _, _, _, _, _, _, rfl, hb, _, k0, _⟩ := Hpart.out wr i4 j p hpj
      have hv := i1.2 (j + 1) (Nat.le_refl _) (by rw [Hm.out]; omega)
      have hlen := i1.1
      rw [Hm.out] at hlen
      have k1 : wr.cell? ⟨w.heap.size + 1, j + 1, none⟩ = some (.bool (mt (ps.drop (j + 1)) [])) := (i2.cell (j + 1)).trans (bls_at hv)
      obtain ⟨y, hy⟩ : ∃ y, a[j]? = some y := ⟨_, List.getElem?_eq_getElem (by omega)⟩
      have k2 : wr.cell? ⟨w.heap.size + 1, j, none⟩ = some (.bool y) := (i2.cell j).trans (bls_at hy)
      have k3 : wr.frozen? ⟨w.heap.size + 1, j, none⟩ = false := i2.free j
      have q2 : IntKind.i64.wrap ((j : Int) + 1) = (j : Int) + 1 := IntWalk.i64_in _ (by omega)
      have q3 : IntKind.i64.wrap ((j : Int) - 1) = (j : Int) - 1 := IntWalk.i64_in _ (by omega)
      have Hmt := Lib.hid hmt
      have Hks := Lib.hid (kind_star p)
      have g0 : (0 : Int) ≤ (j : Int) := by omega
      have g1 : (j : Int) < (m : Int) + 1 := by omega
      have g2 : (j : Int) + 1 < (m : Int) + 1 := by omega
      have g3 : (j : Int) < (m : Int) := by omega
      have g4 : j < m + 1 := by omega
      have g5 : j + 1 < m + 1 := by omega
      have g6 : j < m := by omega
      rw [e0]
      clear hmt i1 i2 i3 i4 hv hy hlen hpj e0
      generalize mt (ps.drop (j + 1)) [] = bb at *
      generalize kindOf p = K at *
      cases bb with
      | false =>
        have HFf := Lib.hid (HF.out false (by rw [Hmt.out]; simp))
        clear HF
        go_wp2_with fail
        go_roundw
        case rel => exact ⟨j, rfl, by omega, HFf⟩
        case measure => simp [intOf] <;> omega
      | true =>
        by_cases hK2 : K = 2
        · have h2 : (K == 2) = true := by simpa using hK2
          have HFt := Lib.hid (HF.out true (by rw [Hmt.out, Hks.out, hK2]; rfl))
          clear HF hK2
          go_wp2_with fail
          go_roundw
          case rel => exact ⟨j, rfl, by omega, HFt⟩
          case measure => simp [intOf] <;> omega
        · have h2 : (K == 2) = false := by simpa using hK2
          by_cases hK3 : K = 3
          · have h3 : (K == 3) = true := by simpa using hK3
            have HFt := Lib.hid (HF.out true (by rw [Hmt.out, Hks.out, hK3]; rfl))
            clear HF hK2 hK3
            go_wp2_with fail
            go_roundw
            case rel => exact ⟨j, rfl, by omega, HFt⟩
            case measure => simp [intOf] <;> omega
          · have h3 : (K == 3) = false := by simpa using hK3
            have HFf := Lib.hid (HF.out false (by rw [Hmt.out, Hks.out, h2, h3]; rfl))
            clear HF hK2 hK3
            go_wp2_with fail
            go_roundw
            case rel => exact ⟨j, rfl, by omega, HFf⟩
            case measure => simp [intOf] <;> omega
end Go.Proofs.YtbdehlphblbmoaaDoor
