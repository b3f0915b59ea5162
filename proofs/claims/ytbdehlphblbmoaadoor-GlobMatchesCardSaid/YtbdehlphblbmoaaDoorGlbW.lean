/- The document's patterns: class. -/
import Derived.Test.YtbdehlphblbmoaaDoorGlbT
namespace Go.Proofs.YtbdehlphblbmoaaDoor
open Go.RowKit
attribute [local go_sem ↓] Go.wp_at_zero Go.wp_at_succ

/-- What class gives. -/
def DclE (w : World) (L : List Int) (n : Nat) (nt : Bool) (R0 : Option (List (Int × Int) × List Int)) (e : Ending) (w' : World) : Prop :=
  Below w.heap.size w w' ∧ match R0 with
    | none => e = .returned (.agg #[.int .i64 (-1), .int .i64 0, .bool false, .slice none 0 0, .slice none 0 0])
    | some (rs, m) => ∃ (k' : Nat) (A1 : Option Addr) (c1 : Nat) (A2 : Option Addr) (c2 : Nat), k' ≤ n ∧ m = L.drop k' ∧ rs.length ≤ n ∧ e = .returned (.agg #[.int .i64 4, .int .i64 (k' : Int), .bool nt, .slice A1 rs.length c1, .slice A2 rs.length c2]) ∧
      w'.ownsRow w.heap.size 3 1 (.slice A1 rs.length c1) rs.length (its (rs.map (·.1))) ∧ w'.ownsRow w.heap.size 3 1 (.slice A2 rs.length c2) rs.length (its (rs.map (·.2)))
/-- What the loop holds. -/
def DclR (w : World) (L : List Int) (nt : Bool) (R0 : Option (List (Int × Int) × List Int)) (k : Nat) (W : World) : Prop :=
  ∃ m rs v1 v2, DcM w W nt v1 v2 rs.length rs.length (rs.map (·.1)) (rs.map (·.2)) ∧ clsR m rs (L.drop k) = R0 ∧ (L.drop k).length < m ∧ rs.length ≤ k
/-- Five cells, stored one after another. -/
def set5 (W : World) (g : Nat) (x0 x1 x2 x3 x4 : Value) : World := ((((W.setCell ⟨g, 0, none⟩ x0).setCell ⟨g, 1, none⟩ x1).setCell ⟨g, 2, none⟩ x2).setCell ⟨g, 3, none⟩ x3).setCell ⟨g, 4, none⟩ x4
theorem Bk.set5 {W : World} {g : Nat} {t : TypeId} {a0 a1 a2 a3 a4 : Value} (h : Bk W g t #[a0, a1, a2, a3, a4]) (x0 x1 x2 x3 x4 : Value) : Bk (set5 W g x0 x1 x2 x3 x4) g t #[x0, x1, x2, x3, x4] := by
  have := ((((h.set 0 x0).set 1 x1).set 2 x2).set 3 x3).set 4 x4
  simpa [Go.Proofs.YtbdehlphblbmoaaDoor.set5] using this
theorem Ch.set5 {W : World} {g : Nat} (x0 x1 x2 x3 x4 : Value) : Ch (fun i => i = g) W (set5 W g x0 x1 x2 x3 x4) :=
  (((((Ch.refl (fun i => i = g) W).set (p := ⟨g, 0, none⟩) (.inl rfl) x0).set (p := ⟨g, 1, none⟩) (.inl rfl) x1).set (p := ⟨g, 2, none⟩) (.inl rfl) x2).set (p := ⟨g, 3, none⟩) (.inl rfl) x3).set (p := ⟨g, 4, none⟩) (.inl rfl) x4
/-- The result's block, written; the class is as it was. -/
theorem DcM.res {w W : World} {nt : Bool} {v1 v2 : Value} {n1 n2 : Nat} {l1 l2 : List Int} (h : DcM w W nt v1 v2 n1 n2 l1 l2) (x0 x1 x2 x3 x4 : Value) :
    let W' := set5 W w.heap.size x0 x1 x2 x3 x4
    Bk W' w.heap.size 66 #[x0, x1, x2, x3, x4] ∧ Below w.heap.size w W' ∧ W'.ownsRow w.heap.size 3 1 v1 n1 (its l1) ∧ W'.ownsRow w.heap.size 3 1 v2 n2 (its l2) := by
  have hc := Ch.set5 (W := W) (g := w.heap.size) x0 x1 x2 x3 x4
  exact ⟨h.b4.set5 _ _ _ _ _, h.bw.trans (hc.below (B := w.heap.size) h.bw.size (fun i hi => by omega)),
    own_base (own_ch h.o1 hc (fun i hi e => by have := (h.o1.lt i hi).1; omega)) (by omega), own_base (own_ch h.o2 hc (fun i hi e => by have := (h.o2.lt i hi).1; omega)) (by omega)⟩
/-- The place of what is told is laid. -/
theorem DcM.setR {w W : World} {nt : Bool} {v1 v2 : Value} {n1 n2 : Nat} {l1 l2 : List Int} (h : DcM w W nt v1 v2 n1 n2 l1 l2) (x : Value) :
    Bk (W.setCell ⟨w.heap.size + 1, 1, none⟩ x) w.heap.size 66 #[.int .i64 0, .int .i64 0, .bool false, .slice none 0 0, .slice none 0 0] ∧ Below w.heap.size w (W.setCell ⟨w.heap.size + 1, 1, none⟩ x) ∧
    (W.setCell ⟨w.heap.size + 1, 1, none⟩ x).ownsRow (w.heap.size + 2) 3 1 v1 n1 (its l1) ∧ (W.setCell ⟨w.heap.size + 1, 1, none⟩ x).ownsRow (w.heap.size + 2) 3 1 v2 n2 (its l2) := by
  have hc : Ch (fun i => i = w.heap.size + 1) W (W.setCell ⟨w.heap.size + 1, 1, none⟩ x) := (Ch.refl (fun i => i = w.heap.size + 1) W).set (p := ⟨w.heap.size + 1, 1, none⟩) (.inl rfl) _
  exact ⟨h.b4.ch hc (by omega), h.bw.setCell (by show w.heap.size ≤ w.heap.size + 1; omega) _, own_ch h.o1 hc (fun i hi e => by have := (h.o1.lt i hi).1; omega), own_ch h.o2 hc (fun i hi e => by have := (h.o2.lt i hi).1; omega)⟩
theorem DcM.zs {w W : World} {nt : Bool} {v1 v2 : Value} {n1 n2 : Nat} {l1 l2 : List Int} (h : DcM w W nt v1 v2 n1 n2 l1 l2) :
    (W.cell? ⟨w.heap.size, 0, none⟩ = some (.int .i64 0) ∧ W.cell? ⟨w.heap.size, 1, none⟩ = some (.int .i64 0) ∧ W.cell? ⟨w.heap.size, 2, none⟩ = some (.bool false) ∧ W.cell? ⟨w.heap.size, 3, none⟩ = some (.slice none 0 0) ∧ W.cell? ⟨w.heap.size, 4, none⟩ = some (.slice none 0 0)) ∧
    (W.frozen? ⟨w.heap.size, 0, none⟩ = false ∧ W.frozen? ⟨w.heap.size, 1, none⟩ = false ∧ W.frozen? ⟨w.heap.size, 2, none⟩ = false ∧ W.frozen? ⟨w.heap.size, 3, none⟩ = false ∧ W.frozen? ⟨w.heap.size, 4, none⟩ = false) :=
  ⟨⟨h.b4.cell 0, h.b4.cell 1, h.b4.cell 2, h.b4.cell 3, h.b4.cell 4⟩, h.b4.free 0, h.b4.free 1, h.b4.free 2, h.b4.free 3, h.b4.free 4⟩
/-- Behind the two runes of a class's piece. -/
def DclN (w : World) (L : List Int) (n : Nat) (nt : Bool) (R0 : Option (List (Int × Int) × List Int)) (rs : List (Int × Int)) (r : Int) (k' k g6 m1 : Nat) (v1 v2 : Value) (q : Nat) (W : World) : Prop :=
  ∃ (b : Int) (k2 : Nat), DcM w W nt v1 v2 q q (rs.map (·.1)) (rs.map (·.2)) ∧ Bk W g6 69 #[.int .i64 r, .int .i64 (k' : Int), .bool true] ∧ Bk W (g6 + 1) 69 #[.int .i64 b, .int .i64 (k2 : Int), .bool true] ∧ clsR m1 (rs ++ [(r, b)]) (L.drop k2) = R0 ∧ k < k2 ∧ k2 ≤ n
/-- No class. -/
theorem DcM.no {w W : World} {nt : Bool} {v1 v2 : Value} {n1 n2 : Nat} {l1 l2 : List Int} {L : List Int} {n : Nat} {R0 : Option (List (Int × Int) × List Int)} (h : DcM w W nt v1 v2 n1 n2 l1 l2) (hR : R0 = none) :
    DclE w L n nt R0 (.returned (.agg #[.int .i64 (-1), .int .i64 0, .bool false, .slice none 0 0, .slice none 0 0])) (set5 W w.heap.size (.int .i64 (-1)) (.int .i64 0) (.bool false) (.slice none 0 0) (.slice none 0 0)) ∧
    Bk (set5 W w.heap.size (.int .i64 (-1)) (.int .i64 0) (.bool false) (.slice none 0 0) (.slice none 0 0)) w.heap.size 66 #[.int .i64 (-1), .int .i64 0, .bool false, .slice none 0 0, .slice none 0 0] := by
  obtain ⟨h1, h2, _, _⟩ := h.res (.int .i64 (-1)) (.int .i64 0) (.bool false) (.slice none 0 0) (.slice none 0 0)
  exact ⟨⟨h2, by rw [hR]⟩, h1⟩
theorem isR33_end {L : List Int} {k : Nat} (h : L.length ≤ k) : isR 33 (L.drop k) = (false, L.drop k) := by rw [List.drop_of_length_le h]; rfl
theorem isR_cons {L : List Int} {k : Nat} {x c : Int} (h : L[k]? = some x) : isR c (L.drop k) = if x = c then (true, L.drop (k + 1)) else (false, L.drop k) := by rw [drop_cons h, isR]
set_option maxHeartbeats 4000000 in
set_option maxRecDepth 100000 in
theorem dclass_any (A : Option Addr) (n c B k N : Nat) (L : List Int) (w : World) (hr : Rd w B 1 A n (its L)) (hk : k ≤ n) (hB : B ≤ w.heap.size) (hn : n ≤ 10000) (hN : (isR 33 (L.drop k)).2.length < N) :
    Calls Tryd.prog 22 #[.slice A n c, .int .i64 (k : Int)] w (DclE w L n (isR 33 (L.drop k)).1 (clsR N [] (isR 33 (L.drop k)).2)) := by
  have hlen := hr.ilen
  have Hr := Lib.hid (fun W (hb : Below w.heap.size w W) => hr.below hb hB)
  have Hcell := Lib.hid (fun W (hb : Below w.heap.size w W) j (hj : j < n) => (show ∃ b o u, A = some ⟨b, o, none⟩ ∧ L[j]? = some u ∧ W.cell? ⟨b, o + j, none⟩ = some (.int .i64 u) from by
    obtain ⟨b, o, u, h1, h2, h3, h4⟩ := hr.num hj
    exact ⟨b, o, u, h1, h3, (hb.cell (p := ⟨b, o + j, none⟩) (by show b < _; omega)).trans h4⟩))
  have Hl := Lib.hid hlen
  have HN := Lib.hid hN
  obtain ⟨X, hX⟩ : ∃ X, isR 33 (L.drop k) = X := ⟨_, rfl⟩
  have HX := Lib.hid hX
  rw [hX] at HN ⊢
  obtain ⟨R0, hR0⟩ : ∃ R0, clsR N [] X.2 = R0 := ⟨_, rfl⟩
  have HR0 := Lib.hid hR0
  rw [hR0]
  clear hR0 hX hr hlen hN
  have HM0 := Lib.hid (show DcM w ((w.alloc (.cells #[.int .i64 0, .int .i64 0, .bool false, .slice none 0 0, .slice none 0 0] 66)).alloc (.cells #[.int .i64 4, .int .i64 0, .bool false, .slice none 0 0, .slice none 0 0] 66)) false (.slice none 0 0) (.slice none 0 0) 0 0 [] [] from
    ⟨(Bk.new w _ _).alloc _, Bk.new' _ _ _ (by simp), own_nilI _ _ _, own_nilI _ _ _, (fun b hb => by simp [Value.ownBlock] at hb), ((Below.refl _ _).alloc (Nat.le_refl _) _).alloc (by simp) _⟩)
  go_enter Tryd.func22, Tryd.ntmps22
  go_upto_region 2 with (fail)
  generalize ((w.alloc (.cells #[.int .i64 0, .int .i64 0, .bool false, .slice none 0 0, .slice none 0 0] 66)).alloc (.cells #[.int .i64 4, .int .i64 0, .bool false, .slice none 0 0, .slice none 0 0] 66)) = w1 at *
  go_cut [19] (fun v19 wx => wx = w1 ∧ ∃ t, v19 = .bool t ∧ Hid (X = (if t then (true, L.drop (k + 1)) else (false, L.drop k)) ∧ (t = true → k < n)))
  case first =>
    by_cases h1 : k = n
    · have HT := Lib.hid (show X = (false, L.drop k) from by rw [← HX.out, isR33_end (by rw [Hl.out]; omega)])
      have h2 : ¬ (k : Int) < (n : Int) := by omega
      clear h1
      go_wp2_with fail
      go_meet
      exact ⟨rfl, false, rfl, Lib.hid ⟨HT.out, (fun h => by cases h)⟩⟩
    · obtain ⟨b, o, u, rfl, hu, hc⟩ := Hcell.out w1 HM0.out.bw k (by omega)
      have hlt : (k : Int) < (n : Int) := by omega
      have h0 := isR_cons (c := 33) hu
      by_cases h2 : u = 33
      · have HT := Lib.hid (show X = (true, L.drop (k + 1)) from by rw [← HX.out, h0, if_pos h2])
        have HK := Lib.hid (show k < n from by omega)
        subst h2
        clear h0 hu h1
        go_wp2_with fail
        go_meet
        exact ⟨rfl, true, rfl, Lib.hid ⟨HT.out, fun _ => HK.out⟩⟩
      · have HT := Lib.hid (show X = (false, L.drop k) from by rw [← HX.out, h0, if_neg h2])
        have h2' : (u == 33) = false := by simpa using h2
        clear h0 hu h1 h2
        go_wp2_with fail
        go_meet
        exact ⟨rfl, false, rfl, Lib.hid ⟨HT.out, (fun h => by cases h)⟩⟩
  case rest =>
    obtain ⟨rfl, t, rfl, HT⟩ := hcut
    go_upto_if 19 with (fail)
    go_cut [1] (fun v1 wx => ∃ k1 : Nat, v1 = .int .i64 (k1 : Int) ∧ k1 ≤ n ∧ Hid (L.drop k1 = X.2 ∧ DcM w wx X.1 (.slice none 0 0) (.slice none 0 0) 0 0 [] []))
    case first =>
      cases t with
      | true =>
        have q1 : IntKind.i64.wrap ((k : Int) + 1) = (k : Int) + 1 := IntWalk.i64_in _ (by omega)
        have b5 := HM0.out.b5
        have e5 : wc.cell? ⟨w.heap.size + 1, 2, none⟩ = some (.bool false) := b5.cell 2
        have f5 : wc.frozen? ⟨w.heap.size + 1, 2, none⟩ = false := b5.free 2
        have HF := Lib.hid (show DcM w (wc.setCell ⟨w.heap.size + 1, 2, none⟩ (.bool true)) true (.slice none 0 0) (.slice none 0 0) 0 0 [] [] from
          ⟨HM0.out.b4.far (by show w.heap.size ≠ w.heap.size + 1; omega) _, by have := b5.set 2 (.bool true); simpa using this, own_nilI _ _ _, own_nilI _ _ _, HM0.out.ap, HM0.out.bw.setCell (by show w.heap.size ≤ w.heap.size + 1; omega) _⟩)
        clear b5
        go_wp2_with fail
        go_meet
        exact ⟨k + 1, by go_num, HT.out.2 (by first | rfl | trivial), Lib.hid ⟨by rw [HT.out.1]; rfl, by rw [HT.out.1]; exact HF.out⟩⟩
      | false =>
        go_wp2_with fail
        go_meet
        exact ⟨k, rfl, hk, Lib.hid ⟨by rw [HT.out.1]; rfl, by rw [HT.out.1]; exact HM0.out⟩⟩
    case rest =>
      clear HT
      obtain ⟨k1, rfl, hk1, HI⟩ := hcut
      obtain ⟨e1, i1⟩ := HI.out
      have HR := Lib.hid (show DclR w L X.1 R0 k1 wc from ⟨N, [], _, _, i1, by rw [e1]; exact HR0.out, by rw [e1]; exact HN.out, Nat.zero_le _⟩)
      clear HI e1 i1 HX HN HR0 HM0
      generalize X.1 = nt at *
      clear X
      go_wp2_with fail
      go_loopw [1] (fun v1 wr => ∃ k : Nat, v1 = .int .i64 (k : Int) ∧ k ≤ n ∧ Hid (DclR w L nt R0 k wr)) (fun v1 _ => n - (intOf v1).toNat)
      case atStart => exact ⟨k1, rfl, hk1, HR⟩
      case round =>
        clear hk1 HR hk
        obtain ⟨k, rfl, hk, HI⟩ := hrel
        obtain ⟨m, rs, v1, v2, i1, i2, i3, i4⟩ := HI.out
        clear HI
        obtain ⟨A1, c1, rfl, _, _⟩ := own_form i1.o1
        obtain ⟨A2, c2, rfl, _, _⟩ := own_form i1.o2
        obtain ⟨q, hq⟩ : ∃ q, rs.length = q := ⟨_, rfl⟩
        have Hq := Lib.hid hq
        rw [hq] at i1 i4
        clear hq
        have HM := Lib.hid i1
        have HR := Lib.hid i2
        have HmL := Lib.hid i3
        have e3 : wr.cell? ⟨w.heap.size + 1, 3, none⟩ = some (.slice A1 q c1) := i1.b5.cell 3
        have Hpl := Lib.hid (dplain_any A n c B k L wr (Hr.out wr i1.bw) hk (by have := i1.bw.size; omega) (by omega))
        clear i1 i2 i3
        go_upto_region 5 with (fail)
        go_cut [39] (fun v39 wx => wx = wr ∧ ∃ t, v39 = .bool t ∧ Hid ((t = true → rs ≠ [] ∧ L[k]? = some 93 ∧ k < n) ∧ (t = false → ¬ (rs ≠ [] ∧ (L.drop k).head? = some 93))))
        case first =>
          by_cases h1 : k = n
          · have h2 : ¬ (k : Int) < (n : Int) := by omega
            have HT := Lib.hid (show ¬ (rs ≠ [] ∧ (L.drop k).head? = some 93) from fun h => by rw [List.drop_of_length_le (by rw [Hl.out]; omega)] at h; simp at h)
            clear h1
            go_wp2_with fail
            go_meet
            exact ⟨rfl, false, rfl, Lib.hid ⟨(fun h => by cases h), fun _ => HT.out⟩⟩
          · obtain ⟨b, o, u, rfl, hu, hc⟩ := Hcell.out wr HM.out.bw k (by omega)
            have hlt : (k : Int) < (n : Int) := by omega
            have hd := drop_cons hu
            by_cases h2 : u = 93
            · subst h2
              by_cases h3 : q = 0
              · have HT := Lib.hid (show ¬ (rs ≠ [] ∧ (L.drop k).head? = some 93) from fun h => h.1 (List.eq_nil_of_length_eq_zero (by rw [Hq.out, h3])))
                have h3' : ¬ (0 : Int) < (q : Int) := by omega
                have h4 : ¬ 0 < q := by omega
                clear hd hu h1 h3
                go_wp2_with fail
                go_meet
                exact ⟨rfl, false, rfl, Lib.hid ⟨(fun h => by cases h), fun _ => HT.out⟩⟩
              · have HT := Lib.hid (show rs ≠ [] ∧ L[k]? = some 93 ∧ k < n from ⟨fun h => h3 (by rw [← Hq.out, h]; rfl), hu, by omega⟩)
                have h3' : (0 : Int) < (q : Int) := by omega
                have h4 : 0 < q := by omega
                clear hd hu h1 h3
                go_wp2_with fail
                go_meet
                exact ⟨rfl, true, rfl, Lib.hid ⟨(fun _ => HT.out), (fun h => by cases h)⟩⟩
            · have HT := Lib.hid (show ¬ (rs ≠ [] ∧ (L.drop k).head? = some 93) from fun h => h2 (by rw [hd] at h; simpa using h.2))
              have h2' : (u == 93) = false := by simpa using h2
              clear hd hu h1 h2
              go_wp2_with fail
              go_meet
              exact ⟨rfl, false, rfl, Lib.hid ⟨(fun h => by cases h), fun _ => HT.out⟩⟩
        case rest =>
          obtain ⟨rfl, t, rfl, HT⟩ := hcut
          have b4 := HM.out.b4
          have d0 : wc.cell? ⟨w.heap.size, 0, none⟩ = some (.int .i64 0) := b4.cell 0
          have d1 : wc.cell? ⟨w.heap.size, 1, none⟩ = some (.int .i64 0) := b4.cell 1
          have d2 : wc.cell? ⟨w.heap.size, 2, none⟩ = some (.bool false) := b4.cell 2
          have d3 : wc.cell? ⟨w.heap.size, 3, none⟩ = some (.slice none 0 0) := b4.cell 3
          have d4 : wc.cell? ⟨w.heap.size, 4, none⟩ = some (.slice none 0 0) := b4.cell 4
          have g0 : wc.frozen? ⟨w.heap.size, 0, none⟩ = false := b4.free 0
          have g1 : wc.frozen? ⟨w.heap.size, 1, none⟩ = false := b4.free 1
          have g2 : wc.frozen? ⟨w.heap.size, 2, none⟩ = false := b4.free 2
          have g3 : wc.frozen? ⟨w.heap.size, 3, none⟩ = false := b4.free 3
          have g4 : wc.frozen? ⟨w.heap.size, 4, none⟩ = false := b4.free 4
          clear b4
          cases t with
          | true =>
            obtain ⟨h1, h2, h3⟩ := HT.out.1 (by first | rfl | trivial)
            have b5 := HM.out.b5
            have e0 : wc.cell? ⟨w.heap.size + 1, 0, none⟩ = some (.int .i64 4) := b5.cell 0
            have e1 : wc.cell? ⟨w.heap.size + 1, 1, none⟩ = some (.int .i64 0) := b5.cell 1
            have e2 : wc.cell? ⟨w.heap.size + 1, 2, none⟩ = some (.bool nt) := b5.cell 2
            have e4 : wc.cell? ⟨w.heap.size + 1, 4, none⟩ = some (.slice A2 q c2) := b5.cell 4
            have f1 : wc.frozen? ⟨w.heap.size + 1, 1, none⟩ = false := b5.free 1
            have q1 : IntKind.i64.wrap ((k : Int) + 1) = (k : Int) + 1 := IntWalk.i64_in _ (by omega)
            have HF := Lib.hid (show DclE w L n nt R0 (.returned (.agg #[.int .i64 4, .int .i64 ((k : Int) + 1), .bool nt, .slice A1 q c1, .slice A2 q c2])) (set5 (wc.setCell ⟨w.heap.size + 1, 1, none⟩ (.int .i64 ((k : Int) + 1))) w.heap.size (.int .i64 4) (.int .i64 ((k : Int) + 1)) (.bool nt) (.slice A1 q c1) (.slice A2 q c2)) ∧
                Bk (set5 (wc.setCell ⟨w.heap.size + 1, 1, none⟩ (.int .i64 ((k : Int) + 1))) w.heap.size (.int .i64 4) (.int .i64 ((k : Int) + 1)) (.bool nt) (.slice A1 q c1) (.slice A2 q c2)) w.heap.size 66 #[.int .i64 4, .int .i64 ((k : Int) + 1), .bool nt, .slice A1 q c1, .slice A2 q c2] from by
              obtain ⟨r1, r2, r3, r4⟩ := HM.out.setR (.int .i64 ((k : Int) + 1))
              have hc := Ch.set5 (W := wc.setCell ⟨w.heap.size + 1, 1, none⟩ (.int .i64 ((k : Int) + 1))) (g := w.heap.size) (.int .i64 4) (.int .i64 ((k : Int) + 1)) (.bool nt) (.slice A1 q c1) (.slice A2 q c2)
              refine ⟨⟨r2.trans (hc.below (B := w.heap.size) r2.size (fun i hi => by omega)), ?_⟩, r1.set5 _ _ _ _ _⟩
              have hR := HR.out
              have hm := HmL.out
              obtain ⟨m1, rfl⟩ : ∃ m1, m = m1 + 1 := ⟨m - 1, by omega⟩
              rw [drop_cons h2, clsR_end h1] at hR
              rw [← hR]
              refine ⟨k + 1, A1, c1, A2, c2, by omega, rfl, by rw [Hq.out]; omega, by rw [Hq.out]; rfl, ?_, ?_⟩
              · rw [Hq.out]; exact own_base (own_ch r3 hc (fun i hi e => by have := (r3.lt i hi).1; omega)) (by omega)
              · rw [Hq.out]; exact own_base (own_ch r4 hc (fun i hi e => by have := (r4.lt i hi).1; omega)) (by omega))
            clear b5 h1 h2 h3 HT Hpl
            go_wp2_with fail
            have hB' := HF.out.2
            have s0 := hB'.cell 0
            have s1 := hB'.cell 1
            have s2 := hB'.cell 2
            have s3 := hB'.cell 3
            have s4 := hB'.cell 4
            simp [set5] at s0 s1 s2 s3 s4
            exact bodyPost_ret (v := .agg #[.int .i64 4, .int .i64 ((k : Int) + 1), .bool nt, .slice A1 q c1, .slice A2 q c2]) (by simp [results, Tryd.results22, go_sem, s0, s1, s2, s3, s4]) rfl HF.out.1
          | false =>
            have HT2 := Lib.hid (HT.out.2 (by first | rfl | trivial))
            obtain ⟨m1, hm1⟩ : ∃ m1, m = m1 + 1 := ⟨m - 1, by have := HmL.out; omega⟩
            subst hm1
            clear d0 d1 d2 d3 d4 g0 g1 g2 g3 g4 HT e3
            go_wp2_with fail
            with_reducible refine Hpl.out.mono ?_
            rintro e w2 ⟨hb2, hE⟩
            have hM2 := HM.out.bl hb2
            cases hp : plainR (L.drop k) with
            | none =>
              rw [hp] at hE
              obtain rfl := hE
              have hM3 := hM2.bl ((Below.refl _ _).alloc (Nat.le_refl _) (.cells #[.int .i64 0, .int .i64 0, .bool false] 69))
              have HF := Lib.hid (hM3.no (L := L) (n := n) (R0 := R0) (by rw [← HR.out, clsR_none HT2.out hp]))
              obtain ⟨⟨d0, d1, d2, d3, d4⟩, g0, g1, g2, g3, g4⟩ := hM3.zs
              clear hM2 hM3 hb2 hp Hpl HM
              go_wp2_with fail
              have hB' := HF.out.2
              have s0 := hB'.cell 0
              have s1 := hB'.cell 1
              have s2 := hB'.cell 2
              have s3 := hB'.cell 3
              have s4 := hB'.cell 4
              simp [set5] at s0 s1 s2 s3 s4
              exact bodyPost_ret (v := .agg #[.int .i64 (-1), .int .i64 0, .bool false, .slice none 0 0, .slice none 0 0]) (by simp [results, Tryd.results22, go_sem, s0, s1, s2, s3, s4]) rfl HF.out.1
            | some z =>
              obtain ⟨r, l3⟩ := z
              rw [hp] at hE
              obtain ⟨k', hk1, hk2, hl3, rfl⟩ := hE
              have Hp := Lib.hid hp
              rw [hl3] at Hp
              have HM4 := Lib.hid ((hM2.bl ((Below.refl _ _).alloc (Nat.le_refl _) (.cells #[.int .i64 r, .int .i64 (k' : Int), .bool true] 69))).bl ((Below.refl _ _).alloc (Nat.le_refl _) (.cells #[.int .i64 r, .int .i64 (k' : Int), .bool true] 69)))
              have HG6 := Lib.hid ((Bk.new w2 69 #[.int .i64 r, .int .i64 (k' : Int), .bool true]).alloc (.cells #[.int .i64 r, .int .i64 (k' : Int), .bool true] 69))
              have HG7 := Lib.hid (Bk.new' (w2.alloc (.cells #[.int .i64 r, .int .i64 (k' : Int), .bool true] 69)) 69 #[.int .i64 r, .int .i64 (k' : Int), .bool true] (g := w2.heap.size + 1) (by simp))
              have hge2 := hM2.bw.size
              clear hM2 hb2 hp hl3 Hpl HM
              go_upto_region 12 with (fail)
              generalize ((w2.alloc (.cells #[.int .i64 r, .int .i64 (k' : Int), .bool true] 69)).alloc (.cells #[.int .i64 r, .int .i64 (k' : Int), .bool true] 69)) = w4 at *
              obtain ⟨g6, hg6⟩ : ∃ g6, w2.heap.size = g6 := ⟨_, rfl⟩
              rw [hg6] at HG6 HG7 hge2
              simp only [hg6]
              clear hg6
              have q1 : IntKind.i64.wrap ((k' : Int) + 1) = (k' : Int) + 1 := IntWalk.i64_in _ (by omega)
              go_cut [74] (fun v74 wx => wx = w4 ∧ ∃ t, v74 = .bool t ∧ Hid (ClU (L.drop k') t ∧ (t = true → k' + 1 < n)))
              case first =>
                have e1 : w4.cell? ⟨g6, 1, none⟩ = some (.int .i64 (k' : Int)) := HG6.out.cell 1
                by_cases h1 : k' + 1 < n
                · have h1' : (k' : Int) + 1 < (n : Int) := by omega
                  obtain ⟨b, o, u, rfl, hu, hc⟩ := Hcell.out w4 HM4.out.bw k' (by omega)
                  obtain ⟨b', o', y, ea, hy, hc2⟩ := Hcell.out w4 HM4.out.bw (k' + 1) h1
                  injection ea with ea
                  injection ea with ea1 ea2 _
                  subst ea1 ea2
                  have hd : L.drop k' = u :: y :: L.drop (k' + 1 + 1) := by rw [drop_cons hu, drop_cons hy]
                  have hlt : (k' : Int) < (n : Int) := by omega
                  by_cases h2 : u = 45
                  · subst h2
                    by_cases h3 : y = 93
                    · have HT := Lib.hid (show ClU (L.drop k') false from ⟨(fun h => by cases h), fun _ h => h.2.2 (by rw [hd, h3]; rfl)⟩)
                      have h3' : (y != 93) = false := by simpa using h3
                      clear hd hu hy h1 h3
                      go_wp2_with fail
                      go_meet
                      exact ⟨rfl, false, rfl, Lib.hid ⟨HT.out, (fun h => by cases h)⟩⟩
                    · have HT := Lib.hid (show ClU (L.drop k') true from ⟨(fun _ => ⟨y, _, hd, h3⟩), (fun h => by cases h)⟩)
                      have h3' : (y != 93) = true := by simpa using h3
                      have H1 := Lib.hid h1
                      clear hd hu hy h1 h3
                      go_wp2_with fail
                      go_meet
                      exact ⟨rfl, true, rfl, Lib.hid ⟨HT.out, fun _ => H1.out⟩⟩
                  · have HT := Lib.hid (show ClU (L.drop k') false from ⟨(fun h => by cases h), fun _ h => h2 (by rw [hd] at h; simpa using h.2.1)⟩)
                    have h2' : (u == 45) = false := by simpa using h2
                    clear hd hu hy h1 h2
                    go_wp2_with fail
                    go_meet
                    exact ⟨rfl, false, rfl, Lib.hid ⟨HT.out, (fun h => by cases h)⟩⟩
                · have h1' : ¬ (k' : Int) + 1 < (n : Int) := by omega
                  have HT := Lib.hid (show ClU (L.drop k') false from ⟨(fun h => by cases h), fun _ h => by have := h.1; rw [List.length_drop, Hl.out] at this; omega⟩)
                  clear h1
                  go_wp2_with fail
                  go_meet
                  exact ⟨rfl, false, rfl, Lib.hid ⟨HT.out, (fun h => by cases h)⟩⟩
              case rest =>
                obtain ⟨rfl, t, rfl, HT⟩ := hcut
                go_upto_if 74 with (fail)
                go_cut [] (fun wx => DclN w L n nt R0 rs r k' k g6 m1 (.slice A1 q c1) (.slice A2 q c2) q wx)
                case first =>
                  cases t with
                  | false =>
                    have HF := Lib.hid (show DclN w L n nt R0 rs r k' k g6 m1 (.slice A1 q c1) (.slice A2 q c2) q wc from
                      ⟨r, k', HM4.out, HG6.out, HG7.out, by rw [← clsR_one HT2.out Hp.out (HT.out.1.2 (by first | rfl | trivial))]; exact HR.out, hk1, hk2⟩)
                    clear HM4 HG6 HG7 HT
                    go_wp2_with fail
                    go_meet
                    exact HF.out
                  | true =>
                    have h1 := HT.out.2 (by first | rfl | trivial)
                    obtain ⟨y, l5, hy1, hy2⟩ := HT.out.1.1 (by first | rfl | trivial)
                    have hd2 : L.drop (k' + 1) = y :: l5 := by
                      have := congrArg List.tail hy1
                      rw [List.tail_drop] at this
                      simpa using this
                    have hp2 := Hp.out
                    rw [hy1] at hp2
                    have HP2 := Lib.hid hp2
                    have HY := Lib.hid hy2
                    have HD2 := Lib.hid hd2
                    have e1 : wc.cell? ⟨g6, 1, none⟩ = some (.int .i64 (k' : Int)) := HG6.out.cell 1
                    have Hpl := Lib.hid (dplain_any A n c B (k' + 1) L wc (Hr.out wc HM4.out.bw) (by omega) (by have := HM4.out.bw.size; omega) (by omega))
                    rw [show ((k' + 1 : Nat) : Int) = (k' : Int) + 1 from by omega] at Hpl
                    clear hy1 hy2 hd2 hp2 HT
                    go_wp2_with fail
                    with_reducible refine Hpl.out.mono ?_
                    rintro e w5 ⟨hb5, hE⟩
                    have hM5 := HM4.out.bl hb5
                    have hG6 := HG6.out.below hb5 HG6.out.lt
                    have hG7 := HG7.out.below hb5 HG7.out.lt
                    have a0 : w5.cell? ⟨g6 + 1, 0, none⟩ = some (.int .i64 r) := hG7.cell 0
                    have a1 : w5.cell? ⟨g6 + 1, 1, none⟩ = some (.int .i64 (k' : Int)) := hG7.cell 1
                    have a2 : w5.cell? ⟨g6 + 1, 2, none⟩ = some (.bool true) := hG7.cell 2
                    have z0 : w5.frozen? ⟨g6 + 1, 0, none⟩ = false := hG7.free 0
                    have z1 : w5.frozen? ⟨g6 + 1, 1, none⟩ = false := hG7.free 1
                    have z2 : w5.frozen? ⟨g6 + 1, 2, none⟩ = false := hG7.free 2
                    have b0 : w5.cell? ⟨g6, 0, none⟩ = some (.int .i64 r) := hG6.cell 0
                    have hge : w.heap.size ≤ g6 + 1 ∧ g6 + 1 ≠ w.heap.size ∧ g6 + 1 ≠ w.heap.size + 1 := by
                      refine ⟨?_, ?_, ?_⟩
                      · omega
                      · exact fun e => by have := hM5.b4; rw [← e] at this; unfold Bk at this hG7; rw [hG7] at this; injection this with this; injection this with _ h; cases h
                      · exact fun e => by have := hM5.b5; rw [← e] at this; unfold Bk at this hG7; rw [hG7] at this; injection this with this; injection this with _ h; cases h
                    have hset : ∀ x0 x1 x2 : Value, Ch (fun i => i = g6 + 1) w5 (((w5.setCell ⟨g6 + 1, 0, none⟩ x0).setCell ⟨g6 + 1, 1, none⟩ x1).setCell ⟨g6 + 1, 2, none⟩ x2) := fun x0 x1 x2 =>
                      (((Ch.refl (fun i => i = g6 + 1) w5).set (p := ⟨g6 + 1, 0, none⟩) (.inl rfl) x0).set (p := ⟨g6 + 1, 1, none⟩) (.inl rfl) x1).set (p := ⟨g6 + 1, 2, none⟩) (.inl rfl) x2
                    have hM6 : ∀ x0 x1 x2 : Value, DcM w (((w5.setCell ⟨g6 + 1, 0, none⟩ x0).setCell ⟨g6 + 1, 1, none⟩ x1).setCell ⟨g6 + 1, 2, none⟩ x2) nt (.slice A1 q c1) (.slice A2 q c2) q q (rs.map (·.1)) (rs.map (·.2)) := fun x0 x1 x2 =>
                      hM5.ch (hset x0 x1 x2) (fun e => hge.2.1 e.symm) (fun e => hge.2.2 e.symm) (fun i hi => by rw [hi]; exact hge.1) (fun i hi cs hcs => by rw [hi] at hcs; unfold Bk at hcs hG7; rw [hG7] at hcs; injection hcs with hcs; injection hcs with _ h; cases h)
                    have hG76 : ∀ x0 x1 x2 : Value, Bk (((w5.setCell ⟨g6 + 1, 0, none⟩ x0).setCell ⟨g6 + 1, 1, none⟩ x1).setCell ⟨g6 + 1, 2, none⟩ x2) (g6 + 1) 69 #[x0, x1, x2] := fun x0 x1 x2 => by
                      have := ((hG7.set 0 x0).set 1 x1).set 2 x2
                      simpa using this
                    have hG66 : ∀ x0 x1 x2 : Value, Bk (((w5.setCell ⟨g6 + 1, 0, none⟩ x0).setCell ⟨g6 + 1, 1, none⟩ x1).setCell ⟨g6 + 1, 2, none⟩ x2) g6 69 #[.int .i64 r, .int .i64 (k' : Int), .bool true] := fun x0 x1 x2 => hG6.ch (hset x0 x1 x2) (by omega)
                    have HM6 := Lib.hid hM6
                    have HG76 := Lib.hid hG76
                    have HG66 := Lib.hid hG66
                    clear hM5 hG6 hG7 hset hM6 hG76 hG66 hb5 hge HM4 HG6 HG7 Hpl e1
                    cases hp3 : plainR (L.drop (k' + 1)) with
                    | none =>
                      rw [hp3] at hE
                      obtain rfl := hE
                      have hM7 := HM6.out (.int .i64 0) (.int .i64 0) (.bool false)
                      have hG7 := HG76.out (.int .i64 0) (.int .i64 0) (.bool false)
                      clear HM6 HG76 HG66
                      go_upto_region 14 with (fail)
                      generalize (((w5.setCell ⟨g6 + 1, 0, none⟩ (.int .i64 0)).setCell ⟨g6 + 1, 1, none⟩ (.int .i64 0)).setCell ⟨g6 + 1, 2, none⟩ (.bool false)) = w6 at hM7 hG7 ⊢
                      have a0 : w6.cell? ⟨g6 + 1, 2, none⟩ = some (.bool false) := hG7.cell 2
                      have HF := Lib.hid (hM7.no (L := L) (n := n) (R0 := R0) (by rw [← HR.out]; exact clsR_bad HT2.out HP2.out HY.out (by rw [← HD2.out]; exact hp3)))
                      obtain ⟨⟨d0, d1, d2, d3, d4⟩, g0, g1, g2, g3, g4⟩ := hM7.zs
                      clear hM7 hG7 a1 a2 z0 z1 z2 b0 hp3
                      go_wp2_with fail
                      have hB' := HF.out.2
                      have s0 := hB'.cell 0
                      have s1 := hB'.cell 1
                      have s2 := hB'.cell 2
                      have s3 := hB'.cell 3
                      have s4 := hB'.cell 4
                      simp [set5] at s0 s1 s2 s3 s4
                      exact bodyPost_ret (v := .agg #[.int .i64 (-1), .int .i64 0, .bool false, .slice none 0 0, .slice none 0 0]) (by simp [results, Tryd.results22, go_sem, s0, s1, s2, s3, s4]) rfl HF.out.1
                    | some z =>
                      obtain ⟨b, l6⟩ := z
                      rw [hp3] at hE
                      obtain ⟨k2, hk3, hk4, hl6, rfl⟩ := hE
                      have hR2 := HR.out
                      rw [clsR_two HT2.out HP2.out HY.out (by rw [← HD2.out]; exact hp3), hl6] at hR2
                      have hM7 := HM6.out (.int .i64 b) (.int .i64 (k2 : Int)) (.bool true)
                      have hG7 := HG76.out (.int .i64 b) (.int .i64 (k2 : Int)) (.bool true)
                      have hG6 := HG66.out (.int .i64 b) (.int .i64 (k2 : Int)) (.bool true)
                      have HR2 := Lib.hid hR2
                      clear HM6 HG76 HG66 hp3 hl6 hR2
                      go_upto_region 14 with (fail)
                      generalize (((w5.setCell ⟨g6 + 1, 0, none⟩ (.int .i64 b)).setCell ⟨g6 + 1, 1, none⟩ (.int .i64 (k2 : Int))).setCell ⟨g6 + 1, 2, none⟩ (.bool true)) = w6 at hM7 hG7 hG6 ⊢
                      have x2 : w6.cell? ⟨g6 + 1, 2, none⟩ = some (.bool true) := hG7.cell 2
                      have x0 : w6.cell? ⟨g6 + 1, 0, none⟩ = some (.int .i64 b) := hG7.cell 0
                      have y0 : w6.cell? ⟨g6, 0, none⟩ = some (.int .i64 r) := hG6.cell 0
                      clear a0 a1 a2 z0 z1 z2 b0
                      by_cases hbr : b < r
                      · have HF := Lib.hid (hM7.no (L := L) (n := n) (R0 := R0) (by rw [← HR2.out, if_pos hbr]))
                        obtain ⟨⟨d0, d1, d2, d3, d4⟩, g0, g1, g2, g3, g4⟩ := hM7.zs
                        clear hM7 hG7 hG6
                        go_wp2_with fail
                        have hB' := HF.out.2
                        have s0 := hB'.cell 0
                        have s1 := hB'.cell 1
                        have s2 := hB'.cell 2
                        have s3 := hB'.cell 3
                        have s4 := hB'.cell 4
                        simp [set5] at s0 s1 s2 s3 s4
                        exact bodyPost_ret (v := .agg #[.int .i64 (-1), .int .i64 0, .bool false, .slice none 0 0, .slice none 0 0]) (by simp [results, Tryd.results22, go_sem, s0, s1, s2, s3, s4]) rfl HF.out.1
                      · have HF := Lib.hid (show DclN w L n nt R0 rs r k' k g6 m1 (.slice A1 q c1) (.slice A2 q c2) q w6 from ⟨b, k2, hM7, hG6, hG7, by rw [← HR2.out, if_neg hbr], by omega, hk4⟩)
                        have hbr' : decide (b < r) = false := by simpa using hbr
                        clear hM7 hG7 hG6 hbr
                        go_wp2_with fail
                        go_meet
                        exact HF.out
                case rest =>
                  clear HM4 HG6 HG7 HT
                  obtain ⟨b, k2, hM, hG6, hG7, hR, hk3, hk4⟩ := hcut
                  have HR2 := Lib.hid hR
                  have e3 : wc.cell? ⟨w.heap.size + 1, 3, none⟩ = some (.slice A1 q c1) := hM.b5.cell 3
                  have y0 : wc.cell? ⟨g6, 0, none⟩ = some (.int .i64 r) := hG6.cell 0
                  clear hR
                  have HM := Lib.hid hM
                  have HO := Lib.hid (hM.o1.alloc (.cells #[.int .i64 r] 3))
                  have HRd := Lib.hid (Rd.oneI wc 3 r)
                  have HMA := Lib.hid (hM.bl ((Below.refl _ _).alloc (Nat.le_refl _) (.cells #[.int .i64 r] 3)))
                  have HG6 := Lib.hid (hG6.alloc (.cells #[.int .i64 r] 3))
                  have HG7 := Lib.hid (hG7.alloc (.cells #[.int .i64 r] 3))
                  have hzw : w.heap.size + 1 < wc.heap.size := hM.b5.lt
                  have hz2 : w.heap.size + 2 ≤ (wc.alloc (.cells #[.int .i64 r] 3)).heap.size := by simp; omega
                  have hqn : q ≤ 100000 := by omega
                  clear hM hG6 hG7
                  go_upto_region 17 with (at_builtin; (refine ap_its (w0 := wc.alloc (.cells #[.int .i64 r] 3)) HO.out HRd.out (Below.refl _ _) hz2 (by omega) (by rfl) (by rfl) (by rfl) ?_; intro v4 w4 hown4 hb4 hg4 hat4; obtain ⟨A4, d4, rfl, _, _⟩ := own_form hown4; have hm4 := HMA.out.ap1 hown4 hg4 hat4; have hbk4 := HMA.out.b5.below hb4 (by omega); have e4 := hbk4.cell 3; have f4 := hbk4.free 3; have hs4 : Ch (fun i => i = w.heap.size + 1) w4 (w4.setCell ⟨w.heap.size + 1, 3, none⟩ (.slice A4 (q + 1) d4)) := (Ch.refl (fun i => i = w.heap.size + 1) w4).set (p := ⟨w.heap.size + 1, 3, none⟩) (.inl rfl) _; have hG6n := HG6.out.grown hg4 (fun e => own_neT HO.out HG6.out (by decide) e.symm); have hG7n := HG7.out.grown hg4 (fun e => own_neT HO.out HG7.out (by decide) e.symm); have HM4 := Lib.hid hm4; have HG64 := Lib.hid (hG6n.ch hs4 (fun e => by have := HMA.out.b5; rw [← e] at this; unfold Bk at this; rw [show _ = _ from HG6.out] at this; injection this with this; injection this with _ h; cases h)); have HG74 := Lib.hid (hG7n.ch hs4 (fun e => by have := HMA.out.b5; rw [← e] at this; unfold Bk at this; rw [show _ = _ from HG7.out] at this; injection this with this; injection this with _ h; cases h)); clear hm4 hown4 hb4 hg4 hat4 hbk4 hs4 hG6n hG7n; simp at e4))
                  generalize (w4.setCell ⟨w.heap.size + 1, 3, none⟩ (.slice A4 (q + 1) d4)) = w5 at *
                  have k4 : w5.cell? ⟨w.heap.size + 1, 4, none⟩ = some (.slice A2 q c2) := HM4.out.b5.cell 4
                  have k0 : w5.cell? ⟨g6 + 1, 0, none⟩ = some (.int .i64 b) := HG74.out.cell 0
                  have HO2 := Lib.hid (HM4.out.o2.alloc (.cells #[.int .i64 b] 3))
                  have HRd2 := Lib.hid (Rd.oneI w5 3 b)
                  have HMA2 := Lib.hid (HM4.out.bl ((Below.refl _ _).alloc (Nat.le_refl _) (.cells #[.int .i64 b] 3)))
                  have HG72 := Lib.hid (HG74.out.alloc (.cells #[.int .i64 b] 3))
                  have hzw5 : w.heap.size + 1 < w5.heap.size := HM4.out.b5.lt
                  have hz5 : w.heap.size + 2 ≤ (w5.alloc (.cells #[.int .i64 b] 3)).heap.size := by simp; omega
                  clear HMA HO HRd HG6 HG7 HG64 HG74 HM e4 f4 e3 y0
                  go_upto_region 18 with (at_builtin; (refine ap_its (w0 := w5.alloc (.cells #[.int .i64 b] 3)) HO2.out HRd2.out (Below.refl _ _) hz5 (by omega) (by rfl) (by rfl) (by rfl) ?_; intro v6 w6 hown4 hb4 hg4 hat4; obtain ⟨A6, d6, rfl, _, _⟩ := own_form hown4; have hm4 := HMA2.out.ap2 hown4 hg4 hat4; have hbk4 := HMA2.out.b5.below hb4 (by omega); have e6 := hbk4.cell 4; have f6 := hbk4.free 4; have hs4 : Ch (fun i => i = w.heap.size + 1) w6 (w6.setCell ⟨w.heap.size + 1, 4, none⟩ (.slice A6 (q + 1) d6)) := (Ch.refl (fun i => i = w.heap.size + 1) w6).set (p := ⟨w.heap.size + 1, 4, none⟩) (.inl rfl) _; have hG7n := HG72.out.grown hg4 (fun e => own_neT HO2.out HG72.out (by decide) e.symm); have HM6 := Lib.hid hm4; have HG76 := Lib.hid (hG7n.ch hs4 (fun e => by have := HMA2.out.b5; rw [← e] at this; unfold Bk at this; rw [show _ = _ from HG72.out] at this; injection this with this; injection this with _ h; cases h)); clear hm4 hown4 hb4 hg4 hat4 hbk4 hs4 hG7n; simp at e6))
                  generalize (w6.setCell ⟨w.heap.size + 1, 4, none⟩ (.slice A6 (q + 1) d6)) = w7 at *
                  have k1' : w7.cell? ⟨g6 + 1, 1, none⟩ = some (.int .i64 (k2 : Int)) := HG76.out.cell 1
                  have HF := Lib.hid (show DclR w L nt R0 k2 w7 from by
                    have hls : (rs ++ [(r, b)]).length = q + 1 := by rw [List.length_append, Hq.out]; rfl
                    refine ⟨m1, rs ++ [(r, b)], .slice A4 (q + 1) d4, .slice A6 (q + 1) d6, ?_, HR2.out, ?_, by rw [hls]; omega⟩
                    · rw [hls, List.map_append, List.map_append]; exact HM6.out
                    · have := HmL.out; rw [List.length_drop] at this ⊢; rw [Hl.out] at this ⊢; omega)
                  clear HO2 HRd2 HMA2 HG72 HM4 HM6 HG76 k4 k0 e6 f6
                  go_wp2_with fail
                  go_roundw
                  case rel => exact ⟨k2, rfl, hk4, HF⟩
                  case measure => simp [intOf]; omega
end Go.Proofs.YtbdehlphblbmoaaDoor
