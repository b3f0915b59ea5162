/- The document's patterns: New. -/
import Derived.Test.YtbdehlphblbmoaaDoorGlbX
namespace Go.Proofs.YtbdehlphblbmoaaDoor
open Go.RowKit
attribute [local go_sem ↓] Go.wp_at_zero Go.wp_at_succ

theorem isR_at {L : List Int} {k : Nat} {c : Int} (h : L[k]? = some c) : isR c (L.drop k) = (true, L.drop (k + 1)) := by rw [isR_cons h, if_pos rfl]
theorem isR_no {L : List Int} {k : Nat} {x c : Int} (h : L[k]? = some x) (hx : x ≠ c) : isR c (L.drop k) = (false, L.drop k) := by rw [isR_cons h, if_neg hx]
theorem isR_off {L : List Int} {k : Nat} {c : Int} (h : L[k]? ≠ some c) : (isR c (L.drop k)).1 = false ∧ (isR c (L.drop k)).2 = L.drop k := by
  cases hx : L[k]? with
  | none =>
    rw [List.drop_of_length_le (List.getElem?_eq_none_iff.1 hx)]
    exact ⟨rfl, rfl⟩
  | some x =>
    rw [isR_no hx (fun e => h (by rw [hx, e]))]
    exact ⟨rfl, rfl⟩
theorem part_q {L : List Int} {k : Nat} (h : L[k]? = some 63) : partR (L.drop k) = some (.one, L.drop (k + 1)) := by
  rw [partR_one (by rw [isR_at h]), isR_at h]
theorem part_ss {L : List Int} {k : Nat} (h : L[k]? = some 42) (h2 : L[k + 1]? = some 42) : partR (L.drop k) = some (.stars true, L.drop (k + 1 + 1)) := by
  rw [partR_star (by rw [isR_no h (by decide)]) (by rw [isR_at h]), isR_at h]
  simp only
  rw [isR_at h2]
theorem part_s {L : List Int} {k : Nat} (h : L[k]? = some 42) (h2 : L[k + 1]? ≠ some 42) : partR (L.drop k) = some (.stars false, L.drop (k + 1)) := by
  rw [partR_star (by rw [isR_no h (by decide)]) (by rw [isR_at h]), isR_at h]
  simp only
  rw [(isR_off h2).1, (isR_off h2).2]
theorem part_c {L : List Int} {k : Nat} (h : L[k]? = some 91) : partR (L.drop k) = match clsR ((L.drop (k + 1)).length + 1) [] (isR 33 (L.drop (k + 1))).2 with
    | none => none
    | some (rs, m) => some (.cls (isR 33 (L.drop (k + 1))).1 rs, m) := by
  have e := partR_cls (l := L.drop k) (by rw [isR_no h (by decide)]) (by rw [isR_no h (by decide)]) (by rw [isR_at h])
  rw [isR_at h] at e
  exact e
theorem part_l {L : List Int} {k : Nat} {x : Int} (h : L[k]? = some x) (h1 : x ≠ 63) (h2 : x ≠ 42) (h3 : x ≠ 91) : partR (L.drop k) = match plainR (L.drop k) with
    | none => none
    | some (c, m) => some (.lit c, m) := by
  exact partR_lit (by rw [isR_no h h1]) (by rw [isR_no h h2]) (by rw [isR_no h h3])
theorem newR_go {m : Nat} {ps : List PtP} {L l' : List Int} {k : Nat} {u : Int} {p : PtP} (hu : L[k]? = some u) (hp : partR (L.drop k) = some (p, l')) : newR (m + 1) ps (L.drop k) = newR m (ps ++ [p]) l' := by
  rw [drop_cons hu] at hp ⊢
  exact newR_some hp
theorem newR_no {m : Nat} {ps : List PtP} {L : List Int} {k : Nat} {u : Int} (hu : L[k]? = some u) (hp : partR (L.drop k) = none) : newR (m + 1) ps (L.drop k) = none := by
  rw [drop_cons hu] at hp ⊢
  exact newR_bad hp
/-- What New gives. -/
def DNwE (w : World) (s : ByteArray) (e : Ending) (w' : World) : Prop :=
  Below w.heap.size w w' ∧ (100 < s.size ∧ e = .returned (.agg #[.slice none 0 0, .int .i64 10]) ∨
    s.size ≤ 100 ∧ (Lib.validD s.data.toList = false ∨ newR s.size [] (rnB s) = none) ∧ e = .returned (.agg #[.slice none 0 0, .int .i64 4]) ∨
    s.size ≤ 100 ∧ Lib.validD s.data.toList = true ∧ ∃ A c ps, newR s.size [] (rnB s) = some ps ∧ e = .returned (.agg #[.slice A ps.length c, .int .i64 0]) ∧ RdPs w' w'.heap.size A ps ∧ ps.length ≤ 100 ∧ ps.length ≤ c)
/-- What the loop holds. -/
def DNwR (w : World) (g4 : Nat) (A : Option Addr) (n : Nat) (L : List Int) (R0 : Option (List PtP)) (k : Nat) (W : World) : Prop :=
  ∃ m x ps, DNm w W g4 A n L x ps ∧ newR m ps (L.drop k) = R0 ∧ (L.drop k).length ≤ m ∧ ps.length ≤ k
/-- The result's block, written. -/
theorem DNm.res {w W : World} {g4 n : Nat} {A : Option Addr} {L : List Int} {x : Value} {ps : List PtP} (h : DNm w W g4 A n L x ps) (y0 y1 : Value) :
    Bk ((W.setCell ⟨w.heap.size, 0, none⟩ y0).setCell ⟨w.heap.size, 1, none⟩ y1) w.heap.size 32 #[y0, y1] ∧ Below w.heap.size w ((W.setCell ⟨w.heap.size, 0, none⟩ y0).setCell ⟨w.heap.size, 1, none⟩ y1) ∧
    Ch (fun i => i = w.heap.size) W ((W.setCell ⟨w.heap.size, 0, none⟩ y0).setCell ⟨w.heap.size, 1, none⟩ y1) := by
  refine ⟨?_, (h.bw.setCell (Nat.le_refl _) _).setCell (Nat.le_refl _) _, ((Ch.refl (fun i => i = w.heap.size) W).set (p := ⟨w.heap.size, 0, none⟩) (.inl rfl) _).set (p := ⟨w.heap.size, 1, none⟩) (.inl rfl) _⟩
  have := (h.b2.set 0 y0).set 1 y1
  simpa using this
theorem DNm.zs {w W : World} {g4 n : Nat} {A : Option Addr} {L : List Int} {x : Value} {ps : List PtP} (h : DNm w W g4 A n L x ps) :
    W.cell? ⟨w.heap.size, 0, none⟩ = some (.slice none 0 0) ∧ W.cell? ⟨w.heap.size, 1, none⟩ = some (.int .i64 0) ∧ W.frozen? ⟨w.heap.size, 0, none⟩ = false ∧ W.frozen? ⟨w.heap.size, 1, none⟩ = false :=
  ⟨h.b2.cell 0, h.b2.cell 1, h.b2.free 0, h.b2.free 1⟩
set_option maxHeartbeats 4000000 in
set_option maxRecDepth 100000 in
theorem dnew_any (s : ByteArray) (w : World) (hs : s.size ≤ 1000000) :
    Calls Tryd.prog 12 #[.string s] w (DNwE w s) := by
  by_cases h1 : 100 < s.size
  · have h2 : (100 : Int) < (s.size : Int) := by omega
    have HE := Lib.hid h1
    clear h1
    go_enter Tryd.func12, Tryd.ntmps12
    go_wp2_with fail
    exact bodyPost_ret (v := .agg #[.slice none 0 0, .int .i64 10]) (by simp [results, Tryd.results12, go_sem]) rfl ⟨(Below.refl _ _).alloc (Nat.le_refl _) _, .inl ⟨HE.out, rfl⟩⟩
  have h2 : ¬ (100 : Int) < (s.size : Int) := by omega
  have hs1 : s.size ≤ 100 := by omega
  clear h1
  have hB0 := Bk.new w 32 #[.slice none 0 0, .int .i64 0]
  have hW0 := (Below.refl w.heap.size w).alloc (Nat.le_refl _) (.cells #[.slice none 0 0, .int .i64 0] 32)
  have hz0 : (w.alloc (.cells #[.slice none 0 0, .int .i64 0] 32)).heap.size = w.heap.size + 1 := by simp
  obtain ⟨c1, w1, hcv, hc1, hr1, hb1, hz1⟩ := conv_str s (w.alloc (.cells #[.slice none 0 0, .int .i64 0] 32))
  rw [hz0] at hcv hr1 hb1 hz1
  have HRe := Lib.hid (read_any (some ⟨w.heap.size + 1, 0, none⟩) s.size c1 (w.heap.size + 1 + 1) s.data.toList w1 hr1 hc1 (by omega) (by omega))
  have HB1 := Lib.hid (Bk.below hB0 hb1 (by omega))
  have HW1 := Lib.hid (hW0.trans (hb1.mono (by omega)))
  have hzw : w.heap.size < w1.heap.size := by omega
  clear hr1 hb1 hB0 hW0 hz0 hz1
  go_enter Tryd.func12, Tryd.ntmps12
  go_wp2_with fail
  with_reducible refine HRe.out.mono ?_
  rintro e w2 ⟨hb2, hE⟩
  have HB2 := Lib.hid (Bk.below HB1.out hb2 HB1.out.lt)
  have HW2 := Lib.hid (HW1.out.trans (hb2.mono (by omega)))
  have hz2 := hb2.size
  clear hb2 HB1 HW1 HRe
  rcases hE with ⟨hv, A, n, c, rfl, hrd, hnc⟩ | ⟨hv, rfl⟩
  · have hnl : n ≤ 100 := by
      have h1 := hrd.ilen
      have h2 : (rnB s).length ≤ s.size := rnFrom_le s s.size 0
      rw [← rnB_L] at h1
      omega
    rw [← rnB_L] at hrd
    have Hl := Lib.hid hrd.ilen
    have HM0 := Lib.hid (show DNm w ((w2.alloc (.cells #[.slice A n c, .bool true] 44)).alloc (.cells #[.slice none 0 0, .int .i64 0] 32)) (w2.heap.size + 1) A n (rnB s) (.slice none 0 0) [] from
      ⟨(HB2.out.alloc _).alloc _, Bk.new' _ _ _ (by simp), ⟨[], World.ownsRow_nil _ _ _ _, fun i p hp => by simp at hp⟩, (HW2.out.alloc (by omega) _).alloc (by simp; omega) _, by omega, ((hrd.alloc (Nat.le_refl _) _).alloc (by simp) _).more (by omega)⟩)
    have HV := Lib.hid hv
    clear HB2 HW2 hrd hv
    go_wp2_with fail
    generalize ((w2.alloc (.cells #[.slice A n c, .bool true] 44)).alloc (.cells #[.slice none 0 0, .int .i64 0] 32)) = w3 at *
    obtain ⟨g4, hg4⟩ : ∃ g4, w2.heap.size + 1 = g4 := ⟨_, rfl⟩
    rw [hg4] at HM0
    simp only [hg4]
    clear hg4 hz2
    obtain ⟨R0, hR0⟩ : ∃ R0, newR s.size [] (rnB s) = R0 := ⟨_, rfl⟩
    have HR0 := Lib.hid hR0
    clear hR0
    go_loopw [6] (fun v6 wr => ∃ k : Nat, v6 = .int .i64 (k : Int) ∧ k ≤ n ∧ Hid (DNwR w g4 A n (rnB s) R0 k wr)) (fun v6 _ => n - (intOf v6).toNat)
    case atStart => exact ⟨0, rfl, Nat.zero_le _, Lib.hid ⟨s.size, _, [], HM0.out, HR0.out, by rw [List.drop_zero]; exact rnFrom_le s s.size 0, Nat.le_refl _⟩⟩
    case round =>
      obtain ⟨k, rfl, hk, HI⟩ := hrel
      obtain ⟨m, x, ps, i1, i2, i3, i4⟩ := HI.out
      clear HI HM0
      obtain ⟨A0, c0, rfl, hc0⟩ := i1.own.form
      by_cases hlt : k < n
      · obtain ⟨m1, rfl⟩ : ∃ m1, m = m1 + 1 := ⟨m - 1, by rw [List.length_drop, Hl.out] at i3; omega⟩
        rw [List.length_drop, Hl.out] at i3
        obtain ⟨b, o, u, rfl, hb, hu, hcu⟩ := i1.rd.num hlt
        have q1 : IntKind.i64.wrap ((k : Int) + 1) = (k : Int) + 1 := IntWalk.i64_in _ (by omega)
        have q2 : IntKind.i64.wrap ((k : Int) + 2) = (k : Int) + 2 := IntWalk.i64_in _ (by omega)
        have hlt' : (k : Int) < (n : Int) := by omega
        have hcz := i1.rd
        by_cases h63 : u = 63
        · subst h63
          have hp := part_q hu
          have HR' := Lib.hid (show newR m1 (ps ++ [.one]) ((rnB s).drop (k + 1)) = R0 from by rw [← newR_go hu hp]; exact i2)
          have c4 : wr.cell? ⟨g4, 0, none⟩ = some (.slice A0 ps.length c0) := i1.b4.cell 0
          have HM3 := Lib.hid (i1.bl ((Below.refl _ _).alloc (Nat.le_refl _) (.cells #[.int .i64 1, .int .i64 0, .bool false, .slice none 0 0, .slice none 0 0] 66)))
          have HvO := Lib.hid (show DPo (wr.alloc (.cells #[.int .i64 1, .int .i64 0, .bool false, .slice none 0 0, .slice none 0 0] 66)) (g4 + 1) .one [.int .i64 1, .int .i64 0, .bool false, .slice none 0 0, .slice none 0 0] from rfl)
          have HQ := Lib.hid (Bk.new wr 66 #[.int .i64 1, .int .i64 0, .bool false, .slice none 0 0, .slice none 0 0])
          clear hp i1 i2 hu hcz
          go_wp2_with (at_builtin; (refine ap_dp HM3.out HvO.out HQ.out (by omega) (by rfl) (by rfl) ?_; intro A' c' W' hN hch hN1 hN2; have HN := Lib.hid hN; clear hN hch))
          go_roundw
          case rel => exact ⟨k + 1, by go_num, by omega, Lib.hid ⟨m1, _, ps ++ [.one], HN.out, HR'.out, by rw [List.length_drop, Hl.out]; omega, by rw [List.length_append]; simp; omega⟩⟩
          case measure => simp [intOf]; omega
        · have g63 : (u == 63) = false := by simpa using h63
          by_cases h42 : u = 42
          · subst h42
            by_cases hn1 : k + 1 < n
            · obtain ⟨b', o', y, ea, _, hy, hcy⟩ := i1.rd.num hn1
              injection ea with ea
              injection ea with ea1 ea2 _
              subst ea1 ea2
              have hn1' : (k : Int) + 1 < (n : Int) := by omega
              by_cases hy42 : y = 42
              · subst hy42
                clear h63
                have hp := part_ss hu hy
                have HR' := Lib.hid (show newR m1 (ps ++ [(.stars true)]) ((rnB s).drop (k + 1 + 1)) = R0 from by rw [← newR_go hu hp]; exact i2)
                have c4 : wr.cell? ⟨g4, 0, none⟩ = some (.slice A0 ps.length c0) := i1.b4.cell 0
                have HM3 := Lib.hid (i1.bl ((Below.refl _ _).alloc (Nat.le_refl _) (.cells #[.int .i64 3, .int .i64 0, .bool false, .slice none 0 0, .slice none 0 0] 66)))
                have HvO := Lib.hid (show DPo (wr.alloc (.cells #[.int .i64 3, .int .i64 0, .bool false, .slice none 0 0, .slice none 0 0] 66)) (g4 + 1) (.stars true) [.int .i64 3, .int .i64 0, .bool false, .slice none 0 0, .slice none 0 0] from rfl)
                have HQ := Lib.hid (Bk.new wr 66 #[.int .i64 3, .int .i64 0, .bool false, .slice none 0 0, .slice none 0 0])
                clear hp i1 i2 hu hy hcz
                go_wp2_with (at_builtin; (refine ap_dp HM3.out HvO.out HQ.out (by omega) (by rfl) (by rfl) ?_; intro A' c' W' hN hch hN1 hN2; have HN := Lib.hid hN; clear hN hch))
                go_roundw
                case rel => exact ⟨k + 1 + 1, by go_num, by omega, Lib.hid ⟨m1, _, ps ++ [(.stars true)], HN.out, HR'.out, by rw [List.length_drop, Hl.out]; omega, by rw [List.length_append]; simp; omega⟩⟩
                case measure => simp [intOf]; omega
              · have gy : (y == 42) = false := by simpa using hy42
                have hy' : (rnB s)[k + 1]? ≠ some 42 := fun e => hy42 (by rw [hy] at e; injection e)
                have hp := part_s hu hy'
                have HR' := Lib.hid (show newR m1 (ps ++ [(.stars false)]) ((rnB s).drop (k + 1)) = R0 from by rw [← newR_go hu hp]; exact i2)
                have c4 : wr.cell? ⟨g4, 0, none⟩ = some (.slice A0 ps.length c0) := i1.b4.cell 0
                have HM3 := Lib.hid (i1.bl ((Below.refl _ _).alloc (Nat.le_refl _) (.cells #[.int .i64 2, .int .i64 0, .bool false, .slice none 0 0, .slice none 0 0] 66)))
                have HvO := Lib.hid (show DPo (wr.alloc (.cells #[.int .i64 2, .int .i64 0, .bool false, .slice none 0 0, .slice none 0 0] 66)) (g4 + 1) (.stars false) [.int .i64 2, .int .i64 0, .bool false, .slice none 0 0, .slice none 0 0] from rfl)
                have HQ := Lib.hid (Bk.new wr 66 #[.int .i64 2, .int .i64 0, .bool false, .slice none 0 0, .slice none 0 0])
                clear hp i1 i2 hu hy hcz hy' hy42 h63
                go_wp2_with (at_builtin; (refine ap_dp HM3.out HvO.out HQ.out (by omega) (by rfl) (by rfl) ?_; intro A' c' W' hN hch hN1 hN2; have HN := Lib.hid hN; clear hN hch))
                go_roundw
                case rel => exact ⟨k + 1, by go_num, by omega, Lib.hid ⟨m1, _, ps ++ [(.stars false)], HN.out, HR'.out, by rw [List.length_drop, Hl.out]; omega, by rw [List.length_append]; simp; omega⟩⟩
                case measure => simp [intOf]; omega
            · have hn1' : ¬ (k : Int) + 1 < (n : Int) := by omega
              have hy' : (rnB s)[k + 1]? ≠ some 42 := by rw [List.getElem?_eq_none (by rw [Hl.out]; omega)]; simp
              have hp := part_s hu hy'
              have HR' := Lib.hid (show newR m1 (ps ++ [(.stars false)]) ((rnB s).drop (k + 1)) = R0 from by rw [← newR_go hu hp]; exact i2)
              have c4 : wr.cell? ⟨g4, 0, none⟩ = some (.slice A0 ps.length c0) := i1.b4.cell 0
              have HM3 := Lib.hid (i1.bl ((Below.refl _ _).alloc (Nat.le_refl _) (.cells #[.int .i64 2, .int .i64 0, .bool false, .slice none 0 0, .slice none 0 0] 66)))
              have HvO := Lib.hid (show DPo (wr.alloc (.cells #[.int .i64 2, .int .i64 0, .bool false, .slice none 0 0, .slice none 0 0] 66)) (g4 + 1) (.stars false) [.int .i64 2, .int .i64 0, .bool false, .slice none 0 0, .slice none 0 0] from rfl)
              have HQ := Lib.hid (Bk.new wr 66 #[.int .i64 2, .int .i64 0, .bool false, .slice none 0 0, .slice none 0 0])
              clear hp i1 i2 hu hcz hy' hn1 h63
              go_wp2_with (at_builtin; (refine ap_dp HM3.out HvO.out HQ.out (by omega) (by rfl) (by rfl) ?_; intro A' c' W' hN hch hN1 hN2; have HN := Lib.hid hN; clear hN hch))
              go_roundw
              case rel => exact ⟨k + 1, by go_num, by omega, Lib.hid ⟨m1, _, ps ++ [(.stars false)], HN.out, HR'.out, by rw [List.length_drop, Hl.out]; omega, by rw [List.length_append]; simp; omega⟩⟩
              case measure => simp [intOf]; omega
          · have g42 : (u == 42) = false := by simpa using h42
            by_cases h91 : u = 91
            · subst h91
              have Hcl := Lib.hid (dclass_any (some ⟨b, o, none⟩) n c g4 (k + 1) (((rnB s).drop (k + 1)).length + 1) (rnB s) wr hcz (by omega) (by have := i1.b4.lt; omega) (by omega) (by have := isR_len 33 ((rnB s).drop (k + 1)); omega))
              rw [show ((k + 1 : Nat) : Int) = (k : Int) + 1 from by omega] at Hcl
              have hp := part_c hu
              obtain ⟨X, hX⟩ : ∃ X, isR 33 ((rnB s).drop (k + 1)) = X := ⟨_, rfl⟩
              rw [hX] at hp Hcl
              obtain ⟨R1, hR1⟩ : ∃ R1, clsR (((rnB s).drop (k + 1)).length + 1) [] X.2 = R1 := ⟨_, rfl⟩
              rw [hR1] at hp Hcl
              have Hu := Lib.hid hu
              have Hp := Lib.hid hp
              have I1 := Lib.hid i1
              have I2 := Lib.hid i2
              clear hX hR1 hp i1 i2 hu hcz h63 h42
              generalize X.1 = nt at *
              go_wp2_with fail
              with_reducible refine Hcl.out.mono ?_
              rintro e w5 ⟨hb5, hE⟩
              have h5 := I1.out.bl hb5
              cases R1 with
              | none =>
                obtain rfl := hE
                have HZ := Lib.hid (h5.bl ((Below.refl _ _).alloc (Nat.le_refl _) (.cells #[.int .i64 (-1), .int .i64 0, .bool false, .slice none 0 0, .slice none 0 0] 66)))
                have HNo := Lib.hid (show newR s.size [] (rnB s) = none from by rw [HR0.out, ← I2.out]; exact newR_no Hu.out Hp.out)
                clear h5 hb5 Hcl I1 I2 Hu Hp hcu
                obtain ⟨s0, s1, z0, z1⟩ := HZ.out.zs
                obtain ⟨hb', hw', _⟩ := HZ.out.res (.slice none 0 0) (.int .i64 4)
                have t0 := hb'.cell 0
                have t1 := hb'.cell 1
                simp at t0 t1
                have HT0 := Lib.hid t0
                have HT1 := Lib.hid t1
                have HW' := Lib.hid hw'
                clear hb' hw' t0 t1
                go_wp2_with fail
                have t0 := HT0.out
                have t1 := HT1.out
                exact bodyPost_ret (v := .agg #[.slice none 0 0, .int .i64 4]) (by simp [results, Tryd.results12, go_sem, t0, t1]) rfl ⟨HW'.out, .inr (.inl ⟨hs1, .inr HNo.out, rfl⟩)⟩
              | some z =>
                obtain ⟨rs, l6⟩ := z
                obtain ⟨k', A1, c1', A2, c2', hk', hl6, hrs, rfl, ho1, ho2⟩ := hE
                have hless := partR_less Hp.out
                rw [hl6, List.length_drop, List.length_drop, Hl.out] at hless
                have HR' := Lib.hid (show newR m1 (ps ++ [.cls nt rs]) ((rnB s).drop k') = R0 from by rw [← hl6, ← newR_go Hu.out Hp.out]; exact I2.out)
                have hz5 : g4 + 1 ≤ wr.heap.size := I1.out.b4.lt
                have h6 := h5.bl ((Below.refl _ _).alloc (Nat.le_refl _) (.cells #[.int .i64 4, .int .i64 0, .bool nt, .slice A1 rs.length c1', .slice A2 rs.length c2'] 66))
                have c4 : (w5.alloc (.cells #[.int .i64 4, .int .i64 0, .bool nt, .slice A1 rs.length c1', .slice A2 rs.length c2'] 66)).cell? ⟨g4, 0, none⟩ = some (.slice A0 ps.length c0) := h6.b4.cell 0
                have HM3 := Lib.hid (h6.bl ((Below.refl _ _).alloc (Nat.le_refl _) (.cells #[.int .i64 4, .int .i64 0, .bool nt, .slice A1 rs.length c1', .slice A2 rs.length c2'] 66)))
                have HvO := Lib.hid (show DPo ((w5.alloc (.cells #[.int .i64 4, .int .i64 0, .bool nt, .slice A1 rs.length c1', .slice A2 rs.length c2'] 66)).alloc (.cells #[.int .i64 4, .int .i64 0, .bool nt, .slice A1 rs.length c1', .slice A2 rs.length c2'] 66)) (g4 + 1) (.cls nt rs) [.int .i64 4, .int .i64 0, .bool nt, .slice A1 rs.length c1', .slice A2 rs.length c2'] from
                  ⟨A1, c1', A2, c2', rfl, own_base ((ho1.alloc _).alloc _) hz5, own_base ((ho2.alloc _).alloc _) hz5, by omega⟩)
                have HQ := Lib.hid (Bk.new' (w5.alloc (.cells #[.int .i64 4, .int .i64 0, .bool nt, .slice A1 rs.length c1', .slice A2 rs.length c2'] 66)) 66 #[.int .i64 4, .int .i64 0, .bool nt, .slice A1 rs.length c1', .slice A2 rs.length c2'] (g := w5.heap.size + 1) (by simp))
                clear h5 h6 hb5 Hcl I1 I2 Hu Hp hl6 ho1 ho2 hcu
                generalize rs.length = rl at *
                go_wp2_with (at_builtin; (refine ap_dp HM3.out HvO.out HQ.out (by omega) (by rfl) (by rfl) ?_; intro A' c' W' hN hch hN1 hN2; have HN := Lib.hid hN; clear hN hch))
                go_roundw
                case rel => exact ⟨k', by go_num, hk', Lib.hid ⟨m1, _, ps ++ [.cls nt rs], HN.out, HR'.out, by rw [List.length_drop, Hl.out]; omega, by rw [List.length_append]; simp; omega⟩⟩
                case measure => simp [intOf]; omega
            · have g91 : (u == 91) = false := by simpa using h91
              have Hpl := Lib.hid (dplain_any (some ⟨b, o, none⟩) n c g4 k (rnB s) wr hcz hk (by have := i1.b4.lt; omega) (by omega))
              have hp := part_l hu h63 h42 h91
              have Hu := Lib.hid hu
              have I1 := Lib.hid i1
              have I2 := Lib.hid i2
              clear i1 i2 hu hcz h63 h42 h91
              go_wp2_with fail
              with_reducible refine Hpl.out.mono ?_
              rintro e w5 ⟨hb5, hE⟩
              have h5 := I1.out.bl hb5
              cases hpl : plainR ((rnB s).drop k) with
              | none =>
                rw [hpl] at hE hp
                obtain rfl := hE
                have HZ := Lib.hid (h5.bl ((Below.refl _ _).alloc (Nat.le_refl _) (.cells #[.int .i64 0, .int .i64 0, .bool false] 69)))
                have HNo := Lib.hid (show newR s.size [] (rnB s) = none from by rw [HR0.out, ← I2.out]; exact newR_no Hu.out hp)
                clear h5 hb5 Hpl I1 I2 Hu hp hpl hcu
                obtain ⟨s0, s1, z0, z1⟩ := HZ.out.zs
                obtain ⟨hb', hw', _⟩ := HZ.out.res (.slice none 0 0) (.int .i64 4)
                have t0 := hb'.cell 0
                have t1 := hb'.cell 1
                simp at t0 t1
                have HT0 := Lib.hid t0
                have HT1 := Lib.hid t1
                have HW' := Lib.hid hw'
                clear hb' hw' t0 t1
                go_wp2_with fail
                have t0 := HT0.out
                have t1 := HT1.out
                exact bodyPost_ret (v := .agg #[.slice none 0 0, .int .i64 4]) (by simp [results, Tryd.results12, go_sem, t0, t1]) rfl ⟨HW'.out, .inr (.inl ⟨hs1, .inr HNo.out, rfl⟩)⟩
              | some z =>
                obtain ⟨r, l6⟩ := z
                rw [hpl] at hE hp
                obtain ⟨k', hk1, hk', hl6, rfl⟩ := hE
                have HR' := Lib.hid (show newR m1 (ps ++ [.lit r]) ((rnB s).drop k') = R0 from by rw [← hl6, ← newR_go Hu.out hp]; exact I2.out)
                have h6 := h5.bl ((Below.refl _ _).alloc (Nat.le_refl _) (.cells #[.int .i64 r, .int .i64 (k' : Int), .bool true] 69))
                have c4 : (w5.alloc (.cells #[.int .i64 r, .int .i64 (k' : Int), .bool true] 69)).cell? ⟨g4, 0, none⟩ = some (.slice A0 ps.length c0) := h6.b4.cell 0
                have HM3 := Lib.hid (h6.bl ((Below.refl _ _).alloc (Nat.le_refl _) (.cells #[.int .i64 0, .int .i64 r, .bool false, .slice none 0 0, .slice none 0 0] 66)))
                have HT9 := Lib.hid (((Bk.new w5 69 #[.int .i64 r, .int .i64 (k' : Int), .bool true]).alloc (.cells #[.int .i64 0, .int .i64 r, .bool false, .slice none 0 0, .slice none 0 0] 66)))
                have HNE := Lib.hid (show ¬ (Value.slice A0 ps.length c0).ownBlock = some w5.heap.size from fun e => by obtain ⟨_, o1, _⟩ := h5.own; have := (o1.lt _ e).2; omega)
                have hne9 : ¬ w5.heap.size = g4 := by have := h5.b4.lt; omega
                have HvO := Lib.hid (show DPo ((w5.alloc (.cells #[.int .i64 r, .int .i64 (k' : Int), .bool true] 69)).alloc (.cells #[.int .i64 0, .int .i64 r, .bool false, .slice none 0 0, .slice none 0 0] 66)) (g4 + 1) (.lit r) [.int .i64 0, .int .i64 r, .bool false, .slice none 0 0, .slice none 0 0] from rfl)
                have HQ := Lib.hid (Bk.new' (w5.alloc (.cells #[.int .i64 r, .int .i64 (k' : Int), .bool true] 69)) 66 #[.int .i64 0, .int .i64 r, .bool false, .slice none 0 0, .slice none 0 0] (g := w5.heap.size + 1) (by simp))
                clear h5 h6 hb5 Hpl I1 I2 Hu hp hpl hl6 hcu
                go_wp2_with (at_builtin; (refine ap_dp HM3.out HvO.out HQ.out (by omega) (by rfl) (by rfl) ?_; intro A' c' W' hN hch hN1 hN2; have hN9 := (HT9.out.ch hch HNE.out).cell 1; have hN8 : (W'.setCell ⟨g4, 0, none⟩ (.slice A' (ps.length + 1) c')).cell? ⟨w5.heap.size, 1, none⟩ = some (.int .i64 (k' : Int)) := (World.cell?_setCell_other W' ⟨g4, 0, none⟩ ⟨w5.heap.size, 1, none⟩ _ (fun e => hne9 (by injection e with e; first | exact e | exact e.symm))).trans (by simpa using hN9); have HN := Lib.hid hN; clear hN hch hN9))
                go_roundw
                case rel => exact ⟨k', by go_num, hk', Lib.hid ⟨m1, _, ps ++ [.lit r], HN.out, HR'.out, by rw [List.length_drop, Hl.out]; omega, by rw [List.length_append]; simp; omega⟩⟩
                case measure => simp [intOf]; omega
      · have hkn : k = n := by omega
        rw [List.drop_of_length_le (by rw [Hl.out]; omega), newR_end] at i2
        have HX := Lib.hid (show newR s.size [] (rnB s) = some ps from by rw [HR0.out, ← i2])
        have c4 : wr.cell? ⟨g4, 0, none⟩ = some (.slice A0 ps.length c0) := i1.b4.cell 0
        have c5 : wr.cell? ⟨g4, 1, none⟩ = some (.int .i64 0) := i1.b4.cell 1
        obtain ⟨s0, s1, z0, z1⟩ := i1.zs
        obtain ⟨hb', hw', hch⟩ := i1.res (.slice A0 ps.length c0) (.int .i64 0)
        have t0 := hb'.cell 0
        have t1 := hb'.cell 1
        simp at t0 t1
        have HP := Lib.hid ((i1.own.ch hch (fun i hi e => by have := i1.own.lt i hi; have := i1.gw; omega) (fun v n xs ho i hi e => by have := (ho.lt i hi).1; have := i1.gw; omega)).rd rfl)
        have HT0 := Lib.hid t0
        have HT1 := Lib.hid t1
        have HW' := Lib.hid hw'
        clear hb' hw' t0 t1 hch i1 i2 i3
        go_wp2_with fail
        have t0 := HT0.out
        have t1 := HT1.out
        exact bodyPost_ret (v := .agg #[.slice A0 ps.length c0, .int .i64 0]) (by simp [results, Tryd.results12, go_sem, t0, t1]) rfl ⟨HW'.out, .inr (.inr ⟨hs1, HV.out, A0, c0, ps, HX.out, rfl, HP.out, by omega, hc0⟩)⟩
  · have HB3 := HB2.out.alloc (.cells #[.slice none 0 0, .bool false] 44)
    have s0 : (w2.alloc (.cells #[.slice none 0 0, .bool false] 44)).cell? ⟨w.heap.size, 0, none⟩ = some (.slice none 0 0) := HB3.cell 0
    have s1 : (w2.alloc (.cells #[.slice none 0 0, .bool false] 44)).cell? ⟨w.heap.size, 1, none⟩ = some (.int .i64 0) := HB3.cell 1
    have z0 : (w2.alloc (.cells #[.slice none 0 0, .bool false] 44)).frozen? ⟨w.heap.size, 0, none⟩ = false := HB3.free 0
    have z1 : (w2.alloc (.cells #[.slice none 0 0, .bool false] 44)).frozen? ⟨w.heap.size, 1, none⟩ = false := HB3.free 1
    have t0 := ((HB3.set 0 (.slice none 0 0)).set 1 (.int .i64 4)).cell 0
    have t1 := ((HB3.set 0 (.slice none 0 0)).set 1 (.int .i64 4)).cell 1
    simp at t0 t1
    have HT0 := Lib.hid t0
    have HT1 := Lib.hid t1
    have HV := Lib.hid hv
    have HW' := Lib.hid ((((HW2.out.alloc (by omega) (.cells #[.slice none 0 0, .bool false] 44))).setCell (p := ⟨w.heap.size, 0, none⟩) (Nat.le_refl _) (.slice none 0 0)).setCell (p := ⟨w.heap.size, 1, none⟩) (Nat.le_refl _) (.int .i64 4))
    clear HB3 t0 t1 hv HB2 HW2
    go_wp2_with fail
    have t0 := HT0.out
    have t1 := HT1.out
    exact bodyPost_ret (v := .agg #[.slice none 0 0, .int .i64 4]) (by simp [results, Tryd.results12, go_sem, t0, t1]) rfl ⟨HW'.out, .inr (.inl ⟨hs1, .inl HV.out, rfl⟩)⟩
end Go.Proofs.YtbdehlphblbmoaaDoor
