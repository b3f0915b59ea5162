/- The document's reader of texts: Read. -/
import Derived.Test.YtbdehlphblbmoaaDoorGlbR
namespace Go.Proofs.YtbdehlphblbmoaaDoor
open Go.RowKit Go.Lib
attribute [local go_sem ↓] Go.wp_at_zero Go.wp_at_succ

theorem wide_utf (l : List UInt8) (hne : l ≠ []) (h : ¬ ((decodeL l).1 = 65533 ∧ (decodeL l).2 = 1)) : (decodeL l).2 = utfLen (decodeL l).1 ∧ (decodeL l).2 ≤ l.length := by
  have hl : 0 < l.length := List.length_pos_iff.2 hne
  rw [decodeL_N] at h ⊢
  refine ⟨?_, decodeN_width_le _ _ _ _ _ (by omega)⟩
  have k0 := (l.getD 0 0).toNat_lt
  generalize (l.getD 0 0).toNat = b0 at *
  generalize (l.getD 1 0).toNat = b1 at *
  generalize (l.getD 2 0).toNat = b2 at *
  generalize (l.getD 3 0).toNat = b3 at *
  revert h
  unfold decodeN utfLen
  (repeat' split) <;> intro h <;> first | rfl | (exfalso; exact h ⟨rfl, rfl⟩) | omega
/-- What Read gives. -/
def ReE (w : World) (l : List UInt8) (e : Ending) (w' : World) : Prop :=
  Below w.heap.size w w' ∧ (validD l = true ∧ (∃ A n c, e = .returned (.agg #[.slice A n c, .bool true]) ∧ Rd w' w'.heap.size 1 A n (its (runesL l)) ∧ n ≤ c) ∨ validD l = false ∧ e = .returned (.agg #[.slice none 0 0, .bool false]))
/-- The runes while they are read. -/
structure ReM (w : World) (W : World) (v : Value) (L : List Int) : Prop where
  b2 : Bk W w.heap.size 44 #[.slice none 0 0, .bool false]
  b3 : Bk W (w.heap.size + 1) 44 #[v, .bool true]
  own : W.ownsRow (w.heap.size + 2) 3 1 v L.length (its L)
  bw : Below w.heap.size w W
theorem ReM.ch {w W W' : World} {v : Value} {L : List Int} (h : ReM w W v L) (k : Below W.heap.size W W') : ReM w W' v L := by
  have hc : Ch (fun _ => False) W W' := Ch.of_below k (Nat.le_refl _)
  exact ⟨h.b2.ch hc (fun h => h), h.b3.ch hc (fun h => h), own_ch h.own hc (fun _ _ h => h), h.bw.trans (k.mono h.bw.size)⟩
set_option maxHeartbeats 4000000 in
set_option maxRecDepth 100000 in
theorem read_any (A : Option Addr) (n c B : Nat) (l : List UInt8) (w : World) (hr : Rd w B 1 A n (bys l)) (hnc : n ≤ c) (hB : B ≤ w.heap.size) (hn2 : n ≤ 100000) :
    Calls Tryd.prog 17 #[.slice A n c] w (ReE w l) := by
  have hlen := hr.blen
  have Hr := Lib.hid hr
  have Hl := Lib.hid hlen
  have HM0 := Lib.hid (show ReM w ((w.alloc (.cells #[.slice none 0 0, .bool false] 44)).alloc (.cells #[.slice none 0 0, .bool true] 44)) (.slice none 0 0) [] from
    ⟨(Bk.new w _ _).alloc _, Bk.new' _ _ _ (by simp), own_nilI _ _ _, ((Below.refl _ _).alloc (Nat.le_refl _) _).alloc (by simp) _⟩)
  clear hr hlen
  go_enter Tryd.func17, Tryd.ntmps17
  go_wp2_with fail
  generalize ((w.alloc (.cells #[.slice none 0 0, .bool false] 44)).alloc (.cells #[.slice none 0 0, .bool true] 44)) = w1 at *
  have Hb := Lib.hid (show w.heap.size = w.heap.size from rfl)
  clear Hb
  go_loopw [4] (fun i wr => ∃ k : Nat, i = .int .i64 (k : Int) ∧ k ≤ n ∧ Hid (∃ v L, ReM w wr v L ∧ runesL l = L ++ runesL (l.drop k) ∧ validD l = validD (l.drop k) ∧ L.length ≤ k)) (fun i _ => n - (intOf i).toNat)
  case atStart => exact ⟨0, rfl, Nat.zero_le _, Lib.hid ⟨_, [], HM0.out, rfl, rfl, Nat.le_refl _⟩⟩
  case round =>
    obtain ⟨k, rfl, hk, HI⟩ := hrel
    obtain ⟨v, L, i1, i2, i3, i4⟩ := HI.out
    clear HI HM0
    by_cases hlt : k < n
    · obtain ⟨b, o, u0, rfl, hb, hu0, _, _⟩ := Hr.out.byte hlt
      have hne : l.drop k ≠ [] := by
        intro e
        have := congrArg List.length e
        rw [List.length_drop, Hl.out] at this
        simp at this
        omega
      have hck : ¬ c = k := by omega
      have hrk : Rd wr B 1 (some ⟨b, o + k, none⟩) (n - k) (bys (l.drop k)) := by
        have := (Hr.out.below i1.bw hB).bcut (k := k) (m := n - k) (by omega) (A' := some ⟨b, o + k, none⟩) (fun _ => by simp [addLit])
        rwa [List.take_of_length_le (by rw [List.length_drop, Hl.out]; omega)] at this
      have Hnx := Lib.hid (next_any (some ⟨b, o + k, none⟩) (n - k) (c - k) B (l.drop k) wr hrk (by omega) (by have := i1.bw.size; omega) (by omega))
      have hst := runesL_step (l.drop k) hne
      have hvs := validD_step (l.drop k) hne
      have hrn := decodeL_rune (l.drop k)
      have HI1 := Lib.hid i1
      have q0 : (0 : Int) ≤ (k : Int) := by omega
      have q1 : (k : Int) ≤ (n : Int) := by omega
      by_cases hbad : (decodeL (l.drop k)).1 = 65533 ∧ (decodeL (l.drop k)).2 = 1
      · have hnv : nextV (l.drop k) = -1 := by unfold nextV; rw [if_pos hbad]
        rw [if_pos hbad] at hvs
        rw [hnv] at Hnx
        have HV := Lib.hid (show validD l = false from i3.trans hvs)
        clear hst hvs hrn hbad hnv hne hrk i1 i2 i3 i4
        go_wp2_with fail
        with_reducible refine Hnx.out.mono ?_
        rintro e w5 ⟨rfl, hb5⟩
        have h5 := HI1.out.ch hb5
        have c0 : w5.cell? ⟨w.heap.size, 0, none⟩ = some (.slice none 0 0) := h5.b2.cell 0
        have c1 : w5.cell? ⟨w.heap.size, 1, none⟩ = some (.bool false) := h5.b2.cell 1
        have f0 : w5.frozen? ⟨w.heap.size, 0, none⟩ = false := h5.b2.free 0
        have f1 : w5.frozen? ⟨w.heap.size, 1, none⟩ = false := h5.b2.free 1
        have HB := Lib.hid h5.bw
        have H6 := Lib.hid ((h5.b2.set 0 (.slice none 0 0)).set 1 (.bool false))
        clear h5 hb5
        go_wp2_with fail
        have s0 := H6.out.cell 0
        have s1 := H6.out.cell 1
        simp at s0 s1
        exact bodyPost_ret (v := .agg #[.slice none 0 0, .bool false]) (by simp [results, Tryd.results17, go_sem, s0, s1]) rfl ⟨(HB.out.setCell (Nat.le_refl _) _).setCell (Nat.le_refl _) _, .inr ⟨HV.out, rfl⟩⟩
      · have hnv : nextV (l.drop k) = ((decodeL (l.drop k)).1 : Nat) := by unfold nextV; rw [if_neg hbad]
        obtain ⟨hw1, hw2⟩ := wide_utf _ hne hbad
        have hw0 := decodeL_width (l.drop k)
        rw [if_neg hbad] at hvs
        rw [hnv] at Hnx
        rw [List.length_drop, Hl.out] at hw2
        rw [List.drop_drop] at hst hvs
        have HR := Lib.hid (show runesL l = (L ++ [(((decodeL (l.drop k)).1 : Nat) : Int)]) ++ runesL (l.drop (k + (decodeL (l.drop k)).2)) from by rw [i2, hst]; simp)
        have HV := Lib.hid (show validD l = validD (l.drop (k + (decodeL (l.drop k)).2)) from i3.trans hvs)
        rw [hw1] at HR HV hw2 hw0
        clear hst hvs hnv hne hrk hbad hw1
        generalize (decodeL (l.drop k)).1 = r at *
        have Hut := Lib.hid (fun W => utf_any r W (by omega))
        have HU := Lib.hid (show 1 ≤ utfLen r ∧ k + utfLen r ≤ n from by omega)
        have HL := Lib.hid i4
        have hul : utfLen r ≤ 4 := by unfold utfLen; (repeat' split) <;> omega
        generalize utfLen r = ul at *
        clear i1 i2 i3 i4 hw0 hw2
        go_wp2_with fail
        with_reducible refine Hnx.out.mono ?_
        rintro e w5 ⟨rfl, hb5⟩
        have h5 := HI1.out.ch hb5
        obtain ⟨A8, c8, rfl, _, _⟩ := own_form h5.own
        have hr0 : ¬ (r : Int) < 0 := by omega
        have c0 : w5.cell? ⟨w.heap.size + 1, 0, none⟩ = some (.slice A8 L.length c8) := h5.b3.cell 0
        have H5 := Lib.hid h5
        have HO := Lib.hid (h5.own.alloc (.cells #[.int .i64 (r : Int)] 3))
        have HRd := Lib.hid (Rd.oneI w5 3 (r : Int))
        have HbA := Lib.hid (h5.b3.alloc (.cells #[.int .i64 (r : Int)] 3))
        have hz5 := h5.b3.lt
        have hll : L.length ≤ 100000 := by have := HL.out; omega
        clear h5 hb5 Hnx
        go_wp2_with (at_builtin; (refine ap_its (w0 := w5.alloc (.cells #[.int .i64 (r : Int)] 3)) HO.out HRd.out (Below.refl _ _) (by simp; omega) (by omega) (by rfl) (by rfl) (by rfl) ?_; intro v4 w4 hown4 hb4 hg4 hat4; obtain ⟨A4, d4, rfl, _, _⟩ := own_form hown4; have hbk4 := HbA.out.below hb4 (by omega); have e4 := hbk4.cell 0; have f4 := hbk4.free 0; have Hw4 := Lib.hid hown4; have Hb4 := Lib.hid hb4; have Hk4 := Lib.hid hbk4; clear hown4 hb4 hg4 hat4 hbk4; simp at e4))
        have h6 : ReM w (w4.setCell ⟨w.heap.size + 1, 0, none⟩ (.slice A4 (L.length + 1) d4)) (.slice A4 (L.length + 1) d4) (L ++ [(r : Int)]) := by
          have hcs : Ch (fun i => i = w.heap.size + 1) w4 (w4.setCell ⟨w.heap.size + 1, 0, none⟩ (.slice A4 (L.length + 1) d4)) := (Ch.refl (fun i => i = w.heap.size + 1) w4).set (p := ⟨w.heap.size + 1, 0, none⟩) (.inl rfl) _
          refine ⟨((H5.out.b2.alloc _).below Hb4.out (by omega)).ch hcs (by omega), ?_, ?_, ?_⟩
          · have := Hk4.out.set 0 (.slice A4 (L.length + 1) d4)
            simpa using this
          · rw [List.length_append]
            exact own_ch Hw4.out hcs (fun i hi e => by have := (Hw4.out.lt i hi).1; omega)
          · exact ((H5.out.bw.alloc H5.out.bw.size _).trans (Hb4.out.mono (by omega))).setCell (by show w.heap.size ≤ w.heap.size + 1; omega) _
        have H6 := Lib.hid h6
        clear h6 HO HRd HbA Hw4 Hb4 Hk4 e4 f4 H5 HI1 c0
        with_reducible refine (Hut.out _).mono ?_
        rintro e w7 ⟨⟨A7, c7, rfl⟩, hb7⟩
        have H7 := Lib.hid (H6.out.ch hb7)
        clear hb7 H6
        have q2 : IntKind.i64.wrap ((k : Int) + (ul : Int)) = (k : Int) + (ul : Int) := IntWalk.i64_in _ (by omega)
        go_wp2_with fail
        go_roundw
        case rel => exact ⟨k + ul, by go_num, HU.out.2, Lib.hid ⟨_, L ++ [(r : Int)], H7.out, HR.out, HV.out, by rw [List.length_append]; have := HL.out; have := HU.out.1; simp; omega⟩⟩
        case measure => have := HU.out; simp [intOf]; omega
    · have hkn : k = n := by omega
      obtain ⟨A8, c8, rfl, hnc8, _⟩ := own_form i1.own
      have hd : l.drop k = [] := List.drop_of_length_le (by rw [Hl.out]; omega)
      rw [hd, runesL_nil, List.append_nil] at i2
      rw [hd] at i3
      have c0 : wr.cell? ⟨w.heap.size + 1, 0, none⟩ = some (.slice A8 L.length c8) := i1.b3.cell 0
      have c1 : wr.cell? ⟨w.heap.size + 1, 1, none⟩ = some (.bool true) := i1.b3.cell 1
      have d0 : wr.cell? ⟨w.heap.size, 0, none⟩ = some (.slice none 0 0) := i1.b2.cell 0
      have d1 : wr.cell? ⟨w.heap.size, 1, none⟩ = some (.bool false) := i1.b2.cell 1
      have f0 : wr.frozen? ⟨w.heap.size, 0, none⟩ = false := i1.b2.free 0
      have f1 : wr.frozen? ⟨w.heap.size, 1, none⟩ = false := i1.b2.free 1
      have s0 := ((i1.b2.set 0 (.slice A8 L.length c8)).set 1 (.bool true)).cell 0
      have s1 := ((i1.b2.set 0 (.slice A8 L.length c8)).set 1 (.bool true)).cell 1
      simp at s0 s1
      have hcs : Ch (fun i => i = w.heap.size) wr ((wr.setCell ⟨w.heap.size, 0, none⟩ (.slice A8 L.length c8)).setCell ⟨w.heap.size, 1, none⟩ (.bool true)) :=
        ((Ch.refl (fun i => i = w.heap.size) wr).set (p := ⟨w.heap.size, 0, none⟩) (.inl rfl) _).set (p := ⟨w.heap.size, 1, none⟩) (.inl rfl) _
      have HE := Lib.hid (show ReE w l (.returned (.agg #[.slice A8 L.length c8, .bool true])) ((wr.setCell ⟨w.heap.size, 0, none⟩ (.slice A8 L.length c8)).setCell ⟨w.heap.size, 1, none⟩ (.bool true)) from
        ⟨(i1.bw.setCell (Nat.le_refl _) _).setCell (Nat.le_refl _) _, .inl ⟨i3, A8, L.length, c8, rfl, by rw [i2]; exact Rd.of_own (own_ch i1.own hcs (fun i hi e => by have := (i1.own.lt i hi).1; omega)), hnc8⟩⟩)
      have Hs0 := Lib.hid s0
      have Hs1 := Lib.hid s1
      clear i1 i2 i3 i4 s0 s1 hcs hd
      go_wp2_with fail
      have s0 := Hs0.out
      have s1 := Hs1.out
      exact bodyPost_ret (v := .agg #[.slice A8 L.length c8, .bool true]) (by simp [results, Tryd.results17, go_sem, s0, s1]) rfl HE.out
end Go.Proofs.YtbdehlphblbmoaaDoor
