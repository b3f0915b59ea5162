/- Contracts of package glob: Head. -/
import Derived.Test.YtbdehlphblbmoaaDoorGlbM
import Derived.Test.YtbdehlphblbmoaaDoorGlbQ
namespace Go.Proofs.YtbdehlphblbmoaaDoor
open Go.RowKit
attribute [local go_sem ↓] Go.wp_at_zero Go.wp_at_succ

theorem infoIt : (Tryd.prog.info? 75).map (fun i => i.zero) = some (some (.int .i32 0)) := by kernel_rfl
theorem tai_yes (v : Value) (w : World) : (Instr.typeAssert (.iface 75 v) 57 75 true).run Tryd.prog w = .ok (.tuple #[v, .bool true]) w := by
  simp [Instr.typeAssert, run_underlying Tryd.underlying75]
theorem tai_no (t : TypeId) (ht : t ≠ 75) (v : Value) (w : World) : (Instr.typeAssert (.iface t v) 57 75 true).run Tryd.prog w = .ok (.tuple #[.int .i32 0, .bool false]) w := by
  obtain ⟨i, hi, hz⟩ : ∃ i, Tryd.prog.info? 75 = some i ∧ i.zero = some (.int .i32 0) := by
    have := infoIt
    cases h : Tryd.prog.info? 75 with
    | none => rw [h] at this; cases this
    | some i => rw [h] at this; exact ⟨i, rfl, by simpa using this⟩
  simp [Instr.typeAssert, run_underlying Tryd.underlying75, ht, zeroValue, typeInfo, hi, hz]
theorem string_any (b : Nat) (l : List UInt8) (w : World) (h : BD w b l) :
    Calls Tryd.prog 25 #[.pointer (some ⟨b, 0, none⟩)] w fun e w' => e = .returned (.string ⟨l.toArray⟩) ∧ Below b w w' :=
  Tryd.Builder_String_any b b l w h.is (by have := h.lt; omega)
theorem headR_drop {ps : List PtP} {j : Nat} {p : PtP} (h : ps[j]? = some p) : headR (ps.drop j) = headR (p :: ps.drop (j + 1)) := by
  have hl := (List.getElem?_eq_some_iff.1 h).1
  rw [List.drop_eq_getElem_cons hl, (List.getElem?_eq_some_iff.1 h).2]
theorem head_nil (w : World) : Calls Tryd.prog 15 #[.pointer none] w fun e w' => e = .returned (.tuple #[.string ⟨#[]⟩, .bool false]) ∧ w' = w := by
  go_enter Tryd.func15, Tryd.ntmps15
  go_wp2
  go_ret2
  exact ⟨rfl, by first | rfl | trivial⟩
theorem match_nil (s : ByteArray) (w : World) : Calls Tryd.prog 11 #[.pointer none, .string s] w fun e w' => e = .returned (.bool false) ∧ w' = w := by
  go_enter Tryd.func11, Tryd.ntmps11
  go_wp2
  go_ret
  exact ⟨rfl, by first | rfl | trivial⟩
theorem match_long (g : Nat) (s : ByteArray) (w : World) (hs : 1000 < s.size) : Calls Tryd.prog 11 #[.pointer (some ⟨g, 0, none⟩), .string s] w fun e w' => e = .returned (.bool false) ∧ w' = w := by
  have hs' : (1000 : Int) < (s.size : Int) := by omega
  go_enter Tryd.func11, Tryd.ntmps11
  go_wp2
  go_ret
  exact ⟨rfl, by first | rfl | trivial⟩
set_option maxHeartbeats 4000000 in
set_option maxRecDepth 100000 in
theorem head_any (g B : Nat) (ps : List PtP) (w : World) (h : GlM w B g ps) (hB : B ≤ w.heap.size) (hr : ∀ r, PtP.lit r ∈ ps → okR r) (hn : ps.length ≤ 1000) :
    Calls Tryd.prog 15 #[.pointer (some ⟨g, 0, none⟩)] w fun e w' => e = .returned (.tuple #[.string ⟨(encL (headR ps).1).toArray⟩, .bool (headR ps).2]) ∧ Below w.heap.size w w' := by
  obtain ⟨A, n, c0, vs, h1, h2, h3, h4, h5⟩ := id h
  have r0 : (w.alloc (.cells #[.pointer none, .slice none 0 0] 74)).cell? ⟨g, 0, none⟩ = some (.slice A n c0) := (h1.alloc _).cell 0
  have H2 := Lib.hid h2
  have H5 := Lib.hid h5
  have H3 := Lib.hid h3
  have Hr := Lib.hid hr
  have HB0 := Lib.hid (BD.new w)
  have HC0 := Lib.hid ((Below.refl w.heap.size w).alloc (Nat.le_refl _) (.cells #[.pointer none, .slice none 0 0] 74))
  clear h h1 h2 h5 h3 hr
  go_enter Tryd.func15, Tryd.ntmps15
  go_wp2_with fail
  clear r0
  generalize hbb : w.heap.size = bb at *
  have Hbb := Lib.hid hbb
  clear hbb
  generalize (w.alloc (.cells #[.pointer none, .slice none 0 0] 74)) = w1 at *
  go_loopw [16] (fun i wr => ∃ j : Nat, i = .int .i64 j ∧ j ≤ n ∧ Hid (∃ L, BD wr bb (encL L) ∧ L.length = j ∧ Below bb w wr ∧ headR ps = (L ++ (headR (ps.drop j)).1, (headR (ps.drop j)).2))) (fun i _ => n - (intOf i).toNat)
  case atStart => exact ⟨0, rfl, Nat.zero_le _, Lib.hid ⟨[], HB0.out, rfl, HC0.out, by simp⟩⟩
  case round =>
    obtain ⟨j, rfl, hj, HI⟩ := hrel
    obtain ⟨L, i1, i2, i3, i4⟩ := HI.out
    clear HI HB0 HC0
    by_cases hlt : j < n
    · obtain ⟨p, hpj⟩ : ∃ p, ps[j]? = some p := ⟨_, List.getElem?_eq_getElem (by have := H3.out; omega)⟩
      obtain ⟨b, o, v, rfl, hb, hv, hc⟩ := H2.out.at_ hlt
      have hpt := H5.out j _ v hpj hv
      have hcr : wr.cell? ⟨b, o + j, none⟩ = some v := (World.cell?_of_block (i3.block b (by have := Hbb.out; omega))).trans hc
      rw [headR_drop hpj] at i4
      have hls := encL_len L
      have hst := string_any bb (encL L) wr i1
      cases p with
      | lit r =>
        have hvv : v = .iface 75 (.int .i32 r) := hpt
        subst hvv
        have hok := Hr.out r (List.mem_of_getElem? hpj)
        have hw := wrune_any bb (encL L) r wr i1 (by omega) (by unfold okR at hok; omega) (by unfold okR at hok; omega)
        have Hw := Lib.hid hw
        have HB := Lib.hid i3
        have q1 : IntKind.i64.wrap ((j : Int) + 1) = (j : Int) + 1 := IntWalk.i64_in _ (by omega)
        have HH := Lib.hid (show headR ps = ((L ++ [r]) ++ (headR (ps.drop (j + 1))).1, (headR (ps.drop (j + 1))).2) from by rw [i4, headR]; simp)
        have Hj := Lib.hid (show (L ++ [r]).length = j + 1 from by rw [List.length_append, i2]; rfl)
        have hta := fun (v : Value) (w : World) => tai_yes v w
        clear hpt hok hw i1 i2 i3 i4 hls hst hpj hv hc
        go_wp2_with fail
        with_reducible refine Hw.out.mono ?_
        rintro e w2 ⟨⟨nn, rfl⟩, d1, d2, d3⟩
        have HF := Lib.hid (show ∃ L, BD w2 bb (encL L) ∧ L.length = j + 1 ∧ Below bb w w2 ∧ headR ps = (L ++ (headR (ps.drop (j + 1))).1, (headR (ps.drop (j + 1))).2) from
          ⟨L ++ [r], by rw [encL_app, encL_one]; exact d1, Hj.out, HB.out.trans d3, HH.out⟩)
        clear d1 d2 d3
        go_wp2_with fail
        go_roundw
        case rel => exact ⟨j + 1, by go_num, by omega, HF⟩
        case measure => simp [intOf]; omega
      | one =>
        have hvv : v = .iface 93 (.agg #[]) := hpt
        subst hvv
        have hta := fun (v : Value) (w : World) => tai_no 93 (by decide) v w
        have Hst := Lib.hid hst
        have HB := Lib.hid i3
        have HH := Lib.hid (show headR ps = (L, false) from by rw [i4, headR]; simp; intro _ h; cases h)
        clear hpt i1 i2 i3 i4 hls hst hpj hv hc
        go_wp2_with fail
        with_reducible refine Hst.out.mono ?_
        rintro e w2 ⟨rfl, d3⟩
        have HD := Lib.hid (HB.out.trans d3)
        clear d3
        go_wp2_with fail
        go_ret2
        exact ⟨show Ending.returned (.tuple #[.string ⟨(encL L).toArray⟩, .bool false]) = _ from by rw [HH.out], by rw [Hbb.out]; exact HD.out⟩
      | stars d =>
        have hvv : v = .iface 64 (.agg #[.bool d]) := hpt
        subst hvv
        have hta := fun (v : Value) (w : World) => tai_no 64 (by decide) v w
        have Hst := Lib.hid hst
        have HB := Lib.hid i3
        have HH := Lib.hid (show headR ps = (L, false) from by rw [i4, headR]; simp; intro _ h; cases h)
        clear hpt i1 i2 i3 i4 hls hst hpj hv hc
        go_wp2_with fail
        with_reducible refine Hst.out.mono ?_
        rintro e w2 ⟨rfl, d3⟩
        have HD := Lib.hid (HB.out.trans d3)
        clear d3
        go_wp2_with fail
        go_ret2
        exact ⟨show Ending.returned (.tuple #[.string ⟨(encL L).toArray⟩, .bool false]) = _ from by rw [HH.out], by rw [Hbb.out]; exact HD.out⟩
      | cls nt rs =>
        obtain ⟨A1, c1, A2, c2, rfl, _⟩ := hpt
        have hta := fun (v : Value) (w : World) => tai_no 102 (by decide) v w
        have Hst := Lib.hid hst
        have HB := Lib.hid i3
        have HH := Lib.hid (show headR ps = (L, false) from by rw [i4, headR]; simp; intro _ h; cases h)
        clear i1 i2 i3 i4 hls hst hpj hv hc
        go_wp2_with fail
        with_reducible refine Hst.out.mono ?_
        rintro e w2 ⟨rfl, d3⟩
        have HD := Lib.hid (HB.out.trans d3)
        clear d3
        go_wp2_with fail
        go_ret2
        exact ⟨show Ending.returned (.tuple #[.string ⟨(encL L).toArray⟩, .bool false]) = _ from by rw [HH.out], by rw [Hbb.out]; exact HD.out⟩
    · have hjn : j = n := by omega
      have Hst := Lib.hid (string_any bb (encL L) wr i1)
      have HB := Lib.hid i3
      have HH := Lib.hid (show headR ps = (L, true) from by rw [i4, List.drop_of_length_le (by rw [H3.out]; omega)]; simp [headR])
      clear i1 i2 i3 i4
      go_wp2_with fail
      with_reducible refine Hst.out.mono ?_
      rintro e w2 ⟨rfl, d3⟩
      have HD := Lib.hid (HB.out.trans d3)
      clear d3
      go_wp2_with fail
      go_ret2
      exact ⟨show Ending.returned (.tuple #[.string ⟨(encL L).toArray⟩, .bool true]) = _ from by rw [HH.out], by rw [Hbb.out]; exact HD.out⟩
end Go.Proofs.YtbdehlphblbmoaaDoor
