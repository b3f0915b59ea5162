/- Contracts of package glob: open. -/
import Derived.Test.YtbdehlphblbmoaaDoorGlbC
namespace Go.Proofs.YtbdehlphblbmoaaDoor
open Go.RowKit
attribute [local go_sem ↓] Go.wp_at_zero Go.wp_at_succ

/-- A pattern in memory. -/
def GlM (W : World) (B g : Nat) (ps : List PtP) : Prop :=
  ∃ A n c vs, Bk W g 51 #[.slice A n c] ∧ Rd W B 1 A n vs ∧ ps.length = n ∧ n ≤ 100000 ∧ ∀ (i : Nat) p v, ps[i]? = some p → vs[i]? = some v → PtV W B p v
theorem GlM.lt {W : World} {B g : Nat} {ps : List PtP} (h : GlM W B g ps) : g < W.heap.size := by obtain ⟨_, _, _, _, h, _⟩ := h; exact h.lt
theorem GlM.ch {W W' : World} {S : Nat → Prop} {B g : Nat} {ps : List PtP} (h : GlM W B g ps) (k : Ch S W W') (hB : B ≤ W.heap.size) (hg : ¬ S g) (hs : ∀ i, S i → B ≤ i) : GlM W' B g ps := by
  obtain ⟨A, n, c, vs, h1, h2, h3, h4, h5⟩ := h
  exact ⟨A, n, c, vs, h1.ch k hg, h2.ch k hB hs, h3, h4, fun i p v hp hv => (h5 i p v hp hv).keep fun q hq => World.cell?_of_block (k.block q.block (by omega) (fun e => by have := hs _ e; omega))⟩
/-- Booleans, as cells. -/
def bls (l : List Bool) : List Value := l.map Value.bool
theorem bls_len (l : List Bool) : (bls l).length = l.length := by simp [bls]
theorem bls_at {l : List Bool} {i : Nat} {b : Bool} (h : l[i]? = some b) : (bls l).toArray[i]? = some (.bool b) := by simp [bls, h]
theorem bls_set (l : List Bool) (i : Nat) (b : Bool) : (bls l).toArray.setIfInBounds i (.bool b) = (bls (l.set i b)).toArray := by simp [bls, List.map_set]
/-- The places behind stars, marked in the first rounds. -/
def openN (ps : List PtP) (a : List Bool) : Nat → List Bool
  | 0 => a
  | j + 1 => match ps[j]? with
    | some p => if isStar p && (openN ps a j)[j]?.getD false then (openN ps a j).set (j + 1) true else openN ps a j
    | none => openN ps a j
theorem openN_len (ps : List PtP) (a : List Bool) : ∀ j, (openN ps a j).length = a.length
  | 0 => rfl
  | j + 1 => by
    rw [openN]
    split
    · split
      · rw [List.length_set, openN_len ps a j]
      · exact openN_len ps a j
    · exact openN_len ps a j
theorem openN_step {ps : List PtP} {a : List Bool} {j : Nat} {p : PtP} (h : ps[j]? = some p) : openN ps a (j + 1) = if isStar p && (openN ps a j)[j]?.getD false then (openN ps a j).set (j + 1) true else openN ps a j := by
  rw [openN, h]
theorem infoSt : (Tryd.prog.info? 64).map (fun i => i.zero) = some (some (.agg #[.bool false])) := by kernel_rfl
theorem ta_yes (v : Value) (w : World) : (Instr.typeAssert (.iface 64 v) 57 64 true).run Tryd.prog w = .ok (.tuple #[v, .bool true]) w := by
  simp [Instr.typeAssert, run_underlying Tryd.underlying64]
theorem ta_no (t : TypeId) (ht : t ≠ 64) (v : Value) (w : World) : (Instr.typeAssert (.iface t v) 57 64 true).run Tryd.prog w = .ok (.tuple #[.agg #[.bool false], .bool false]) w := by
  obtain ⟨i, hi, hz⟩ : ∃ i, Tryd.prog.info? 64 = some i ∧ i.zero = some (.agg #[.bool false]) := by
    have := infoSt
    cases h : Tryd.prog.info? 64 with
    | none => rw [h] at this; cases this
    | some i => rw [h] at this; exact ⟨i, rfl, by simpa using this⟩
  simp [Instr.typeAssert, run_underlying Tryd.underlying64, ht, zeroValue, typeInfo, hi, hz]
set_option maxHeartbeats 4000000 in
set_option maxRecDepth 100000 in
theorem open_any (g B ba c : Nat) (ps : List PtP) (a : List Bool) (w : World) (h : GlM w B g ps) (hba : B ≤ ba) (ha : Bk w ba 4 (bls a).toArray) (hl : a.length = ps.length + 1) :
    Calls Tryd.prog 21 #[.pointer (some ⟨g, 0, none⟩), .slice (some ⟨ba, 0, none⟩) (ps.length + 1) c] w fun e w' => e = .returned (.tuple #[]) ∧ Bk w' ba 4 (bls (openN ps a ps.length)).toArray ∧ Ch (fun i => i = ba) w w' := by
  obtain ⟨A, n, c0, vs, h1, h2, h3, h4, h5⟩ := id h
  have HG := Lib.hid h
  have H2 := Lib.hid h2
  have H5 := Lib.hid h5
  have hgb : g ≠ ba := fun e => by subst e; have := h1.symm.trans ha; injection this with this; injection this with _ ht; exact absurd ht (by decide)
  have r0 : w.cell? ⟨g, 0, none⟩ = some (.slice A n c0) := h1.cell 0
  have HA := Lib.hid ha
  have Hl := Lib.hid hl
  have Hps := Lib.hid h3
  have hbl := ha.lt
  rw [h3]
  clear h h1 h2 h5 ha hl h3
  go_enter Tryd.func21, Tryd.ntmps21
  go_wp2_with fail
  go_loopw [13] (fun i wr => ∃ j : Nat, i = .int .i64 j ∧ j ≤ n ∧ Hid (Bk wr ba 4 (bls (openN ps a j)).toArray ∧ Ch (fun i => i = ba) w wr)) (fun i _ => n - (intOf i).toNat)
  case atStart => exact ⟨0, rfl, Nat.zero_le _, Lib.hid ⟨HA.out, Ch.refl _ _⟩⟩
  case round =>
    obtain ⟨j, rfl, hj, HI⟩ := hrel
    obtain ⟨hbk, hch⟩ := HI.out
    clear r0
    by_cases hlt : j < n
    · obtain ⟨p, hpj⟩ : ∃ p, ps[j]? = some p := ⟨_, List.getElem?_eq_getElem (by have := Hps.out; omega)⟩
      obtain ⟨b, o, v, rfl, hb, hv, hc⟩ := H2.out.at_ hlt
      have hpt := H5.out j _ v hpj hv
      have hcr : wr.cell? ⟨b, o + j, none⟩ = some v := (World.cell?_of_block (hch.block b (by omega) (by show ¬ b = ba; omega))).trans hc
      have hst := openN_step (a := a) hpj
      have hln := openN_len ps a j
      have hz := hch.size
      have hb2 : Bk (wr.alloc (.cells #[.bool false] 64)) ba 4 (bls (openN ps a j)).toArray := hbk.alloc _
      have hc2 := hch.alloc (.cells #[.bool false] 64)
      cases p with
      | stars d =>
        have hvv : v = .iface 64 (.agg #[.bool d]) := hpt
        subst hvv
        have hb3 : Bk (wr.alloc (.cells #[.bool d] 64)) ba 4 (bls (openN ps a j)).toArray := hbk.alloc _
        have hc3 := hch.alloc (.cells #[.bool d] 64)
        have hbv : (openN ps a j)[j]? = some ((openN ps a j)[j]?.getD false) := by
          rw [List.getElem?_eq_getElem (by rw [hln, Hl.out, Hps.out]; omega)]; rfl
        obtain ⟨bb, hbb⟩ : ∃ bb, (openN ps a j)[j]?.getD false = bb := ⟨_, rfl⟩
        rw [hbb] at hbv hst
        have k1 : (wr.alloc (.cells #[.bool d] 64)).cell? ⟨ba, j, none⟩ = some (.bool bb) := (hb3.cell j).trans (bls_at hbv)
        have hb1v : ∃ y, (openN ps a j)[j + 1]? = some y := ⟨_, List.getElem?_eq_getElem (by rw [hln, Hl.out, Hps.out]; omega)⟩
        obtain ⟨y, hy⟩ := hb1v
        have k2 : (wr.alloc (.cells #[.bool d] 64)).cell? ⟨ba, j + 1, none⟩ = some (.bool y) := (hb3.cell (j + 1)).trans (bls_at hy)
        have k3 : (wr.alloc (.cells #[.bool d] 64)).frozen? ⟨ba, j + 1, none⟩ = false := hb3.free (j + 1)
        have q1 : IntKind.i64.wrap ((j : Int) + 1) = (j : Int) + 1 := IntWalk.i64_in _ (by omega)
        have HF := Lib.hid (show Bk ((wr.alloc (.cells #[.bool d] 64)).setCell ⟨ba, j + 1, none⟩ (.bool true)) ba 4 (bls ((openN ps a j).set (j + 1) true)).toArray ∧ Ch (fun i => i = ba) w ((wr.alloc (.cells #[.bool d] 64)).setCell ⟨ba, j + 1, none⟩ (.bool true)) from
          ⟨by have := hb3.set (j + 1) (.bool true); rwa [bls_set] at this, hc3.set (p := ⟨ba, j + 1, none⟩) (.inl rfl) _⟩)
        have HF0 := Lib.hid (And.intro hb3 hc3)
        have Hst := Lib.hid hst
        have hta := fun (v : Value) (w : World) => ta_yes v w
        clear hst hb2 hc2 hb3 hc3 hbk hch HI hpt hbv hy hv hc hbb hpj hln hz
        cases bb
        · go_wp2_with fail
          go_roundw
          case rel => exact ⟨j + 1, by go_num, by omega, Lib.hid (by rw [Hst.out]; exact HF0.out)⟩
          case measure => simp [intOf]; omega
        · go_wp2_with fail
          go_roundw
          case rel => exact ⟨j + 1, by go_num, by omega, Lib.hid (by rw [Hst.out]; exact HF.out)⟩
          case measure => simp [intOf]; omega
      | lit r =>
        have hta := fun (v : Value) (w : World) => ta_no 75 (by decide) v w
        have hvv : v = .iface 75 (.int .i32 r) := hpt
        subst hvv
        have HF0 := Lib.hid (show Bk (wr.alloc (.cells #[.bool false] 64)) ba 4 (bls (openN ps a (j + 1))).toArray ∧ Ch (fun i => i = ba) w (wr.alloc (.cells #[.bool false] 64)) from by rw [hst]; exact ⟨hb2, hc2⟩)
        clear hst hb2 hc2 hbk hch HI hpt hv hc hpj hln hz
        go_wp2_with fail
        go_roundw
        case rel => exact ⟨j + 1, by go_num, by omega, HF0⟩
        case measure => simp [intOf]; omega
      | one =>
        have hta := fun (v : Value) (w : World) => ta_no 93 (by decide) v w
        have hvv : v = .iface 93 (.agg #[]) := hpt
        subst hvv
        have HF0 := Lib.hid (show Bk (wr.alloc (.cells #[.bool false] 64)) ba 4 (bls (openN ps a (j + 1))).toArray ∧ Ch (fun i => i = ba) w (wr.alloc (.cells #[.bool false] 64)) from by rw [hst]; exact ⟨hb2, hc2⟩)
        clear hst hb2 hc2 hbk hch HI hpt hv hc hpj hln hz
        go_wp2_with fail
        go_roundw
        case rel => exact ⟨j + 1, by go_num, by omega, HF0⟩
        case measure => simp [intOf]; omega
      | cls nt rs =>
        have hta := fun (v : Value) (w : World) => ta_no 102 (by decide) v w
        obtain ⟨A1, c1, A2, c2, rfl, _⟩ := hpt
        have HF0 := Lib.hid (show Bk (wr.alloc (.cells #[.bool false] 64)) ba 4 (bls (openN ps a (j + 1))).toArray ∧ Ch (fun i => i = ba) w (wr.alloc (.cells #[.bool false] 64)) from by rw [hst]; exact ⟨hb2, hc2⟩)
        clear hst hb2 hc2 hbk hch HI hv hc hpj hln hz
        go_wp2_with fail
        go_roundw
        case rel => exact ⟨j + 1, by go_num, by omega, HF0⟩
        case measure => simp [intOf]; omega
    · have hjn : j = n := by omega
      have HF0 := Lib.hid (And.intro hbk hch)
      clear hbk hch HI
      go_wp2_with fail
      go_end0
      exact ⟨rfl, by rw [← hjn]; exact HF0.out.1, HF0.out.2⟩
end Go.Proofs.YtbdehlphblbmoaaDoor
