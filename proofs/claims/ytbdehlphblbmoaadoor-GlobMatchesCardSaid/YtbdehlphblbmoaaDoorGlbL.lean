/- Contracts of package glob: New. -/
import Derived.Test.YtbdehlphblbmoaaDoorGlbK
import Derived.Test.YtbdehlphblbmoaaDoorGlbU
import Derived.Test.YtbdehlphblbmoaaDoorShelfF
namespace Go.Proofs.YtbdehlphblbmoaaDoor
open Go.RowKit
attribute [local go_sem ↓] Go.wp_at_zero Go.wp_at_succ

theorem isR_less {c : Int} {l : List Int} (h : (isR c l).1 = true) : (isR c l).2.length < l.length := by
  have := (isR_two c l).2 h
  rw [this]
  simp only [List.length_cons]
  have h2 : (isR c (c :: (isR c l).2)).2 = (isR c l).2 := by rw [isR, if_pos rfl]
  rw [h2]
  omega
theorem clsR_less : ∀ (n : Nat) (rs : List (Int × Int)) (l : List Int) {q : List (Int × Int)} {k : List Int}, clsR n rs l = some (q, k) → k.length ≤ l.length
  | 0, _, _, _, _, h => by cases h
  | n + 1, rs, l, q, k, h => by
    rw [clsR] at h
    split at h
    · injection h with h; injection h with h1 h2; subst h2
      rw [List.length_tail]; omega
    · split at h
      · cases h
      · rename_i a m ha
        have hm := plainR_less ha
        split at h
        · split at h
          · cases h
          · rename_i b k' hb
            have hb' := plainR_less hb
            rw [List.length_tail] at hb'
            split at h
            · cases h
            · have := clsR_less n _ _ h
              omega
        · have := clsR_less n _ _ h
          omega
theorem partR_less {l m : List Int} {p : PtP} (h : partR l = some (p, m)) : m.length < l.length := by
  unfold partR at h
  split at h
  · rename_i h1
    injection h with h; injection h with h2 h3; subst h3
    exact isR_less h1
  · split at h
    · rename_i h1
      injection h with h; injection h with h2 h3; subst h3
      have := isR_less h1
      have := isR_len 42 (isR 42 l).2
      omega
    · split at h
      · rename_i h1
        split at h
        · cases h
        · rename_i rs k hk
          injection h with h; injection h with h2 h3; subst h3
          have := isR_less h1
          have := isR_len 33 (isR 91 l).2
          have := clsR_less _ _ _ hk
          omega
      · split at h
        · cases h
        · rename_i c k hk
          injection h with h; injection h with h2 h3; subst h3
          exact plainR_less hk
/-- The two tables by which runes are read. -/
def UT (w : World) : Prop := Lib.Utf8Tabs (Tryd.lays196_ren.g 3) (Tryd.lays196_ren.g 4) w
theorem UT.below {w w' : World} (h : UT w) (hb : Below w.heap.size w w') : UT w' := Utf8Tabs_below h hb
theorem valid_any (s : ByteArray) (w : World) (hs : s.size ≤ 1000000) (hT : UT w) :
    Calls Tryd.prog 19 #[.string s] w fun e w' => e = .returned (.bool (Lib.validD s.data.toList)) ∧ Below w.heap.size w w' :=
  Tryd.utf8_ValidString s w (by omega) hT
/-- Rows of unlike types are not one. -/
theorem own_ne2 {w : World} {base s n base' s' n' : Nat} {e e' : TypeId} {v v' : Value} {xs xs' : List Value} (h : w.ownsRow base e s v n xs) (h' : w.ownsRow base' e' s' v' n' xs') (hne : e ≠ e') : ∀ i, v.ownBlock = some i → ¬ v'.ownBlock = some i := by
  intro i hi hi'
  rcases h.2 with ⟨rfl, _⟩ | ⟨g, cap, cur, rfl, _, hh, _⟩
  · simp [Value.ownBlock] at hi
  · rcases h'.2 with ⟨rfl, _⟩ | ⟨g', cap', cur', rfl, _, hh', _⟩
    · simp [Value.ownBlock] at hi'
    · have e1 : g = i := by simpa [Value.ownBlock] using hi
      have e2 : g' = i := by simpa [Value.ownBlock] using hi'
      subst e1
      subst e2
      rw [hh] at hh'
      injection hh' with hh'
      injection hh' with _ ht
      exact hne ht
theorem PtO.ch {W W' : World} {S : Nat → Prop} {b : Nat} {p : PtP} {v : Value} (h : PtO W b p v) (k : Ch S W W') (hS : ∀ (A : Option Addr) (c n : Nat) (xs : List Value), W.ownsRow b 21 1 (.slice A n c) n xs → ∀ i, (Value.slice A n c).ownBlock = some i → ¬ S i) : PtO W' b p v := by
  cases p with
  | lit r => exact h
  | one => exact h
  | stars d => exact h
  | cls n rs =>
    obtain ⟨A, c, A2, c2, h1, h2, h3, h4⟩ := h
    exact ⟨A, c, A2, c2, h1, own_ch h2 k (hS _ _ _ _ h2), own_ch h3 k (hS _ _ _ _ h3), h4⟩
theorem PtO.form {W : World} {b : Nat} {p : PtP} {v : Value} (h : PtO W b p v) : ∃ T x, v = .iface T x := by
  cases p with
  | lit r => exact ⟨_, _, h⟩
  | one => exact ⟨_, _, h⟩
  | stars d => exact ⟨_, _, h⟩
  | cls n rs =>
    obtain ⟨A, c, A2, c2, h1, _⟩ := h
    exact ⟨_, _, h1⟩
/-- A pattern while it is read. -/
structure NwM (w : World) (g rb : Nat) (W : World) (x : Value) (ps : List PtP) (vs : List Value) (l : List Int) : Prop where
  bk : Bk W g 51 #[x]
  own : W.ownsRow (rb + 1) 57 1 x ps.length vs
  pt : ∀ (i : Nat) p v, ps[i]? = some p → vs[i]? = some v → PtO W (rb + 1) p v
  rd : GRd W rb rb l
  bw : Below w.heap.size w W
  gw : w.heap.size ≤ g
  gr : g < rb
  rW : rb < W.heap.size
theorem NwM.alloc {w : World} {g rb : Nat} {W : World} {x : Value} {ps : List PtP} {vs : List Value} {l : List Int} (h : NwM w g rb W x ps vs l) (o : Obj) : NwM w g rb (W.alloc o) x ps vs l := by
  have hc : Ch (fun _ => False) W (W.alloc o) := (Ch.refl _ W).alloc o
  have := h.rW
  exact ⟨h.bk.alloc _, h.own.alloc _, fun i p v hp hv => (h.pt i p v hp hv).ch hc (fun _ _ _ _ _ _ _ h => h), h.rd.ch hc (by omega) (fun h => h) (fun _ h => h.elim), h.bw.alloc h.bw.size _, h.gw, h.gr, by simp; omega⟩
theorem infoPt : (Tryd.prog.info? 57).map (fun i => (i.zero, i.size, i.bytes)) = some (some .nilIface, 1, 16) := by kernel_rfl
/-- A block that holds no runes is none of a reader's. -/
theorem GRd.set_other {W : World} {rb B g : Nat} {t : TypeId} {l : List Int} {x u : Value} (h : GRd W rb B l) (hg : Bk W g t #[x]) (hx : ∀ k z, x ≠ .int k z) (hne : rb ≠ g) : GRd (W.setCell ⟨g, 0, none⟩ u) rb B l := by
  obtain ⟨A, n, c, h1, h2, h3, h4⟩ := h
  refine ⟨A, n, c, h1.far (p := ⟨g, 0, none⟩) hne u, ⟨h2.1, fun hn => ?_⟩, h3, h4⟩
  obtain ⟨b, o, rfl, hb, hc⟩ := h2.2 hn
  refine ⟨b, o, rfl, hb, fun j v hj => ?_⟩
  by_cases hbg : b = g
  · exfalso
    subst hbg
    have h5 := hc j v hj
    rw [hg.cell] at h5
    obtain ⟨z, hz⟩ : ∃ z, v = .int .i32 z := by
      simp only [rns, List.getElem?_map, Option.map_eq_some_iff] at hj
      obtain ⟨z, _, rfl⟩ := hj
      exact ⟨z, rfl⟩
    subst hz
    match hoj : o + j, h5 with
    | 0, h5 => simp at h5; exact hx _ _ h5
    | k + 1, h5 => simp at h5
  · exact (World.cell?_setCell_other W ⟨g, 0, none⟩ ⟨b, o + j, none⟩ u (fun e => hbg (by injection e with e; exact e.symm))).trans (hc j v hj)
/-- append of a part. -/
theorem ap_pt {W : World} {ops : Array Oper} {rest : List Oper} {a : Act} {Q : Exit → Act → World → Prop} {d : Option Tmp} {ty : TypeId} {pos : String} {af : Array Edge} {s x : Operand}
    {w : World} {g rb : Nat} {xv u : Value} {ps : List PtP} {vs : List Value} {l : List Int} {p : PtP} (h : NwM w g rb W xv ps vs l) (hp : PtO W (rb + 1) p u)
    {q : Nat} (hq : Bk W q 57 #[u]) (hn : ps.length ≤ 1000)
    (hs : a.eval s = xv) (hx : a.eval x = .slice (some ⟨q, 0, none⟩) 1 1)
    (hK : ∀ A c W', NwM w g rb (W'.setCell ⟨g, 0, none⟩ (.slice A (ps.length + 1) c)) (.slice A (ps.length + 1) c) (ps ++ [p]) (vs ++ [u]) l → W'.cell? ⟨g, 0, none⟩ = some xv → W'.frozen? ⟨g, 0, none⟩ = false → wpList Tryd.prog ops Q rest (a.put d (.slice A (ps.length + 1) c)) W') :
    wpList Tryd.prog ops Q ({ dst := d, op := .call { callee := .builtin .append, args := #[s, x], argTypes := #[49, 49] }, type := ty, pos := pos, after := af, guard := none } :: rest) a W := by
  obtain ⟨i0, hi, hz0, hz1, hz2⟩ := info_parts infoPt
  have hr : Rd W (q + 1) 1 (some ⟨q, 0, none⟩) 1 [u] := by
    refine ⟨rfl, fun _ => ⟨q, 0, rfl, by omega, fun j v hj => ?_⟩⟩
    match j, hj with
    | 0, hj => simp at hj; subst hj; exact hq.cell 0
    | j + 1, hj => simp at hj
  have hrW := h.rW
  have hgr := h.gr
  have hgw := h.gw
  refine wpList_append_rd (P := Tryd.prog) W rfl s x 49 rfl (rb + 1) 57 i0 .nilIface 1 16 Tryd.underlying49 hi hz0 hz1 hz2 rfl (by decide) xv ps.length vs hs h.own (q + 1) _ 1 1 [u] hx hr (by intro y hy; rw [List.mem_singleton.1 hy]; exact hp.one_) (by unfold maxLen; omega) (by omega) h.rW ?_
  intro v' W' h2 h3 h4
  obtain ⟨A, c, rfl, _, _⟩ := own_form h2
  have hge : ∀ k, xv.ownBlock = some k → rb + 1 ≤ k := fun k hk => (h.own.lt k hk).1
  have hch : Ch (fun i => xv.ownBlock = some i) W W' := (Ch.refl _ W).grown h3 (fun i hi => .inl hi)
  have hbk := h.bk.ch hch (fun e => by have := hge _ e; omega)
  have hset : Ch (fun i => i = g) W' (W'.setCell ⟨g, 0, none⟩ (.slice A (ps.length + 1) c)) := (Ch.refl (fun i => i = g) W').set (p := ⟨g, 0, none⟩) (.inl rfl) _
  refine hK A c W' ?_ (hbk.cell 0) (hbk.free 0)
  refine ⟨by have := hbk.set 0 (.slice A (ps.length + 1) c); simpa using this, ?_, fun i p' v hp' hv => ?_, ?_, ?_, hgw, hgr, ?_⟩
  · rw [List.length_append]
    exact own_ch h2 hset (fun i hi e => by have := (h2.lt i hi).1; omega)
  · have hvl : vs.length = ps.length := by have := h.own.1; omega
    have hkeep : ∀ {p'' : PtP} {v'' : Value}, PtO W (rb + 1) p'' v'' → PtO (W'.setCell ⟨g, 0, none⟩ (.slice A (ps.length + 1) c)) (rb + 1) p'' v'' := fun h5 =>
      (h5.ch hch (fun A c n xs ho => own_ne2 ho h.own (by decide))).ch hset (fun A c n xs ho i hi e => by have := (ho.lt i hi).1; omega)
    rcases Nat.lt_or_ge i ps.length with hl | hl
    · rw [List.getElem?_append_left hl] at hp'
      rw [List.getElem?_append_left (by omega)] at hv
      exact hkeep (h.pt i p' v hp' hv)
    · rw [List.getElem?_append_right hl] at hp'
      rw [List.getElem?_append_right (by omega), hvl] at hv
      have h0 : i - ps.length = 0 := by
        apply Classical.byContradiction
        intro hne
        rw [List.getElem?_eq_none (by simp; omega)] at hv
        cases hv
      rw [h0] at hp' hv
      simp only [List.getElem?_cons_zero, Option.some.injEq] at hp' hv
      subst hp' hv
      exact hkeep hp
  · obtain ⟨A0, c0, hxv, _, _⟩ := own_form h.own
    exact (h.rd.ch hch (by omega) (fun e => by have := hge _ e; omega) (fun i hi => by have := hge i hi; omega)).set_other hbk (by rw [hxv]; intro k z e; cases e) (by omega)
  · exact (h.bw.trans (hch.below (B := w.heap.size) h.bw.size (fun i hi => by have := hge i hi; omega))).setCell hgw _
  · have := h3.size; simp [World.setCell]; omega
/-- What New gives. -/
def NwE (w : World) (s : ByteArray) (e : Ending) (w' : World) : Prop :=
  Below w.heap.size w w' ∧ (100 < s.size ∧ e = .returned (.tuple #[.pointer none, .int .i64 10]) ∨
    s.size ≤ 100 ∧ (Lib.validD s.data.toList = false ∨ newR s.size [] (rnB s) = none) ∧ e = .returned (.tuple #[.pointer none, .int .i64 4]) ∨
    s.size ≤ 100 ∧ Lib.validD s.data.toList = true ∧ ∃ g ps, newR s.size [] (rnB s) = some ps ∧ e = .returned (.tuple #[.pointer (some ⟨g, 0, none⟩), .int .i64 0]) ∧ GlM w' w'.heap.size g ps ∧ w.heap.size ≤ g)
/-- What New's loop holds. -/
def NwR (w : World) (g rb : Nat) (s : ByteArray) (W : World) : Prop :=
  ∃ m x ps vs l, Hid (NwM w g rb W x ps vs l ∧ newR m ps l = newR s.size [] (rnB s) ∧ l.length ≤ m ∧ ps.length + l.length ≤ 100)
theorem NwM.glm {w : World} {g rb : Nat} {W : World} {x : Value} {ps : List PtP} {vs : List Value} {l : List Int} (h : NwM w g rb W x ps vs l) (hl : ps.length ≤ 100) : GlM W W.heap.size g ps := by
  obtain ⟨A, c, rfl, _, _⟩ := own_form h.own
  exact ⟨A, ps.length, c, vs, h.bk, Rd.of_own h.own, rfl, by omega, fun i p v hp hv => (h.pt i p v hp hv).pv⟩
theorem newR_some {m : Nat} {ps : List PtP} {c : Int} {l k : List Int} {p : PtP} (h : partR (c :: l) = some (p, k)) : newR (m + 1) ps (c :: l) = newR m (ps ++ [p]) k := by rw [newR, h]
theorem newR_bad {m : Nat} {ps : List PtP} {c : Int} {l : List Int} (h : partR (c :: l) = none) : newR (m + 1) ps (c :: l) = none := by rw [newR, h]
theorem newR_end {m : Nat} {ps : List PtP} : newR m ps [] = some ps := by cases m <;> rfl
set_option maxHeartbeats 4000000 in
set_option maxRecDepth 100000 in
theorem new_any (s : ByteArray) (w : World) (hs : s.size ≤ 1000000) (hT : UT w) :
    Calls Tryd.prog 10 #[.string s] w (NwE w s) := by
  have Hv := Lib.hid (valid_any s w hs hT)
  by_cases h1 : 100 < s.size
  · have h2 : (100 : Int) < (s.size : Int) := by omega
    have HE := Lib.hid (show NwE w s (.returned (.tuple #[.pointer none, .int .i64 10])) w from ⟨Below.refl _ _, .inl ⟨h1, rfl⟩⟩)
    clear Hv hT
    go_enter Tryd.func10, Tryd.ntmps10
    go_wp2_with fail
    go_ret2
    exact HE.out
  have h2 : ¬ (100 : Int) < (s.size : Int) := by omega
  have hs1 : s.size ≤ 100 := by omega
  clear h1
  go_enter Tryd.func10, Tryd.ntmps10
  go_wp2_with fail
  with_reducible refine Hv.out.mono ?_
  rintro e w1 ⟨rfl, b1⟩
  cases hv : Lib.validD s.data.toList with
  | false =>
    have HE := Lib.hid (show NwE w s (.returned (.tuple #[.pointer none, .int .i64 4])) w1 from ⟨b1, .inr (.inl ⟨hs1, .inl hv, rfl⟩)⟩)
    clear hv Hv hT b1
    go_wp2_with fail
    go_ret2
    exact HE.out
  | true =>
    have HV := Lib.hid hv
    obtain ⟨c, cells, hcv, hcc, hcr⟩ := conv_runes s (w1.alloc (.cells #[.slice none 0 0] 51)) (by omega)
    have hz1 := b1.size
    have hnl : (rnB s).length ≤ s.size := rnFrom_le s s.size 0
    simp only [World.size_alloc] at hcv hcr
    have HB := Lib.hid (show NwM w w1.heap.size (w1.heap.size + 2) (((w1.alloc (.cells #[.slice none 0 0] 51)).drew.alloc (.cells cells 21)).alloc (.cells #[.slice (some ⟨w1.heap.size + 1, 0, none⟩) (rnB s).length c] 55)) (.slice none 0 0) [] [] (rnB s) from by
      refine ⟨?_, World.ownsRow_nil _ _ _ _, (fun i p v hp _ => by simp at hp), ⟨_, _, c, Bk.new' _ _ _ (by simp [World.drew]), ?_, hcc, by omega⟩, ?_, hz1, by omega, by simp [World.drew]⟩
      · exact ((Bk.new w1 51 #[.slice none 0 0]).drew.alloc _).alloc _
      · exact hcr.alloc (by simp [World.drew]) _
      · exact (((b1.alloc hz1 _).drew.alloc (by simp [World.drew]; omega) _).alloc (by simp [World.drew]; omega) _))
    clear hv Hv hT hcr
    go_wp2_with fail
    have HZ := Lib.hid hz1
    generalize hgw : w1.heap.size = g at *
    clear hgw hcv
    go_loopw [] (fun wr => NwR w g (g + 2) s wr) (fun wr => rdLen wr (g + 2))
    case atStart => exact ⟨s.size, _, [], [], rnB s, Lib.hid ⟨HB.out, rfl, hnl, by simp; omega⟩⟩
    case round =>
      obtain ⟨m, x, ps, vs, l, HI⟩ := hrel
      obtain ⟨i1, i2, i3, i4⟩ := HI.out
      clear HI HB
      obtain ⟨A, n, c2, r0, hlen, hnc, hn1, _⟩ := i1.rd.open
      have HM := Lib.hid i1
      have HR := Lib.hid i2
      have HL := Lib.hid i3
      have HS := Lib.hid i4
      have Hms := Lib.hid i1.rd.rdLen
      cases l with
      | nil =>
        have hn0 : n = 0 := hlen.symm
        subst hn0
        have HE := Lib.hid (show NwE w s (.returned (.tuple #[.pointer (some ⟨g, 0, none⟩), .int .i64 0])) wr from
          ⟨i1.bw, .inr (.inr ⟨hs1, HV.out, g, ps, by rw [← i2, newR_end], rfl, i1.glm (by omega), HZ.out⟩)⟩)
        clear i1 i2 i3 i4 hlen
        go_wp2_with fail
        go_ret2
        exact HE.out
      | cons y l =>
        have hn0 : 0 < n := by simp at hlen; omega
        have Hpt := Lib.hid (part_any (g + 2) (g + 2) (y :: l) wr i1.rd (by have := i1.rW; omega) (Nat.le_refl _))
        clear i1 i2 i3 i4 hlen hnc hn1
        go_wp2_with fail
        with_reducible refine Hpt.out.mono ?_
        intro e w2 hE
        obtain ⟨c4, hE⟩ := hE
        obtain ⟨m1, hm1⟩ : ∃ m1, m = m1 + 1 := ⟨m - 1, by have := HL.out; simp at this; omega⟩
        have hR := HR.out
        rw [hm1] at hR
        cases hq : partR (y :: l) with
        | none =>
          rw [hq] at hE
          obtain ⟨v, rfl⟩ := hE
          have HE := Lib.hid (show NwE w s (.returned (.tuple #[.pointer none, .int .i64 4])) w2 from
            ⟨HM.out.bw.trans (c4.below (B := w.heap.size) HM.out.bw.size (fun i hi => by have := HM.out.gw; omega)), .inr (.inl ⟨hs1, .inr (by rw [← hR, newR_bad hq]), rfl⟩)⟩)
          clear c4 hq hR hm1 Hpt
          go_wp2_with fail
          go_ret2
          exact HE.out
        | some z =>
          obtain ⟨p, k⟩ := z
          rw [hq] at hE
          obtain ⟨v, rfl, hv1, hv2⟩ := hE
          obtain ⟨T, y0, rfl⟩ := hv1.form
          have hk := partR_less hq
          rw [newR_some hq] at hR
          have hge : ∀ i, i = g + 2 → ¬ x.ownBlock = some i := fun i hi e => by have := (HM.out.own.lt i e).1; omega
          have hM2 : NwM w g (g + 2) w2 x ps vs k := ⟨HM.out.bk.ch c4 (by omega), own_ch HM.out.own c4 (fun i hi e => hge i e hi), fun i p v hp hv => (HM.out.pt i p v hp hv).ch c4 (fun A c n xs ho i hi e => by have := (ho.lt i hi).1; omega), hv2, HM.out.bw.trans (c4.below (B := w.heap.size) HM.out.bw.size (fun i hi => by have := HM.out.gw; omega)), HM.out.gw, HM.out.gr, by have := HM.out.rW; have := c4.size; omega⟩
          have r1 : w2.cell? ⟨g, 0, none⟩ = some x := hM2.bk.cell 0
          have HvO := Lib.hid (show PtO (w2.alloc (.cells #[.iface T y0] 57)) (g + 2 + 1) p (.iface T y0) from (hv1.base (by have := HM.out.rW; omega)).ch ((Ch.refl (fun _ => False) w2).alloc _) (fun _ _ _ _ _ _ _ h => h))
          have HM3 := Lib.hid (hM2.alloc (.cells #[.iface T y0] 57))
          have HQ := Lib.hid (Bk.new w2 57 #[.iface T y0])
          have HRR := Lib.hid hR
          have HK := Lib.hid (show k.length ≤ m1 ∧ ps.length + 1 + k.length ≤ 100 ∧ k.length < rdLen wr (g + 2) from by
            have := HL.out; have := HS.out; have := Hms.out; simp at *; omega)
          clear hM2 hq hR hm1 hge hk hv1 hv2 c4 HM HR HL HS Hms Hpt r0 hn0
          go_wp2_with (at_builtin; (refine ap_pt HM3.out HvO.out HQ.out (by have := HK.out; omega) (by rfl) (by rfl) ?_; intro A' c' W' hN hN1 hN2; have HN := Lib.hid hN; clear hN))
          go_roundw
          case rel => exact ⟨m1, _, ps ++ [p], _, k, Lib.hid ⟨HN.out, HRR.out, HK.out.1, by rw [List.length_append]; exact HK.out.2.1⟩⟩
          case measure => rw [HN.out.rd.rdLen]; exact HK.out.2.2
end Go.Proofs.YtbdehlphblbmoaaDoor
