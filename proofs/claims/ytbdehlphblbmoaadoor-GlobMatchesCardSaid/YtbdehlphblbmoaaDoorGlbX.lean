/- The document's patterns in memory; New's parts. -/
import Derived.Test.YtbdehlphblbmoaaDoorGlbW
import Derived.Test.YtbdehlphblbmoaaDoorGlbL
import Derived.Test.YtbdehlphblbmoaaDoorGlbS
namespace Go.Proofs.YtbdehlphblbmoaaDoor
open Go.RowKit
attribute [local go_sem ↓] Go.wp_at_zero Go.wp_at_succ

/-- []byte(s). -/
theorem conv_str (s : ByteArray) (w : World) :
    ∃ c w', (convert 9 46 (.string s)).run Tryd.prog w = .ok (.slice (some ⟨w.heap.size, 0, none⟩) s.size c) w' ∧ s.size ≤ c ∧ Rd w' (w.heap.size + 1) 1 (some ⟨w.heap.size, 0, none⟩) s.size (bys s.data.toList) ∧ Below w.heap.size w w' ∧ w'.heap.size = w.heap.size + 1 := by
  have hrun := run_bytes_of_string (P := Tryd.prog) w 9 46 5 s Tryd.underlying9 Tryd.underlying46 Tryd.underlying5
  have hc := grownCap_ge w s.size 0 5
  have hsz : s.data.toList.length = s.size := by rw [Array.length_toList]; rfl
  refine ⟨_, _, hrun, hc, ⟨by rw [bys_len, hsz]; omega, fun _ => ⟨w.heap.size, 0, rfl, by omega, fun j v hj => ?_⟩⟩, (Below.refl w.heap.size w).drew.alloc (Nat.le_refl _) _, by show (w.heap.push _).size = _; simp⟩
  have hj2 : j < s.size := by
    rcases Nat.lt_or_ge j (bys s.data.toList).length with h | h
    · rw [bys_len, hsz] at h; exact h
    · rw [List.getElem?_eq_none h] at hj; cases hj
  rw [Nat.zero_add]
  have h1 : ∀ cs m, (w.drew.alloc (.cells cs 5 m)).cell? ⟨w.heap.size, j, none⟩ = cs[j]? := fun cs m => World.cell?_alloc_mark w.drew cs 5 m j
  rw [h1, ← hj]
  unfold bytesRow
  rw [Array.getElem?_append_left (by rw [Array.size_map]; exact hj2)]
  simp [bys]
/-- A part of the document's that was just made. -/
def DPo (W : World) (base : Nat) : PtP → List Value → Prop
  | .lit r, cs => cs = [.int .i64 0, .int .i64 r, .bool false, .slice none 0 0, .slice none 0 0]
  | .one, cs => cs = [.int .i64 1, .int .i64 0, .bool false, .slice none 0 0, .slice none 0 0]
  | .stars d, cs => cs = [.int .i64 (if d then 3 else 2), .int .i64 0, .bool false, .slice none 0 0, .slice none 0 0]
  | .cls n rs, cs => ∃ A c A2 c2, cs = [.int .i64 4, .int .i64 0, .bool n, .slice A rs.length c, .slice A2 rs.length c2] ∧ W.ownsRow base 3 1 (.slice A rs.length c) rs.length (its (rs.map (·.1))) ∧ W.ownsRow base 3 1 (.slice A2 rs.length c2) rs.length (its (rs.map (·.2))) ∧ rs.length ≤ 10000
/-- A part of the document's. -/
def DPt (W : World) (B : Nat) : PtP → List Value → Prop
  | .lit r, cs => cs = [.int .i64 0, .int .i64 r, .bool false, .slice none 0 0, .slice none 0 0]
  | .one, cs => cs = [.int .i64 1, .int .i64 0, .bool false, .slice none 0 0, .slice none 0 0]
  | .stars d, cs => cs = [.int .i64 (if d then 3 else 2), .int .i64 0, .bool false, .slice none 0 0, .slice none 0 0]
  | .cls n rs, cs => ∃ A c A2 c2, cs = [.int .i64 4, .int .i64 0, .bool n, .slice A rs.length c, .slice A2 rs.length c2] ∧ Rd W B 1 A rs.length (its (rs.map (·.1))) ∧ Rd W B 1 A2 rs.length (its (rs.map (·.2))) ∧ rs.length ≤ 10000
section
variable {W W' : World} {base : Nat} {p : PtP} {cs : List Value}
theorem DPo.pt (h : DPo W base p cs) : DPt W W.heap.size p cs := by
  cases p with
  | lit r => exact h
  | one => exact h
  | stars d => exact h
  | cls n rs =>
    obtain ⟨A, c, A2, c2, h1, h2, h3, h4⟩ := h
    exact ⟨A, c, A2, c2, h1, Rd.of_own h2, Rd.of_own h3, h4⟩
theorem DPo.ch {S : Nat → Prop} (h : DPo W base p cs) (k : Ch S W W') (hS : ∀ (v : Value) (n : Nat) (xs : List Value), W.ownsRow base 3 1 v n xs → ∀ i, v.ownBlock = some i → ¬ S i) : DPo W' base p cs := by
  cases p with
  | lit r => exact h
  | one => exact h
  | stars d => exact h
  | cls n rs =>
    obtain ⟨A, c, A2, c2, h1, h2, h3, h4⟩ := h
    exact ⟨A, c, A2, c2, h1, own_ch h2 k (hS _ _ _ h2), own_ch h3 k (hS _ _ _ h3), h4⟩
theorem DPo.len (h : DPo W base p cs) : cs.length = 5 := by
  cases p with
  | lit r => rw [show cs = _ from h]; rfl
  | one => rw [show cs = _ from h]; rfl
  | stars d => rw [show cs = _ from h]; rfl
  | cls n rs => obtain ⟨A, c, A2, c2, rfl, _⟩ := h; rfl
theorem DPo.one_ (h : DPo W base p cs) : ∀ u ∈ cs, u.oneCell' = true := by
  intro u hu
  cases p with
  | lit r => rw [show cs = _ from h] at hu; simp at hu; rcases hu with rfl | rfl | rfl | rfl <;> rfl
  | one => rw [show cs = _ from h] at hu; simp at hu; rcases hu with rfl | rfl | rfl | rfl <;> rfl
  | stars d => rw [show cs = _ from h] at hu; simp at hu; rcases hu with rfl | rfl | rfl | rfl <;> rfl
  | cls n rs => obtain ⟨A, c, A2, c2, rfl, _⟩ := h; simp at hu; rcases hu with rfl | rfl | rfl | rfl | rfl <;> rfl
theorem DPt.keep {B : Nat} (h : DPt W B p cs) (hk : ∀ q : Addr, q.block < B → W'.cell? q = W.cell? q) : DPt W' B p cs := by
  cases p with
  | lit r => exact h
  | one => exact h
  | stars d => exact h
  | cls n rs =>
    obtain ⟨A, c, A2, c2, h1, h2, h3, h4⟩ := h
    exact ⟨A, c, A2, c2, h1, h2.keep hk, h3.keep hk, h4⟩
end
/-- A row of parts of the call's own. -/
def OwP (W : World) (base : Nat) (v : Value) (ps : List PtP) : Prop :=
  ∃ vs : List Value, W.ownsRow base 66 5 v ps.length vs ∧ ∀ (i : Nat) p, ps[i]? = some p → DPo W base p ((vs.drop (i * 5)).take 5)
/-- Parts, read. -/
def RdPs (W : World) (B : Nat) (A : Option Addr) (ps : List PtP) : Prop :=
  ∃ vs : List Value, Rd W B 5 A ps.length vs ∧ ∀ (i : Nat) p, ps[i]? = some p → DPt W B p ((vs.drop (i * 5)).take 5)
theorem RdPs.keep {W W' : World} {B : Nat} {A : Option Addr} {ps : List PtP} (h : RdPs W B A ps) (hk : ∀ q : Addr, q.block < B → W'.cell? q = W.cell? q) : RdPs W' B A ps := by
  obtain ⟨vs, h1, h2⟩ := h
  exact ⟨vs, h1.keep hk, fun i p hp => (h2 i p hp).keep hk⟩
theorem OwP.rd {W : World} {base c n : Nat} {A : Option Addr} {ps : List PtP} (h : OwP W base (.slice A n c) ps) (hn : n = ps.length) : RdPs W W.heap.size A ps := by
  subst hn
  obtain ⟨vs, h1, h2⟩ := h
  exact ⟨vs, Rd.of_own h1, fun i p hp => (h2 i p hp).pt⟩
theorem OwP.form {W : World} {base : Nat} {v : Value} {ps : List PtP} (h : OwP W base v ps) : ∃ A c, v = .slice A ps.length c ∧ ps.length ≤ c := by
  obtain ⟨vs, h1, _⟩ := h
  obtain ⟨A, c, h2, h3, _⟩ := own_form h1
  exact ⟨A, c, h2, h3⟩
theorem OwP.ch {W W' : World} {S : Nat → Prop} {base : Nat} {v : Value} {ps : List PtP} (h : OwP W base v ps) (k : Ch S W W') (hv : ∀ i, v.ownBlock = some i → ¬ S i) (hS : ∀ (v : Value) (n : Nat) (xs : List Value), W.ownsRow base 3 1 v n xs → ∀ i, v.ownBlock = some i → ¬ S i) : OwP W' base v ps := by
  obtain ⟨vs, h1, h2⟩ := h
  exact ⟨vs, own_ch h1 k hv, fun i p hp => (h2 i p hp).ch k hS⟩
theorem OwP.lt {W : World} {base : Nat} {v : Value} {ps : List PtP} (h : OwP W base v ps) : ∀ k, v.ownBlock = some k → base ≤ k := by
  obtain ⟨vs, h1, _⟩ := h
  exact fun k hk => (h1.lt k hk).1
theorem infoDP : (Tryd.prog.info? 66).map (fun i => (i.zero, i.size, i.bytes)) = some (some (.agg #[.int .i64 0, .int .i64 0, .bool false, .slice none 0 0, .slice none 0 0]), 5, 72) := by kernel_rfl
/-- The document's pattern while it is read. -/
structure DNm (w W : World) (g4 : Nat) (A : Option Addr) (n : Nat) (L : List Int) (x : Value) (ps : List PtP) : Prop where
  b2 : Bk W w.heap.size 32 #[.slice none 0 0, .int .i64 0]
  b4 : Bk W g4 32 #[x, .int .i64 0]
  own : OwP W (g4 + 1) x ps
  bw : Below w.heap.size w W
  gw : w.heap.size < g4
  rd : Rd W g4 1 A n (its L)
section
variable {w W W' : World} {g4 n : Nat} {A : Option Addr} {L : List Int} {x : Value} {ps : List PtP}
theorem DNm.bl (h : DNm w W g4 A n L x ps) (k : Below W.heap.size W W') : DNm w W' g4 A n L x ps := by
  have hc : Ch (fun _ => False) W W' := Ch.of_below k (Nat.le_refl _)
  exact ⟨h.b2.ch hc (fun h => h), h.b4.ch hc (fun h => h), h.own.ch hc (fun _ _ h => h) (fun _ _ _ _ _ _ h => h), h.bw.trans (k.mono h.bw.size), h.gw, h.rd.below k (by have := h.b4.lt; omega)⟩
/-- append of a part. -/
theorem ap_dp {ops : Array Oper} {rest : List Oper} {a : Act} {Q : Exit → Act → World → Prop} {d : Option Tmp} {ty : TypeId} {pos : String} {af : Array Edge} {s y : Operand} {cs : List Value} {p : PtP}
    (h : DNm w W g4 A n L x ps) (hp : DPo W (g4 + 1) p cs) {q : Nat} (hq : Bk W q 66 cs.toArray) (hn : ps.length ≤ 1000)
    (hs : a.eval s = x) (hy : a.eval y = .slice (some ⟨q, 0, none⟩) 1 1)
    (hK : ∀ A1 c W', DNm w (W'.setCell ⟨g4, 0, none⟩ (.slice A1 (ps.length + 1) c)) g4 A n L (.slice A1 (ps.length + 1) c) (ps ++ [p]) → Ch (fun i => x.ownBlock = some i) W W' → W'.cell? ⟨g4, 0, none⟩ = some x → W'.frozen? ⟨g4, 0, none⟩ = false → wpList Tryd.prog ops Q rest (a.put d (.slice A1 (ps.length + 1) c)) W') :
    wpList Tryd.prog ops Q ({ dst := d, op := .call { callee := .builtin .append, args := #[s, y], argTypes := #[30, 30] }, type := ty, pos := pos, after := af, guard := none } :: rest) a W := by
  obtain ⟨i0, hi, hz0, hz1, hz2⟩ := info_parts infoDP
  have hr : Rd W (q + 1) 5 (some ⟨q, 0, none⟩) 1 cs := ⟨by rw [hp.len], fun _ => ⟨q, 0, rfl, by omega, fun j v hj => by rw [Nat.zero_add, hq.cell, List.getElem?_toArray]; exact hj⟩⟩
  obtain ⟨vs, o1, o2⟩ := h.own
  have hgw := h.gw
  have hb4 := h.b4
  have hlt4 := hb4.lt
  refine wpList_append_rd (P := Tryd.prog) W rfl s y 30 rfl (g4 + 1) 66 i0 (.agg #[.int .i64 0, .int .i64 0, .bool false, .slice none 0 0, .slice none 0 0]) 5 72 Tryd.underlying30 hi hz0 hz1 hz2 rfl (by decide) x ps.length vs hs o1 (q + 1) _ 1 1 cs hy hr hp.one_ (by unfold maxLen; omega) (by omega) hlt4 ?_
  intro v' W' h2 h3 h4
  obtain ⟨A1, c, rfl, _, _⟩ := own_form h2
  have hge : ∀ k, x.ownBlock = some k → g4 + 1 ≤ k := fun k hk => (o1.lt k hk).1
  have hch : Ch (fun i => x.ownBlock = some i) W W' := (Ch.refl _ W).grown h3 (fun i hi => .inl hi)
  have hset : Ch (fun i => i = g4) W' (W'.setCell ⟨g4, 0, none⟩ (.slice A1 (ps.length + 1) c)) := (Ch.refl (fun i => i = g4) W').set (p := ⟨g4, 0, none⟩) (.inl rfl) _
  have hbk := hb4.ch hch (fun e => by have := hge _ e; omega)
  have hvl : vs.length = ps.length * 5 := o1.1
  have hkeep : ∀ {p' : PtP} {cs' : List Value}, DPo W (g4 + 1) p' cs' → DPo (W'.setCell ⟨g4, 0, none⟩ (.slice A1 (ps.length + 1) c)) (g4 + 1) p' cs' := fun h5 =>
    (h5.ch hch (fun v n xs ho => own_ne2 ho o1 (by decide))).ch hset (fun v n xs ho i hi e => by have := (ho.lt i hi).1; omega)
  refine hK A1 c W' ⟨(h.b2.ch hch (fun e => by have := hge _ e; omega)).ch hset (by omega), by have := hbk.set 0 (.slice A1 (ps.length + 1) c); simpa using this, ⟨vs ++ cs, ?_, fun i p' hp' => ?_⟩, (h.bw.trans (hch.below (B := w.heap.size) h.bw.size (fun i hi => by have := hge i hi; omega))).setCell (by show w.heap.size ≤ g4; omega) _, hgw, (h.rd.ch hch (by omega) (fun i hi => by have := hge i hi; omega)).ch hset (by have := h3.size; omega) (fun i hi => by omega)⟩ hch (hbk.cell 0) (hbk.free 0)
  · rw [List.length_append]
    exact own_ch h2 hset (fun i hi e => by have := (h2.lt i hi).1; omega)
  · rcases Nat.lt_or_ge i ps.length with hl | hl
    · rw [List.getElem?_append_left hl] at hp'
      rw [List.drop_append_of_le_length (by omega), List.take_append_of_le_length (by rw [List.length_drop]; omega)]
      exact hkeep (o2 i p' hp')
    · rw [List.getElem?_append_right hl] at hp'
      have h0 : i - ps.length = 0 := by
        apply Classical.byContradiction
        intro hne
        rw [List.getElem?_eq_none (by simp; omega)] at hp'
        cases hp'
      rw [h0] at hp'
      simp only [List.getElem?_cons_zero, Option.some.injEq] at hp'
      subst hp'
      have hi : i = ps.length := by omega
      rw [hi, ← hvl, List.drop_left, List.take_of_length_le (by rw [hp.len]; omega)]
      exact hkeep hp
end
end Go.Proofs.YtbdehlphblbmoaaDoor
