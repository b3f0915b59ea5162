/- A strings.Builder: what is written to it, and its text. -/
import Derived.Test.YtbdehlphblbmoaaDoorGlbL
import Derived.Test.YtbdehlphblbmoaaDoorMem
namespace Go.Proofs.YtbdehlphblbmoaaDoor
open Go.RowKit
attribute [local go_sem ↓] Go.wp_at_zero Go.wp_at_succ

/-- A builder in a block of its own that holds these bytes. -/
def BD (W : World) (b : Nat) (l : List UInt8) : Prop :=
  ∃ p v, (p = .pointer none ∨ p = .pointer (some ⟨b, 0, none⟩)) ∧ Bk W b 74 #[p, v] ∧ W.ownsRow (b + 1) 5 1 v l.length (bys l)
theorem BD.lt {W : World} {b : Nat} {l : List UInt8} (h : BD W b l) : b < W.heap.size := by obtain ⟨_, _, _, h, _⟩ := h; exact h.lt
theorem BD.new (W : World) : BD (W.alloc (.cells #[.pointer none, .slice none 0 0] 74)) W.heap.size [] := ⟨_, _, .inl rfl, Bk.new W _ _, own_nilB _ _ _⟩
theorem BD.is {W : World} {b : Nat} {l : List UInt8} (h : BD W b l) : Lib.IsBuilder 74 5 b b (Lib.byteCells l) W := by
  obtain ⟨p, v, hp, hb, ho⟩ := h
  have hv : v.ownBlock ≠ some b := fun e => by have := (ho.lt b e).1; omega
  have ho2 : W.ownsRow b 5 1 v (Lib.byteCells l).length (Lib.byteCells l) := by rw [Lib.byteCells_length]; exact own_base ho (by omega)
  rcases hp with rfl | rfl
  · exact .inl ⟨Nat.le_refl _, v, hb, ho2, hv⟩
  · exact .inr ⟨Nat.le_refl _, v, hb, ho2, hv⟩
/-- Only the builder's block, and blocks of bytes, may have turned. -/
def KB (b : Nat) (w w' : World) : Prop := Ch (fun i => i = b ∨ ∃ cs, Bk w i 5 cs) w w'
theorem KB.refl (b : Nat) (w : World) : KB b w w := Ch.refl _ w
theorem KB.trans {b : Nat} {w w1 w2 : World} (h : KB b w w1) (k : KB b w1 w2) : KB b w w2 := by
  refine Ch.trans h k fun i hi => ?_
  by_cases hs : i = b ∨ ∃ cs, Bk w i 5 cs
  · exact .inl hs
  rcases hi with hi | ⟨cs, hcs⟩
  · exact .inl (.inl hi)
  · refine .inr ?_
    apply Classical.byContradiction
    intro hlt
    have := h.block i (by omega) hs
    exact hs (.inr ⟨cs, by unfold Bk at hcs ⊢; rw [← this]; exact hcs⟩)
theorem KB.ch {b : Nat} {w w1 : World} {S : Nat → Prop} (h : Ch S w w1) (hs : ∀ i, S i → i = b ∨ ∃ cs, Bk w i 5 cs) : KB b w w1 := h.mono hs
theorem own_isB {W : World} {base n s : Nat} {v : Value} {xs : List Value} (h : W.ownsRow base 5 s v n xs) : ∀ i, v.ownBlock = some i → ∃ cs, Bk W i 5 cs := by
  intro i hi
  rcases h.2 with ⟨rfl, _⟩ | ⟨g, cap, cur, rfl, _, hh, _⟩
  · simp [Value.ownBlock] at hi
  · have e : g = i := by simpa [Value.ownBlock] using hi
    subst e
    exact ⟨cur, hh⟩
theorem KB.grown {b base n s : Nat} {w w1 : World} {v : Value} {xs : List Value} (h : w.grownBy w1 v.ownBlock) (ho : w.ownsRow base 5 s v n xs) : KB b w w1 :=
  (Ch.refl _ w).grown h (fun i hi => .inl (.inr (own_isB ho i hi)))
theorem KB.set {b : Nat} {w : World} (i : Nat) (u : Value) : KB b w (w.setCell ⟨b, i, none⟩ u) := (Ch.refl _ w).set (p := ⟨b, i, none⟩) (.inl (.inl rfl)) u
theorem KB.alloc {b : Nat} {w : World} (o : Obj) : KB b w (w.alloc o) := (Ch.refl _ w).alloc o
theorem KB.block {b k : Nat} {w w' : World} (h : KB b w w') (hk : k < w.heap.size) (hb : k ≠ b) (hu : ∀ cs, ¬ Bk w k 5 cs) : w'.heap[k]? = w.heap[k]? :=
  Ch.block h k hk (fun e => e.elim hb fun ⟨cs, e⟩ => hu cs e)
set_option maxHeartbeats 1000000 in
set_option maxRecDepth 100000 in
theorem copyCheck_any (b : Nat) (p v : Value) (w : World) (hp : p = .pointer none ∨ p = .pointer (some ⟨b, 0, none⟩)) (hb : Bk w b 74 #[p, v]) :
    Calls Tryd.prog 35 #[.pointer (some ⟨b, 0, none⟩)] w fun e w' => e = .returned (.tuple #[]) ∧ Bk w' b 74 #[.pointer (some ⟨b, 0, none⟩), v] ∧ Ch (fun i => i = b) w w' := by
  obtain ⟨j, hj, hjs⟩ := Option.map_eq_some_iff.1 Tryd.Builder_Extra_169.sizeBuilder
  have c0 : w.cell? ⟨b, 0, none⟩ = some p := hb.cell 0
  have f0 : w.frozen? ⟨b, 0, none⟩ = false := hb.free 0
  have hsh : w.shape? b = some (74, 2) := by unfold Bk at hb; simp [World.shape?, hb]
  have HB := Lib.hid hb
  clear hb
  rcases hp with rfl | rfl
  · go_enter Tryd.func35, Tryd.ntmps35
    go_wp2
    rw [Lib.run_to_unsafe w ⟨b, 0, none⟩ Tryd.underlying72 Tryd.underlying103 hj (by rw [hjs]; decide) hsh (Nat.zero_lt_succ 1)]
    simp only [Result.andThen]
    rw [Oper.upon_value]
    go_wp2
    rw [run_callFunc_extern Tryd.func39 (by kernel_rfl) (by kernel_rfl) (by kernel_rfl) (e := Extern.AbiNoEscape.same) (by kernel_rfl)]
    rw [Lib.run_noEscape]
    simp only [Result.andThen]
    rw [Oper.upon_value]
    go_wp2
    rw [Lib.run_from_unsafe w ⟨b, 0, none⟩ Tryd.underlying103 Tryd.underlying72 hj hsh Tryd.Builder_Extra_169.liesBuilder]
    simp only [Result.andThen]
    rw [Oper.upon_value]
    go_wp2
    go_end0
    exact ⟨rfl, by have := HB.out.set 0 (.pointer (some ⟨b, 0, none⟩)); simpa using this, (Ch.refl (fun i => i = b) w).set (p := ⟨b, 0, none⟩) (.inl rfl) _⟩
  · go_enter Tryd.func35, Tryd.ntmps35
    go_wp2
    rw [Lib.run_neq_ptr_same w _ Tryd.underlying72 hj]
    go_wp2
    go_end0
    exact ⟨rfl, HB.out, Ch.refl _ _⟩
set_option maxHeartbeats 1000000 in
set_option maxRecDepth 100000 in
theorem wbyte_any (b : Nat) (l : List UInt8) (c : UInt8) (w : World) (h : BD w b l) (hl : l.length ≤ 1000000) :
    Calls Tryd.prog 30 #[.pointer (some ⟨b, 0, none⟩), .int .u8 (c.toNat : Int)] w fun e w' => e = .returned .nilIface ∧ BD w' b (l ++ [c]) ∧ KB b w w' ∧ Below b w w' := by
  obtain ⟨p, v, hp, hb, ho⟩ := h
  have hz := hb.lt
  have Hc := Lib.hid (copyCheck_any b p v w hp hb)
  have Ho := Lib.hid ho
  clear hb ho hp
  have hcn := c.toNat_lt
  obtain ⟨z, hz'⟩ : ∃ z : Int, (c.toNat : Int) = z := ⟨_, rfl⟩
  have Hz := Lib.hid hz'
  rw [hz']
  clear hz' hcn
  go_enter Tryd.func30, Tryd.ntmps30
  go_wp2_with fail
  with_reducible refine Hc.out.mono ?_
  rintro e w1 ⟨rfl, hb1, hc1⟩
  obtain ⟨A, d, rfl, _, _⟩ := own_form Ho.out
  have ho1 := own_ch Ho.out hc1 (fun i hi e => by have := (Ho.out.lt i hi).1; omega)
  have c1 : w1.cell? ⟨b, 1, none⟩ = some (.slice A l.length d) := hb1.cell 1
  have HO := Lib.hid (ho1.alloc (.cells #[.int .u8 z] 5))
  have HR := Lib.hid (Rd.oneB w1 5 (u := c) Hz.out.symm)
  have HB := Lib.hid (hb1.alloc (.cells #[.int .u8 z] 5))
  have HC := Lib.hid ((KB.ch hc1 (fun i hi => .inl hi) : KB b w w1).trans (KB.alloc (.cells #[.int .u8 z] 5)))
  have HBe := Lib.hid ((hc1.below (B := b) (by omega) (fun i hi => by omega)).alloc (by have := hc1.size; omega) (.cells #[.int .u8 z] 5))
  have hz1 := hb1.lt
  clear hb1 hc1 ho1 Hc Ho
  go_wp2_with (at_builtin; go_loud (refine ap_bys (w0 := w1.alloc (.cells #[.int .u8 z] 5)) HO.out HR.out (Below.refl _ _) (by simp; omega) (by omega) (by rfl) (by rfl) (by rfl) ?_; intro v4 w4 hown4 hb4 hg4 hat4; obtain ⟨A4, d4, rfl, _, _⟩ := own_form hown4; have hbk4 := Bk.below HB.out hb4 (by omega); have e4 := hbk4.cell 1; have f4 := hbk4.free 1; have Hw4 := Lib.hid hown4; have Hb4 := Lib.hid hb4; have Hg4 := Lib.hid hg4; have Hk4 := Lib.hid hbk4; clear hown4 hb4 hg4 hat4 hbk4; simp at e4))
  go_ret
  refine ⟨rfl, ⟨_, _, .inr rfl, by have := Hk4.out.set 1 (.slice A4 (l.length + 1) d4); simpa using this, ?_⟩, (HC.out.trans (KB.grown Hg4.out HO.out)).trans (KB.set 1 _), (HBe.out.trans (Hb4.out.mono (by omega))).setCell (Nat.le_refl _) _⟩
  rw [List.length_append]
  exact own_ch Hw4.out ((Ch.refl (fun i => i = b) _).set (p := ⟨b, 1, none⟩) (.inl rfl) _) (fun i hi e => by have := (Hw4.out.lt i hi).1; omega)
/-- A row grows by what is known to be behind one new block. -/
theorem grown_ao {w w' : World} {o : Obj} {row : Option Nat} (h : (w.alloc o).grownBy w' row) : w.grownBy w' row := (World.grownBy_alloc w o row).trans h
set_option maxHeartbeats 1000000 in
set_option maxRecDepth 100000 in
theorem wrune_any (b : Nat) (l : List UInt8) (r : Int) (w : World) (h : BD w b l) (hl : l.length ≤ 1000000) (hr0 : -2147483648 ≤ r) (hr1 : r ≤ 2147483647) :
    Calls Tryd.prog 26 #[.pointer (some ⟨b, 0, none⟩), .int .i32 r] w fun e w' => (∃ n, e = .returned (.tuple #[.int .i64 n, .nilIface])) ∧ BD w' b (l ++ Lib.encodeRune r) ∧ KB b w w' ∧ Below b w w' := by
  obtain ⟨p, v, hp, hb, ho⟩ := h
  have hz := hb.lt
  have Hc := Lib.hid (copyCheck_any b p v w hp hb)
  have Ho := Lib.hid ho
  clear hb ho hp
  go_enter Tryd.func26, Tryd.ntmps26
  go_wp2_with fail
  with_reducible refine Hc.out.mono ?_
  rintro e w1 ⟨rfl, hb1, hc1⟩
  obtain ⟨A, d, rfl, _, _⟩ := own_form Ho.out
  have ho1 := own_ch Ho.out hc1 (fun i hi e => by have := (Ho.out.lt i hi).1; omega)
  have c1 : w1.cell? ⟨b, 1, none⟩ = some (.slice A l.length d) := hb1.cell 1
  have hz1 := hb1.lt
  have HO := Lib.hid ho1
  have HB := Lib.hid hb1
  have HC := Lib.hid (KB.ch hc1 (fun i hi => .inl hi) : KB b w w1)
  have HBe := Lib.hid (hc1.below (B := b) (by omega) (fun i hi => by omega))
  have HA := Lib.hid (Tryd.utf8_AppendRune_plain (b + 1) (.slice A l.length d) l.length (bys l) r hr0 hr1 w1 ho1 (by omega) (by omega))
  clear hb1 hc1 ho1 Hc Ho
  go_wp2_with fail
  with_reducible refine HA.out.mono ?_
  rintro e w2 ⟨v2, rfl, ho2, o, hg2⟩
  have hg2' := grown_ao hg2
  have hb2 := HB.out.grown hg2' (fun e => by have := (HO.out.lt b e.symm).1; omega)
  have hbe2 := HBe.out.grown hg2' (by have := HBe.out.size; omega) (fun k hk => by have := (HO.out.lt k hk).1; omega)
  have hkb2 := HC.out.trans (KB.grown hg2' HO.out)
  have hb3 := hb2.set 1 v2
  have e2 : w2.cell? ⟨b, 1, none⟩ = some (.slice A l.length d) := hb2.cell 1
  have f2 : w2.frozen? ⟨b, 1, none⟩ = false := hb2.free 1
  obtain ⟨A2, d2, rfl, _, _⟩ := own_form ho2
  have e3 : (w2.setCell ⟨b, 1, none⟩ (.slice A2 (l.length + (Lib.runeCells r).length) d2)).cell? ⟨b, 1, none⟩ = some (.slice A2 (l.length + (Lib.runeCells r).length) d2) := by have := hb3.cell 1; simpa using this
  have HF := Lib.hid (show BD (w2.setCell ⟨b, 1, none⟩ (.slice A2 (l.length + (Lib.runeCells r).length) d2)) b (l ++ Lib.encodeRune r) ∧ KB b w (w2.setCell ⟨b, 1, none⟩ (.slice A2 (l.length + (Lib.runeCells r).length) d2)) ∧ Below b w (w2.setCell ⟨b, 1, none⟩ (.slice A2 (l.length + (Lib.runeCells r).length) d2)) from by
    refine ⟨⟨_, _, .inr rfl, by simpa using hb3, ?_⟩, hkb2.trans (KB.set 1 _), hbe2.setCell (Nat.le_refl _) _⟩
    rw [List.length_append, bys_app, show bys (Lib.encodeRune r) = Lib.runeCells r from Lib.byteCells_encodeRune r, ← Lib.runeCells_length]
    exact own_ch ho2 ((Ch.refl (fun i => i = b) _).set (p := ⟨b, 1, none⟩) (.inl rfl) _) (fun i hi e => by have := (ho2.lt i hi).1; omega))
  generalize (Lib.runeCells r).length = nn at *
  clear hg2 hg2' hb2 hbe2 hkb2 hb3 ho2 HA HO HB HC HBe
  go_wp2_with fail
  go_ret2
  exact ⟨⟨_, rfl⟩, HF.out⟩
end Go.Proofs.YtbdehlphblbmoaaDoor
