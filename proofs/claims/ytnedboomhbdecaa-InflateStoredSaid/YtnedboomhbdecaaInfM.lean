/- Package inflate: the reader's cells, its bits, and an error's cell, together. -/
import Derived.Test.YtnedboomhbdecaaInfL
namespace Go.Proofs.Ytnedboomhbdecaa
open Go.RowKit
attribute [local go_sem ↓] Go.wp_at_zero Go.wp_at_succ

/-- The reader's cells, its bits, an error's cell. -/
structure NB (w : World) (g gi ge : Nat) (S : Nat → Prop) (L : List UInt8) (cs : Array Value) (a : Nat) (E : Int) : Prop where
  bk : Bk w g 95 cs
  c0 : cs[0]? = some (.pointer (some ⟨gi, 0, none⟩))
  rd : RdS w S gi L a
  er : Bk w ge 34 #[.int .i64 E]
  sg : ¬ S g
  se : ¬ S ge
section
variable {w w' : World} {g gi ge : Nat} {S : Nat → Prop} {L : List UInt8} {cs : Array Value} {a : Nat} {E : Int}
theorem NB.ne (h : NB w g gi ge S L cs a E) : g ≠ ge := h.bk.ne h.er (by decide)
theorem NB.ch {X : Nat → Prop} (h : NB w g gi ge S L cs a E) (hc : Ch X w w') (h1 : ¬ X g) (h2 : ¬ X ge) (h3 : ∀ i, S i → ¬ X i) : NB w' g gi ge S L cs a E :=
  ⟨h.bk.ch hc h1, h.c0, h.rd.ch hc h3, h.er.ch hc h2, h.sg, h.se⟩
theorem NB.new (h : NB w g gi ge S L cs a E) (hc : Ch (fun _ => False) w w') : NB w' g gi ge S L cs a E := h.ch hc (fun h => h) (fun h => h) (fun _ _ h => h)
theorem NB.below (h : NB w g gi ge S L cs a E) (hb : Below w.heap.size w w') : NB w' g gi ge S L cs a E := h.new (Ch.of_below hb (Nat.le_refl _))
theorem NB.alloc (h : NB w g gi ge S L cs a E) (o : Obj) : NB (w.alloc o) g gi ge S L cs a E := h.new ((Ch.refl _ _).alloc o)
theorem NB.drewN (h : NB w g gi ge S L cs a E) (q : Nat) : NB (w.drewN q) g gi ge S L cs a E := h.new ((Ch.refl _ _).drewN q)
theorem NB.start (hb : Bk w g 95 cs) (h0 : cs[0]? = some (.pointer (some ⟨gi, 0, none⟩))) (hr : RdS w S gi L a) (hg : ¬ S g) (x : Int) : NB (w.alloc (.cells #[.int .i64 x] 34)) g gi w.heap.size S L cs a x :=
  ⟨hb.alloc _, h0, hr.ch ((Ch.refl (fun _ => False) w).alloc _) (fun _ _ h => h), Bk.new _ _ _, hg, fun h => by have := hr.lt _ h; omega⟩
theorem NB.setE (h : NB w g gi ge S L cs a E) (x : Int) : NB (w.setCell ⟨ge, 0, none⟩ (.int .i64 x)) g gi ge S L cs a x :=
  ⟨h.bk.far (p := ⟨ge, 0, none⟩) h.ne _, h.c0, h.rd.ch ((Ch.refl (fun k => k = ge) w).set (p := ⟨ge, 0, none⟩) (.inl rfl) _) (fun i hi e => h.se (e ▸ hi)), h.er.set 0 _, h.sg, h.se⟩
theorem NB.setR (h : NB w g gi ge S L cs a E) {i : Nat} (hi : 0 < i) (v : Value) : NB (w.setCell ⟨g, i, none⟩ v) g gi ge S L (cs.setIfInBounds i v) a E :=
  ⟨h.bk.set i v, by rw [Array.getElem?_setIfInBounds_ne (by omega)]; exact h.c0, h.rd.ch ((Ch.refl (fun k => k = g) w).set (p := ⟨g, i, none⟩) (.inl rfl) _) (fun j hj e => h.sg (e ▸ hj)), h.er.far (p := ⟨g, i, none⟩) (fun e => h.ne e.symm) _, h.sg, h.se⟩
/-- need, both ways. -/
theorem need_b (k : Nat) (h : NB w g gi ge S L cs a E) (hk : k ≤ 24) :
    Calls Try.prog 70 #[.pointer (some ⟨g, 0, none⟩), .int .i64 k, .pointer (some ⟨ge, 0, none⟩)] w fun e w' => ∃ (x a' : Nat) (E' : Int), e = .returned (.int .i64 x) ∧ x < 2 ^ k ∧ NB w' g gi ge S L cs a' E' ∧ Ch (fun i => S i ∨ i = ge) w w' ∧
      (E' = 0 → E = 0 ∧ ndP k (bitsB L) a = some (x, a')) ∧ (E' ≠ 0 → E = 0 → ndP k (bitsB L) a = none) := by
  have h0 : w.cell? ⟨g, 0, none⟩ = some (.pointer (some ⟨gi, 0, none⟩)) := (h.bk.cell 0).trans h.c0
  by_cases ha : a + k ≤ 8 * L.length
  · refine (need_yes k (.pointer (some ⟨ge, 0, none⟩)) h0 h.rd hk ha).mono ?_
    rintro e w' ⟨rfl, hr, hc⟩
    exact ⟨_, _, E, rfl, peekN_lt _ _ _, ⟨h.bk.ch hc h.sg, h.c0, hr, h.er.ch hc h.se, h.sg, h.se⟩, hc.mono (fun i h => .inl h), fun hE => ⟨hE, nd_yes ha⟩, fun h1 h2 => absurd h2 h1⟩
  · refine (need_no k h0 h.rd hk ha h.er).mono ?_
    rintro e w' ⟨rfl, he, hc⟩
    refine ⟨0, a, erE E, rfl, Nat.pow_pos (by omega), ⟨h.bk.ch hc h.ne, h.c0, h.rd.ch hc (fun i hi e => h.se (e ▸ hi)), he, h.sg, h.se⟩, hc.mono (fun i h => .inr h), fun hE => ?_, fun _ _ => nd_no ha⟩
    unfold erE at hE
    split at hE
    · cases hE
    · contradiction
end
/-- A code that nothing within X can change. -/
def CodOK (w : World) (X : Nat → Prop) (v : Value) (l : List Int) : Prop := ∃ gc, v = .pointer (some ⟨gc, 0, none⟩) ∧ (∀ w', Ch X w w' → HRw w' l gc) ∧ mayB l = true ∧ overTo l 15 = false
theorem CodOK.ch {w w' : World} {X X' : Nat → Prop} {v : Value} {l : List Int} (h : CodOK w X v l) (hc : Ch X w w') (hs : ∀ i, X' i → X i ∨ w.heap.size ≤ i) : CodOK w' X' v l := by
  obtain ⟨gc, e, h1, h2, h3⟩ := h
  exact ⟨gc, e, fun w2 h => h1 w2 (hc.trans h hs), h2, h3⟩
theorem HCl.ok {w : World} {lo : Nat} {l : List Int} {gc : Nat} (h : HCl w lo l gc) {X : Nat → Prop} (hX : ∀ k, X k → k < lo) (h1 : mayB l = true) (h2 : overTo l 15 = false) : CodOK w X (.pointer (some ⟨gc, 0, none⟩)) l :=
  ⟨gc, rfl, fun w' hc => h.rows (fun k hk hk2 => hc.block k hk2 (fun e => by have := hX k e; omega)) hc.size, h1, h2⟩
end Go.Proofs.Ytnedboomhbdecaa
