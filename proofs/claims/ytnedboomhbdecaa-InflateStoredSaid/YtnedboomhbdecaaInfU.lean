/- Package inflate: an unpacker in memory. -/
import Derived.Test.YtnedboomhbdecaaInfE
import Derived.Deep.RegionHeld3
namespace Go.Proofs.Ytnedboomhbdecaa
open Go.RowKit
attribute [local go_sem ↓] Go.wp_at_zero Go.wp_at_succ

/-- The blocks that an unpacker may change. -/
def XU (S : Nat → Prop) (g : Nat) (vo : Value) : Nat → Prop := fun k => S k ∨ k = g ∨ vo.ownBlock = some k
/-- What it always has. -/
structure UB (w : World) (base g gi : Nat) (S : Nat → Prop) (L : List UInt8) (out : List UInt8) (vo : Value) (a : Nat) : Prop where
  rd : RdS w S gi L a
  sg : ¬ S g
  ow : w.ownsRow base 5 1 vo out.length (bys out)
  os : ∀ b, vo.ownBlock = some b → ¬ S b
  lo : base ≤ g
  ls : ∀ k, S k → base ≤ k
  gl : g < w.heap.size
structure UN (w : World) (base g gi : Nat) (S : Nat → Prop) (L : List UInt8) (c : Cf) (vo v7 v8 : Value) : Prop where
  bk : Bk w g 95 #[.pointer (some ⟨gi, 0, none⟩), vo, .int .i64 0, .int .i64 (c.st : Int), .bool c.last, .int .i64 (c.left : Int), .int .i64 (c.back : Int), v7, v8]
  ub : UB w base g gi S L c.out vo c.a
  cd : c.st = 2 ∨ c.st = 3 → CodOK w (XU S g vo) v7 c.lits ∧ CodOK w (XU S g vo) v8 c.dist
  iv : c.st = 3 → 1 ≤ c.back ∧ c.back ≤ c.out.length
  bd : c.left ≤ 65535 ∧ c.st ≤ 4
/-- After an error. -/
def UE (w : World) (base g gi : Nat) (S : Nat → Prop) (L : List UInt8) (out : List UInt8) (vo : Value) : Prop :=
  ∃ (a : Nat) (c3 c5 c6 v7 v8 c4 : Value), Bk w g 95 #[.pointer (some ⟨gi, 0, none⟩), vo, .int .i64 0, c3, c4, c5, c6, v7, v8] ∧ UB w base g gi S L out vo a
section
variable {w w' : World} {base g gi : Nat} {S : Nat → Prop} {L out : List UInt8} {vo : Value} {a : Nat} {c : Cf} {v7 v8 : Value}
theorem XU.new (h : ∀ k, XU S g vo k → k < w.heap.size) : ∀ k, XU S g vo k → k < w.heap.size := h
theorem UB.lt (h : UB w base g gi S L out vo a) : ∀ k, XU S g vo k → k < w.heap.size := by
  intro k hk
  rcases hk with hk | rfl | hk
  · exact h.rd.lt k hk
  · exact h.gl
  · exact (h.ow.lt k hk).2
theorem UB.low (h : UB w base g gi S L out vo a) : ∀ k, XU S g vo k → base ≤ k := by
  intro k hk
  rcases hk with hk | rfl | hk
  · exact h.ls k hk
  · exact h.lo
  · exact (h.ow.lt k hk).1
/-- Something else changes. -/
theorem UB.ch {Y : Nat → Prop} (h : UB w base g gi S L out vo a) (hc : Ch Y w w') (hy : ∀ k, Y k → ¬ S k ∧ vo.ownBlock ≠ some k) : UB w' base g gi S L out vo a :=
  ⟨h.rd.ch hc (fun i hi e => (hy i e).1 hi), h.sg, own_ch h.ow hc (fun i hi e => (hy i e).2 hi), h.os, h.lo, h.ls, Nat.lt_of_lt_of_le h.gl hc.size⟩
theorem UB.atR {a' : Nat} (h : UB w base g gi S L out vo a) (hc : Ch S w w') (hr : RdS w' S gi L a') : UB w' base g gi S L out vo a' :=
  ⟨hr, h.sg, own_ch h.ow hc (fun i hi e => h.os i hi e), h.os, h.lo, h.ls, Nat.lt_of_lt_of_le h.gl hc.size⟩
end
end Go.Proofs.Ytnedboomhbdecaa
