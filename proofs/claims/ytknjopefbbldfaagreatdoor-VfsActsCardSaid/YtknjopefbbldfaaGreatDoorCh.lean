/- What a call may have written: the blocks of a set, and new ones. -/
import Derived.Test.YtknjopefbbldfaaGreatDoorBase
namespace Go.Proofs.YtknjopefbbldfaaGreatDoor
open Go.RowKit

/-- Only blocks of S, and new ones, have turned. -/
structure Ch (S : Nat → Prop) (w w' : World) : Prop where
  os : w'.os = w.os
  tape : w'.tape = w.tape
  output : w'.output = w.output
  size : w.heap.size ≤ w'.heap.size
  block : ∀ k, k < w.heap.size → ¬ S k → w'.heap[k]? = w.heap[k]?
section
variable {S S' : Nat → Prop} {w w1 w2 : World}
theorem Ch.refl (S : Nat → Prop) (w : World) : Ch S w w := ⟨rfl, rfl, rfl, Nat.le_refl _, fun _ _ _ => rfl⟩
theorem Ch.trans (h : Ch S w w1) (k : Ch S' w1 w2) (hs : ∀ i, S' i → S i ∨ w.heap.size ≤ i) : Ch S w w2 :=
  ⟨k.os.trans h.os, k.tape.trans h.tape, k.output.trans h.output, Nat.le_trans h.size k.size, fun i hi hn => (k.block i (Nat.lt_of_lt_of_le hi h.size) (fun e => by
    rcases hs i e with h1 | h1
    · exact hn h1
    · omega)).trans (h.block i hi hn)⟩
theorem Ch.mono (h : Ch S w w1) (hs : ∀ i, S i → S' i) : Ch S' w w1 := ⟨h.os, h.tape, h.output, h.size, fun i hi hn => h.block i hi (fun e => hn (hs i e))⟩
theorem Ch.alloc (h : Ch S w w1) (o : Obj) : Ch S w (w1.alloc o) :=
  ⟨h.os, h.tape, h.output, Nat.le_trans h.size (by simp), fun i hi hn => (Below.heap_alloc w1 o i (Nat.lt_of_lt_of_le hi h.size)).trans (h.block i hi hn)⟩
theorem Ch.set (h : Ch S w w1) {p : Addr} (hp : S p.block ∨ w.heap.size ≤ p.block) (u : Value) : Ch S w (w1.setCell p u) :=
  ⟨h.os, h.tape, h.output, by simpa [World.setCell] using h.size, fun i hi hn => (Below.heap_setCell w1 p u i (fun e => by
    rcases hp with hp | hp
    · exact hn (e ▸ hp)
    · omega)).trans (h.block i hi hn)⟩
theorem Ch.drewN (h : Ch S w w1) (n : Nat) : Ch S w (w1.drewN n) := ⟨h.os, h.tape, h.output, h.size, h.block⟩
theorem Ch.drew (h : Ch S w w1) : Ch S w w1.drew := ⟨h.os, h.tape, h.output, h.size, h.block⟩
theorem Ch.grown (h : Ch S w w1) {row : Option Nat} (k : w1.grownBy w2 row) (hs : ∀ i, row = some i → S i ∨ w.heap.size ≤ i) : Ch S w w2 :=
  ⟨k.os.trans h.os, k.tape.trans h.tape, k.output.trans h.output, Nat.le_trans h.size k.size, fun i hi hn => (k.block i (Nat.lt_of_lt_of_le hi h.size) (fun e => by
    rcases hs i e.symm with h1 | h1
    · exact hn h1
    · omega)).trans (h.block i hi hn)⟩
theorem Ch.of_below {B : Nat} (h : Below B w w1) (hB : w.heap.size ≤ B) : Ch S w w1 := ⟨h.os, h.tape, h.output, h.size, fun i hi _ => h.block i (by omega)⟩
theorem Ch.below {B : Nat} (h : Ch S w w1) (hB : B ≤ w.heap.size) (hs : ∀ i, S i → B ≤ i) : Below B w w1 :=
  ⟨h.os, h.tape, h.output, h.size, fun i hi => h.block i (by omega) (fun e => by have := hs i e; omega)⟩
theorem Bk.ch {g : Nat} {t : TypeId} {cs : Array Value} (h : Bk w g t cs) (k : Ch S w w1) (hg : ¬ S g) : Bk w1 g t cs := (k.block g h.lt hg).trans h
theorem own_ch {base s n : Nat} {e : TypeId} {v : Value} {xs : List Value} (h : w.ownsRow base e s v n xs) (k : Ch S w w1) (hv : ∀ i, v.ownBlock = some i → ¬ S i) : w1.ownsRow base e s v n xs := by
  refine ⟨h.1, ?_⟩
  rcases h.2 with h2 | ⟨g, cap, cur, rfl, hg, hh, r⟩
  · exact .inl h2
  · exact .inr ⟨g, cap, cur, rfl, hg, by rw [k.block g (Array.getElem?_eq_some_iff.1 hh).1 (hv g rfl)]; exact hh, r⟩
theorem Rd.ch {B s n : Nat} {A : Option Addr} {xs : List Value} (h : Rd w B s A n xs) (k : Ch S w w1) (hB : B ≤ w.heap.size) (hs : ∀ i, S i → B ≤ i) : Rd w1 B s A n xs :=
  h.keep fun p hp => World.cell?_of_block (k.block p.block (by omega) (fun e => by have := hs _ e; omega))
end
end Go.Proofs.YtknjopefbbldfaaGreatDoor
