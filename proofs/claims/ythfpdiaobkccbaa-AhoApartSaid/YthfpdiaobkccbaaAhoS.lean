/- Words looked for at once, in memory: what keeps them while ways back are laid. -/
import Derived.Test.YthfpdiaobkccbaaAhoR
namespace Go.Proofs.Ythfpdiaobkccbaa
open Go.RowKit

/-- An append of numbers, its run. -/
theorem run_append_its (w : World) (base : Nat) (ty : TypeId) {v : Value} {n : Nat} {l l2 : List Nat} (hown : w.ownsRow base 3 1 v n (nIts l)) {B : Nat} {A : Option Addr} {m : Nat} (hr : Rd w B 1 A m (nIts l2)) (c : Nat) (hbase : base ≤ w.heap.size) (hb : n + m ≤ 1000000) :
    ∃ v' w', (Builtin.append_ #[33, 33] ty #[v, .slice A m c]).run Try.prog w = .ok v' w' ∧ w'.ownsRow base 3 1 v' (n + m) (nIts (l ++ l2)) ∧ Below base w w' ∧ w.grownBy w' v.ownBlock ∧ (v'.ownBlock = v.ownBlock ∨ v'.ownBlock = some w.heap.size) := by
  obtain ⟨i0, hi, hz0, hz1, hz2⟩ := info_parts infoI
  obtain ⟨v', w', hrun, h2, h3, h4⟩ := run_append_rd (P := Try.prog) w base 33 ty 3 i0 (.int .i64 0) 1 8 Try.underlying33 hi hz0 hz1 hz2 rfl (by decide) v n (nIts l) hown B A m c (nIts l2) hr (its_one _) (by unfold maxLen; omega) (by omega) hbase
  have e : nIts (l ++ l2) = nIts l ++ nIts l2 := by simp [nIts, its]
  exact ⟨v', w', hrun, by rw [e]; exact h2, (Below.refl _ _).grown h3 hbase (fun k hk => (hown.lt k hk).1), h3, h4⟩
/-- .. at an operation of a region whose order is open. -/
theorem ap_if {ops : Array Oper} {Q : Exit → Act → World → Prop} {K : Act → World → Prop} {E : Prop} {a : Act} {w : World} {d : Option Tmp} {ty : TypeId} {pos : String} {af : Array Edge} {s x : Operand}
    {vs vx v' : Value} {w' : World} (hs : a.eval s = vs) (hx : a.eval x = vx) (hrun : (Builtin.append_ #[33, 33] ty #[vs, vx]).run Try.prog w = .ok v' w') (h : K (a.put d v') w') :
    if Region.wanted { dst := d, op := .call { callee := .builtin .append, args := #[s, x], argTypes := #[33, 33] }, type := ty, pos := pos, after := af, guard := none } (yielded ops a.tmps) = true then
      Oper.wp Try.prog { dst := d, op := .call { callee := .builtin .append, args := #[s, x], argTypes := #[33, 33] }, type := ty, pos := pos, after := af, guard := none } a w K Q else E := by
  rw [if_pos (by simp [Region.wanted])]
  unfold Oper.wp execOp
  simp only [resolve, invoke, builtin, Sem.run_bind, Sem.run_pure, Result.andThen_ok, List.map_toArray, List.map_cons, List.map_nil, hs, hx, hrun]
  exact h
section
variable {w w' : World} {base W0 : Nat} {many : Int} {T : Tt}
/-- A block that is none of the words' turns. -/
theorem AT.kept (h : AT w base W0 many T) {row : Option Nat} (hg : w.grownBy w' row) (hr : ∀ b, row = some b → b ≠ W0 ∧ b ≠ T.gl ∧ (∀ i, i < T.S.length → T.M i ≠ b) ∧ ∀ i, i < T.S.length → (T.V i).ownBlock ≠ some b) : AT w' base W0 many T := by
  obtain ⟨cs, h1, h2⟩ := h.st
  have far : ∀ k, k < w.heap.size → (∀ b, row = some b → b ≠ k) → w'.heap[k]? = w.heap[k]? := fun k hk hne => hg.block k hk (fun e => hne k e.symm rfl)
  refine ⟨h.wd.heap (far _ h.wd.lt (fun b hb => (hr b hb).1)), ⟨cs, h1.heap (far _ h1.lt (fun b hb => (hr b hb).2.1)), h2⟩, h.nc, h.cm, fun i hi => (h.mp i hi).heap (far _ (h.mp i hi).lt (fun b hb e => (hr b hb).2.2.1 i hi e.symm)), fun i hi => ?_, h.mi, h.vi, h.bw, h.bg, h.bm⟩
  refine (h.en i hi).kept hg ?_
  cases hb : (T.V i).ownBlock with
  | none => exact .inl rfl
  | some b => exact .inr (fun e => (hr b e.symm).2.2.2 i hi hb)
theorem AT.kept_int (h : AT w base W0 many T) {row : Option Nat} (hg : w.grownBy w' row) {v : Value} (hr : ∀ b, row = some b → v.ownBlock = some b ∧ ∃ cs, Bk w b 3 cs) (hd : ∀ i, i < T.S.length → ∀ b, (T.V i).ownBlock = some b → v.ownBlock ≠ some b) : AT w' base W0 many T := by
  obtain ⟨cs, h1, h2⟩ := h.st
  refine h.kept hg fun b hb => ?_
  obtain ⟨e, cs', hb'⟩ := hr b hb
  exact ⟨hb'.ne h.wd (by decide), hb'.ne h1 (by decide), fun i hi => (h.mp i hi).ne hb', fun i hi e2 => hd i hi b e2 e⟩
theorem AT.kept_iter (h : AT w base W0 many T) {r : Nat} (hg : w.grownBy w' (some r)) {b since c0 : Nat} {seen : Array Nat} (hr : w.heap[r]? = some (.mapIter (some b) since seen c0)) : AT w' base W0 many T := by
  obtain ⟨cs, h1, h2⟩ := h.st
  refine h.kept hg fun b hb => ?_
  injection hb with hb
  subst hb
  refine ⟨?_, ?_, fun i hi e => ?_, fun i hi e => ?_⟩
  · rintro rfl; have := h.wd; unfold Bk at this; rw [hr] at this; cases this
  · rintro rfl; unfold Bk at h1; rw [hr] at h1; cases h1
  · obtain ⟨D, ⟨es, cl, hb, _⟩, _⟩ := h.mp i hi; rw [e, hr] at hb; cases hb
  · rcases (h.en i hi).2 with ⟨e2, _⟩ | ⟨g, cap, cur, e2, _, hh, _⟩
    · rw [e2] at e; cases e
    · rw [e2] at e; injection e with e; dsimp only at e; subst e; rw [hr] at hh; cases hh
theorem Qu.kept {v : Value} {q : List Nat} (H : Qu w base v q) {row : Option Nat} (hg : w.grownBy w' row) (hr : ∀ b, row = some b → v.ownBlock ≠ some b) : Qu w' base v q :=
  H.heap hg.size fun k _ hk e => hg.block k hk (fun e2 => hr k e2.symm e)
theorem Qu.kept_iter {v : Value} {q : List Nat} (H : Qu w base v q) {r : Nat} (hg : w.grownBy w' (some r)) {b since c0 : Nat} {seen : Array Nat} (hr : w.heap[r]? = some (.mapIter (some b) since seen c0)) : Qu w' base v q := by
  obtain ⟨A, n, c, rfl, h5, h1, h2, h3, h4⟩ := H
  refine ⟨A, n, c, rfl, Nat.lt_of_lt_of_le h5 hg.size, h1, h2, h3, ?_⟩
  rcases h4 with h4 | ⟨g, o, cs, rfl, hgb, hb, r2⟩
  · exact .inl h4
  · refine .inr ⟨g, o, cs, rfl, hgb, hb.heap (hg.block g hb.lt (fun e => ?_)), r2⟩
    injection e with e
    subst e
    unfold Bk at hb; rw [hr] at hb; cases hb
theorem Qu.alloc {v : Value} {q : List Nat} (H : Qu w base v q) (o : Obj) : Qu (w.alloc o) base v q := H.heap (by simp) fun k _ hk _ => Below.heap_alloc w o k hk
/-- A store into another block. -/
theorem Qu.set {v : Value} {q : List Nat} (H : Qu w base v q) {g i : Nat} {u : Value} {t : TypeId} {cs : Array Value} (hb : Bk w g t cs) (ht : t ≠ 3) : Qu (w.setCell ⟨g, i, none⟩ u) base v q := by
  obtain ⟨A, n, c, rfl, h5, h1, h2, h3, h4⟩ := H
  refine ⟨A, n, c, rfl, by simpa [World.setCell] using h5, h1, h2, h3, ?_⟩
  rcases h4 with h4 | ⟨g', o, cs', rfl, hgb, hb', r2⟩
  · exact .inl h4
  · exact .inr ⟨g', o, cs', rfl, hgb, hb'.heap (Below.heap_setCell w _ _ _ (fun e => by have e : g' = g := e; subst e; exact hb'.ne hb (fun e => ht e.symm) rfl)), r2⟩
end
theorem own_ne_iter {w : World} {base s n r b since c0 : Nat} {seen : Array Nat} {e : TypeId} {v : Value} {xs : List Value} (h : w.ownsRow base e s v n xs) (hr : w.heap[r]? = some (.mapIter (some b) since seen c0)) : v.ownBlock ≠ some r := by
  rcases h.2 with ⟨rfl, _⟩ | ⟨g', cap, cur, rfl, _, hh, _⟩
  · simp [Value.ownBlock]
  · intro he
    have : g' = r := by simpa [Value.ownBlock] using he
    subst this
    rw [hr] at hh; cases hh
/-- The iterator's block. -/
theorem ranges_iter {w : World} {P : Program} {k : TypeId} {R : Value → Option (DataW Unit × List MemPlace)} {b r n : Nat} {D : DataW Unit} {left : Lit → Bool} {cnt : Nat} (h : w.ranges P k R b r n D left cnt) : ∃ since seen c0, w.heap[r]? = some (.mapIter (some b) since seen c0) := by
  obtain ⟨es, clock, since, seen, c0, _, _, _, _, hr, _⟩ := h; exact ⟨since, seen, c0, hr⟩
/-- What stands at each head of the loop that lays the ways back. -/
structure LkO (w : World) (base W0 : Nat) (many : Int) (T : Tt) (ws : List (List UInt8)) (P q : List Nat) (v : Value) : Prop where
  at_ : AT w base W0 many T
  sv : SV T.S T.B T.E ws (P ++ q)
  sq : SQ T.S P q
  qu : Qu w base v q
  qd : ∀ i, i < T.S.length → ∀ b, (T.V i).ownBlock = some b → v.ownBlock ≠ some b
  tr : Trie T.S
  le : ∀ s ∈ T.S, s.length ≤ 64
  nn : T.S.length ≤ 513
  wi : ∀ j, j < ws.length → (ws[j]?.getD []) ∈ T.S
end Go.Proofs.Ythfpdiaobkccbaa
