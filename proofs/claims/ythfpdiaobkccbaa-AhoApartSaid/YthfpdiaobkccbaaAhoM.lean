/- Words looked for at once, in memory: the states, their maps, their rows of ends. -/
import Derived.Test.YthfpdiaobkccbaaAhoP
import Derived.Test.YthfpdiaobkccbaaBase
import Derived.Test.YthfpdiaobkccbaaCh
import Derived.Test.YthfpdiaobkccbaaInts
import Derived.Maps.OwnSet
import Derived.Maps.RangeWalk
namespace Go.Proofs.Ythfpdiaobkccbaa
open Go.RowKit
open Go.Maps (Keyed)

theorem lawU : Keyed Try.prog 5 := Maps.int_keyed Try.underlying5
theorem zeroI (w : World) : (zeroValue 3).run Try.prog w = .ok (.int .i64 0) w := by kernel_rfl
/-- A map from bytes to numbers. -/
def MapF (w : World) (m n : Nat) (f : UInt8 → Option Nat) : Prop :=
  ∃ D : DataW Unit, w.ownsMap Try.prog 5 (plainElem Try.prog 3) m n D ∧ (∀ c : UInt8, Maps.has D (.int .u8 (c.toNat : Int)) = (f c).isSome) ∧
    ∀ (c : UInt8) (v : Nat), f c = some v → ∀ z, D.atKey (.int .u8 (c.toNat : Int)) z = .lit (.int .i64 (v : Int))
theorem wfU (c : UInt8) : (Lit.int .u8 (c.toNat : Int)).wf = true := WalkArith.wf_u8 (by have := c.toNat_lt; omega)
theorem MapF.new (w : World) : MapF (w.alloc (.map #[] 0)) w.heap.size 0 (fun _ => none) :=
  ⟨.map [], World.ownsMap_made _ _ _ _, fun c => rfl, fun c v h => by cases h⟩
theorem MapF.mono {w : World} {m n n' : Nat} {f : UInt8 → Option Nat} (h : MapF w m n f) (hn : n ≤ n') : MapF w m n' f := by
  obtain ⟨D, h1, h2⟩ := h; exact ⟨D, h1.mono hn, h2⟩
theorem MapF.lt {w : World} {m n : Nat} {f : UInt8 → Option Nat} (h : MapF w m n f) : m < w.heap.size := by obtain ⟨D, h1, _⟩ := h; exact h1.lt
theorem MapF.heap {w w' : World} {m n : Nat} {f : UInt8 → Option Nat} (h : MapF w m n f) (hw : w'.heap[m]? = w.heap[m]?) : MapF w' m n f := by
  obtain ⟨D, ⟨es, cl, hb, r⟩, h2⟩ := h; exact ⟨D, ⟨es, cl, hw.trans hb, r⟩, h2⟩
theorem MapF.congr {w : World} {m n : Nat} {f g : UInt8 → Option Nat} (h : MapF w m n f) (e : ∀ c, g c = f c) : MapF w m n g := by
  have : g = f := funext e
  rw [this]; exact h
/-- A map's block is no block of cells. -/
theorem MapF.ne {w : World} {m n g : Nat} {f : UInt8 → Option Nat} {cs : Array Value} {e : TypeId} {fr : Nat × Nat} (h : MapF w m n f) (hg : w.heap[g]? = some (.cells cs e fr)) : m ≠ g := by
  obtain ⟨D, ⟨es, cl, hb, _⟩, _⟩ := h
  rintro rfl
  rw [hb] at hg; cases hg
/-- v, ok := m[c] -/
theorem look_map {w : World} {ops : Array Oper} {rest : List Oper} {o : Oper} {a : Act} {Q : Exit → Act → World → Prop} (hg : o.guard = none) (m x : Operand) (hop : o.op = Op.lookup 45 m x true)
    {b n : Nat} {f : UInt8 → Option Nat} (h : MapF w b n f) (c : UInt8) (hm : a.eval m = .map (some b)) (hx : a.eval x = .int .u8 (c.toNat : Int))
    (hK : ∀ z : Int, (∀ v, f c = some v → z = v) → wpList Try.prog ops Q rest (a.put o.dst (.tuple #[.int .i64 z, .bool (f c).isSome])) w) : wpList Try.prog ops Q (o :: rest) a w := by
  obtain ⟨D, h1, h2, h3⟩ := h
  refine wpList_lookup_own_ok_int w hg m x _ hop 5 3 .i64 lawU Try.underlying45 Try.underlying3 (zeroI w) b n D hm h1 _ _ hx (Maps.keyOf_int_mk Try.underlying5 (wfU c)) ?_
  intro z hz _
  rw [h2 c]
  refine hK z fun v hv => ?_
  rw [h3 c v hv] at hz
  injection hz with hz
  injection hz with _ hz
  exact hz.symm
/-- m[c] = y -/
theorem put_map {w : World} {ops : Array Oper} {rest : List Oper} {o : Oper} {a : Act} {Q : Exit → Act → World → Prop} (hg : o.guard = none) (m x v : Operand) (hop : o.op = Op.mapUpdate 45 m x v)
    {b n : Nat} {f : UInt8 → Option Nat} (h : MapF w b n f) (c : UInt8) (y : Nat) (hn : n ≤ 1000000) (hy : y ≤ 1000000) (hm : a.eval m = .map (some b)) (hx : a.eval x = .int .u8 (c.toNat : Int)) (hv : a.eval v = .int .i64 (y : Int))
    (hK : ∀ w', MapF w' b (n + 1) (fun d => if d = c then some y else f d) → w.grownBy w' (some b) → wpList Try.prog ops Q rest (a.put o.dst undef) w') : wpList Try.prog ops Q (o :: rest) a w := by
  obtain ⟨D, h1, h2, h3⟩ := h
  have hkey : keyOf Try.prog 5 (.int .u8 (c.toNat : Int)) = some (.int .u8 (c.toNat : Int)) := Maps.keyOf_int_mk Try.underlying5 (wfU c)
  have hlit := lawU.key hkey
  have hM : Maps.IsMap D := h1.isMap
  refine wpList_mapUpdate_own w hg m x v _ hop 5 3 lawU Try.underlying45 _ b n D hm h1 (by unfold maxLen; omega) _ _ _ hx hv hkey _ [] (plainElem_int Try.underlying3 (WalkArith.wf_i64 (by omega))) ?_
  intro w' h4 h5
  have hne : ∀ d : UInt8, d ≠ c → (Lit.int .u8 (d.toNat : Int)) ≠ .int .u8 (c.toNat : Int) := fun d hd e => hd (by injection e with _ e; exact UInt8.toNat_inj.1 (by omega))
  refine hK w' ⟨_, h4, fun d => ?_, fun d v hv z => ?_⟩ h5
  · dsimp only
    by_cases hd : d = c
    · subst hd; rw [if_pos rfl]; exact Maps.has_put_same hM hlit _
    · rw [if_neg hd, Maps.has_put_other (hne d hd)]; exact h2 d
  · dsimp only at hv
    by_cases hd : d = c
    · subst hd; rw [if_pos rfl] at hv; injection hv with hv; subst hv; exact Maps.atKey_put_same hM hlit _ _
    · rw [if_neg hd] at hv; rw [Maps.atKey_put_other (hne d hd)]; exact h3 d v hv z
/-- What the words are: the states' strings, their block and its capacity, their maps, ways back, rows of ends. -/
structure Tt where
  S : List (List UInt8)
  gl : Nat
  cl : Nat
  M : Nat → Nat
  B : Nat → Nat
  V : Nat → Value
  E : Nat → List Nat
def nIts (l : List Nat) : List Value := its (l.map Int.ofNat)
def upd {α : Type} (f : Nat → α) (n : Nat) (v : α) (m : Nat) : α := if m = n then v else f m
theorem upd_same {α : Type} (f : Nat → α) (n : Nat) (v : α) : upd f n v n = v := by unfold upd; rw [if_pos rfl]
theorem upd_ne {α : Type} (f : Nat → α) {n m : Nat} (h : m ≠ n) (v : α) : upd f n v m = f m := by unfold upd; rw [if_neg h]
/-- The states' cells. -/
def StC (cs : Array Value) (n : Nat) (M B : Nat → Nat) (V : Nat → Value) : Prop :=
  ∀ i, i < n → cs[i * 3]? = some (.map (some (M i))) ∧ cs[i * 3 + 1]? = some (.int .i64 (B i : Int)) ∧ cs[i * 3 + 2]? = some (V i)
/-- The words in memory: block W0, all from base on. -/
structure AT (w : World) (base W0 : Nat) (many : Int) (T : Tt) : Prop where
  wd : Bk w W0 50 #[.slice (some ⟨T.gl, 0, none⟩) T.S.length T.cl, .int .i64 many]
  st : ∃ cs : Array Value, Bk w T.gl 47 cs ∧ cs.size = T.cl * 3 ∧ StC cs T.S.length T.M T.B T.V
  nc : T.S.length ≤ T.cl
  cm : T.cl ≤ maxLen
  mp : ∀ i, i < T.S.length → MapF w (T.M i) T.S.length (nx T.S i)
  en : ∀ i, i < T.S.length → w.ownsRow base 3 1 (T.V i) (T.E i).length (nIts (T.E i))
  mi : ∀ i j, i < T.S.length → j < T.S.length → T.M i = T.M j → i = j
  vi : ∀ i j, i < T.S.length → j < T.S.length → i ≠ j → ∀ b, (T.V i).ownBlock = some b → (T.V j).ownBlock ≠ some b
  bw : base ≤ W0
  bg : base ≤ T.gl
  bm : ∀ i, i < T.S.length → base ≤ T.M i
section
variable {w w' : World} {base W0 : Nat} {many : Int} {T : Tt}
theorem own_heap {base s n : Nat} {e : TypeId} {v : Value} {xs : List Value} (h : w.ownsRow base e s v n xs) (hk : ∀ k, base ≤ k → k < w.heap.size → w'.heap[k]? = w.heap[k]?) : w'.ownsRow base e s v n xs := by
  refine ⟨h.1, ?_⟩
  rcases h.2 with h2 | ⟨g, cap, cur, rfl, hg, hh, r⟩
  · exact .inl h2
  · exact .inr ⟨g, cap, cur, rfl, hg, by rw [hk g hg (Array.getElem?_eq_some_iff.1 hh).1]; exact hh, r⟩
theorem Bk.heap {g : Nat} {t : TypeId} {cs : Array Value} (h : Bk w g t cs) (hk : w'.heap[g]? = w.heap[g]?) : Bk w' g t cs := hk.trans h
/-- Nothing of its own blocks has turned. -/
theorem AT.frame (h : AT w base W0 many T) (hk : ∀ k, base ≤ k → k < w.heap.size → w'.heap[k]? = w.heap[k]?) : AT w' base W0 many T :=
  ⟨h.wd.heap (hk _ h.bw h.wd.lt), by obtain ⟨cs, h1, h2⟩ := h.st; exact ⟨cs, h1.heap (hk _ h.bg h1.lt), h2⟩, h.nc, h.cm, fun i hi => (h.mp i hi).heap (hk _ (h.bm i hi) (h.mp i hi).lt), fun i hi => own_heap (h.en i hi) hk, h.mi, h.vi, h.bw, h.bg, h.bm⟩
theorem AT.below (h : AT w base W0 many T) (hb : Below w.heap.size w w') : AT w' base W0 many T := h.frame fun k _ hk => hb.block k hk
theorem AT.alloc (h : AT w base W0 many T) (o : Obj) : AT (w.alloc o) base W0 many T := h.frame fun k _ hk => Below.heap_alloc w o k hk
theorem AT.drewN (h : AT w base W0 many T) (q : Nat) : AT (w.drewN q) base W0 many T := h.frame fun _ _ _ => rfl
theorem AT.cells (h : AT w base W0 many T) {i : Nat} (hi : i < T.S.length) : w.cell? ⟨T.gl, i * 3, none⟩ = some (.map (some (T.M i))) ∧ w.cell? ⟨T.gl, i * 3 + 1, none⟩ = some (.int .i64 (T.B i : Int)) ∧ w.cell? ⟨T.gl, i * 3 + 2, none⟩ = some (T.V i) := by
  obtain ⟨cs, h1, _, h3⟩ := h.st
  obtain ⟨a, b, c⟩ := h3 i hi
  exact ⟨(h1.cell _).trans a, (h1.cell _).trans b, (h1.cell _).trans c⟩
theorem AT.free (h : AT w base W0 many T) (k : Nat) : w.frozen? ⟨T.gl, k, none⟩ = false := by obtain ⟨cs, h1, _⟩ := h.st; exact h1.free k
theorem AT.head (h : AT w base W0 many T) : w.cell? ⟨W0, 0, none⟩ = some (.slice (some ⟨T.gl, 0, none⟩) T.S.length T.cl) ∧ w.cell? ⟨W0, 1, none⟩ = some (.int .i64 many) := ⟨h.wd.cell 0, h.wd.cell 1⟩
/-- Blocks of cells of unlike types are not one. -/
theorem Bk.ne {g g' : Nat} {t t' : TypeId} {cs cs' : Array Value} (h : Bk w g t cs) (h' : Bk w g' t' cs') (hne : t ≠ t') : g ≠ g' := by
  rintro rfl
  unfold Bk at h h'
  rw [h] at h'
  injection h' with h'
  injection h' with _ ht
  exact hne ht
theorem own_ne {base s n : Nat} {e t : TypeId} {v : Value} {xs : List Value} {g : Nat} {cs : Array Value} (h : w.ownsRow base e s v n xs) (hg : Bk w g t cs) (hne : e ≠ t) : v.ownBlock ≠ some g := by
  rcases h.2 with ⟨rfl, _⟩ | ⟨g', cap, cur, rfl, _, hh, _⟩
  · simp [Value.ownBlock]
  · intro he
    have : g' = g := by simpa [Value.ownBlock] using he
    subst this
    exact Bk.ne (t := e) hh hg hne rfl
theorem own_ne_map {base s n m nb : Nat} {e : TypeId} {v : Value} {xs : List Value} {f : UInt8 → Option Nat} (h : w.ownsRow base e s v n xs) (hm : MapF w m nb f) : v.ownBlock ≠ some m := by
  rcases h.2 with ⟨rfl, _⟩ | ⟨g', cap, cur, rfl, _, hh, _⟩
  · simp [Value.ownBlock]
  · intro he
    have : g' = m := by simpa [Value.ownBlock] using he
    subst this
    exact hm.ne hh rfl
theorem own_apart' {base s n : Nat} {e t : TypeId} {v : Value} {xs : List Value} {g : Nat} {cs : Array Value} (h : w.ownsRow base e s v n xs) (hg : Bk w g t cs) (hne : e ≠ t) {i : Nat} {u : Value} : (w.setCell ⟨g, i, none⟩ u).ownsRow base e s v n xs := by
  refine h.kept (gb_set (World.grownBy.refl _ _) i u) ?_
  exact .inr (own_ne h hg hne)
/-- A way back is laid. -/
theorem AT.setBack (h : AT w base W0 many T) {i : Nat} (hi : i < T.S.length) (x : Nat) : AT (w.setCell ⟨T.gl, i * 3 + 1, none⟩ (.int .i64 (x : Int))) base W0 many { T with B := upd T.B i x } := by
  obtain ⟨cs, h1, h2, h3⟩ := h.st
  have far : ∀ k, k ≠ T.gl → (w.setCell ⟨T.gl, i * 3 + 1, none⟩ (.int .i64 (x : Int))).heap[k]? = w.heap[k]? := fun k hk => Below.heap_setCell w _ _ k hk
  have hsz : i * 3 + 1 < cs.size := by have := h.nc; omega
  refine ⟨h.wd.heap (far _ (h.wd.ne h1 (by decide))), ⟨_, h1.set _ _, by rw [Array.size_setIfInBounds]; exact h2, fun j hj => ?_⟩, h.nc, h.cm, fun j hj => (h.mp j hj).heap (far _ ((h.mp j hj).ne h1)), fun j hj => ?_, h.mi, h.vi, h.bw, h.bg, h.bm⟩
  · obtain ⟨a, b, c⟩ := h3 j hj
    refine ⟨?_, ?_, ?_⟩
    · rw [Array.getElem?_setIfInBounds_ne (by omega)]; exact a
    · by_cases e : j = i
      · subst e; rw [Array.getElem?_setIfInBounds_self_of_lt hsz]; simp [upd_same]
      · rw [Array.getElem?_setIfInBounds_ne (by omega)]; simp only [upd_ne _ e]; exact b
    · rw [Array.getElem?_setIfInBounds_ne (by omega)]; exact c
  · exact own_apart' (h.en j hj) h1 (by decide)
/-- A row of ends has grown. -/
theorem AT.setEnds {w1 : World} (h : AT w base W0 many T) {i : Nat} (hi : i < T.S.length) {v1 : Value} {xs : List Nat} (ho : w1.ownsRow base 3 1 v1 xs.length (nIts xs)) (hg : w.grownBy w1 (T.V i).ownBlock)
    (hv : v1.ownBlock = (T.V i).ownBlock ∨ v1.ownBlock = some w.heap.size) : AT (w1.setCell ⟨T.gl, i * 3 + 2, none⟩ v1) base W0 many { T with V := upd T.V i v1, E := upd T.E i xs } := by
  obtain ⟨cs, h1, h2, h3⟩ := h.st
  have kept : ∀ k, k < w.heap.size → (T.V i).ownBlock ≠ some k → w1.heap[k]? = w.heap[k]? := fun k hk hne => hg.block k hk (fun e => hne e.symm)
  have far : ∀ k, k < w.heap.size → k ≠ T.gl → (T.V i).ownBlock ≠ some k → (w1.setCell ⟨T.gl, i * 3 + 2, none⟩ v1).heap[k]? = w.heap[k]? := fun k hk hk1 hne => (Below.heap_setCell w1 _ _ k hk1).trans (kept k hk hne)
  have hsz : i * 3 + 2 < cs.size := by have := h.nc; omega
  have hb1 : Bk w1 T.gl 47 cs := h1.heap (kept _ h1.lt (own_ne (h.en i hi) h1 (by decide)))
  refine ⟨h.wd.heap (far _ h.wd.lt (h.wd.ne h1 (by decide)) (own_ne (h.en i hi) h.wd (by decide))), ⟨_, hb1.set _ _, by rw [Array.size_setIfInBounds]; exact h2, fun j hj => ?_⟩, h.nc, h.cm,
    fun j hj => (h.mp j hj).heap (far _ (h.mp j hj).lt ((h.mp j hj).ne h1) (own_ne_map (h.en i hi) (h.mp j hj))), fun j hj => ?_, h.mi, fun j k hj hk hne b hb => ?_, h.bw, h.bg, h.bm⟩
  · obtain ⟨a, b, c⟩ := h3 j hj
    refine ⟨?_, ?_, ?_⟩
    · rw [Array.getElem?_setIfInBounds_ne (by omega)]; exact a
    · rw [Array.getElem?_setIfInBounds_ne (by omega)]; exact b
    · by_cases e : j = i
      · subst e; rw [Array.getElem?_setIfInBounds_self_of_lt hsz]; simp [upd_same]
      · rw [Array.getElem?_setIfInBounds_ne (by omega)]; simp only [upd_ne _ e]; exact c
  · by_cases e : j = i
    · subst e; simp only [upd_same]; exact own_apart' ho hb1 (by decide)
    · simp only [upd_ne _ e]
      refine own_apart' ((h.en j hj).kept hg ?_) hb1 (by decide)
      cases hb : (T.V j).ownBlock with
      | none => exact .inl rfl
      | some b => exact .inr (fun e2 => h.vi i j hi hj (fun e3 => e e3.symm) b e2.symm hb)
  · have farv : ∀ m, m < T.S.length → m ≠ i → ∀ b, v1.ownBlock = some b → (T.V m).ownBlock ≠ some b := by
      intro m hm hne b hb he
      rcases hv with e | e
      · rw [e] at hb; exact h.vi i m hi hm (fun e => hne e.symm) b hb he
      · rw [e] at hb; injection hb with hb; have := ((h.en m hm).lt b he).2; omega
    dsimp only at hb ⊢
    by_cases e : j = i
    · subst e
      rw [upd_same] at hb
      rw [upd_ne _ (fun e2 => hne e2.symm)]
      exact farv k hk (fun e2 => hne e2.symm) b hb
    · rw [upd_ne _ e] at hb
      by_cases e2 : k = i
      · subst e2
        rw [upd_same]
        intro e3
        exact farv j hj e b e3 hb
      · rw [upd_ne _ e2]
        exact h.vi j k hj hk hne b hb
/-- The row of states, for an append onto it. -/
theorem AT.own (h : AT w base W0 many T) : ∃ xs : List Value, w.ownsRow base 47 3 (.slice (some ⟨T.gl, 0, none⟩) T.S.length T.cl) T.S.length xs ∧ StC xs.toArray T.S.length T.M T.B T.V := by
  obtain ⟨cs, h1, h2, h3⟩ := h.st
  have hn := h.nc
  refine ⟨cs.toList.take (T.S.length * 3), ⟨by rw [List.length_take, Array.length_toList]; omega, .inr ⟨T.gl, T.cl, cs, rfl, h.bg, h1, hn, h.cm, h2, rfl⟩⟩, fun i hi => ?_⟩
  obtain ⟨a, b, c⟩ := h3 i hi
  refine ⟨?_, ?_, ?_⟩ <;> (rw [List.getElem?_toArray, List.getElem?_take, if_pos (by omega), Array.getElem?_toList]; assumption)
/-- A state more. -/
theorem AT.addState {w1 w3 : World} (h : AT w base W0 many T) (ht : Trie T.S) {m : Nat} (hm : MapF w m 0 (fun _ => none)) (hmb : base ≤ m) (hmn : ∀ i, i < T.S.length → T.M i ≠ m) {xs : List Value} (hx : StC xs.toArray T.S.length T.M T.B T.V) {g1 c1 : Nat}
    (ho : w1.ownsRow base 47 3 (.slice (some ⟨g1, 0, none⟩) (T.S.length + 1) c1) (T.S.length + 1) (xs ++ [.map (some m), .int .i64 0, .slice none 0 0])) (hxl : xs.length = T.S.length * 3)
    (hg : w.grownBy w1 (some T.gl)) (hv : g1 = T.gl ∨ g1 = w.heap.size) {j : Nat} {c : UInt8} (hj : j < T.S.length) (hn : ¬ str T.S j ++ [c] ∈ T.S)
    (hj3 : MapF w3 (T.M j) (T.S.length + 1) (fun d => if d = c then some T.S.length else nx T.S j d)) (hg3 : (w1.setCell ⟨W0, 0, none⟩ (.slice (some ⟨g1, 0, none⟩) (T.S.length + 1) c1)).grownBy w3 (some (T.M j))) :
    AT w3 base W0 many ⟨T.S ++ [str T.S j ++ [c]], g1, c1, upd T.M T.S.length m, upd T.B T.S.length 0, upd T.V T.S.length (.slice none 0 0), upd T.E T.S.length []⟩ := by
  obtain ⟨cs, h1, h2, h3⟩ := h.st
  have hl1 := h1.lt
  have kept1 : ∀ k, k < w.heap.size → k ≠ T.gl → w1.heap[k]? = w.heap[k]? := fun k hk hne => hg.block k hk (fun e => hne (by injection e))
  have hsz1 := hg.size
  obtain ⟨g', cap, cur, hvv, hbg, hcur, hnc, hcm, hcs, htk⟩ : ∃ g cap cur, (Value.slice (some ⟨g1, 0, none⟩) (T.S.length + 1) c1) = .slice (some ⟨g, 0, none⟩) (T.S.length + 1) cap ∧ base ≤ g ∧ w1.heap[g]? = some (.cells cur 47 (0, 0)) ∧ T.S.length + 1 ≤ cap ∧ cap ≤ maxLen ∧ cur.size = cap * 3 ∧ cur.toList.take ((T.S.length + 1) * 3) = xs ++ [.map (some m), .int .i64 0, .slice none 0 0] := by
    rcases ho.2 with ⟨h0, _⟩ | h0
    · cases h0
    · exact h0
  injection hvv with hv1 _ hv2
  injection hv1 with hv1
  injection hv1 with hv1
  subst hv1 hv2
  have hb1 : Bk w1 g1 47 cur := hcur
  have hmj := h.mp j hj
  have hwd1 : Bk w1 W0 50 #[.slice (some ⟨T.gl, 0, none⟩) T.S.length T.cl, .int .i64 many] := h.wd.heap (kept1 _ h.wd.lt (h.wd.ne h1 (by decide)))
  have hw0 : g1 ≠ W0 := hb1.ne hwd1 (by decide)
  have hwd2 := hwd1.set 0 (.slice (some ⟨g1, 0, none⟩) (T.S.length + 1) c1)
  simp only [List.setIfInBounds_toArray, List.set_cons_zero] at hwd2
  have far2 : ∀ k, k ≠ W0 → (w1.setCell ⟨W0, 0, none⟩ (.slice (some ⟨g1, 0, none⟩) (T.S.length + 1) c1)).heap[k]? = w1.heap[k]? := fun k hk => Below.heap_setCell w1 _ _ k hk
  have hz2 : (w1.setCell ⟨W0, 0, none⟩ (.slice (some ⟨g1, 0, none⟩) (T.S.length + 1) c1)).heap.size = w1.heap.size := by simp [World.setCell]
  have kept3 : ∀ k, k < w1.heap.size → k ≠ T.M j → w3.heap[k]? = (w1.setCell ⟨W0, 0, none⟩ (.slice (some ⟨g1, 0, none⟩) (T.S.length + 1) c1)).heap[k]? := fun k hk hne => hg3.block k (by rw [hz2]; exact hk) (fun e => hne (by injection e))
  have hmjlt := hmj.lt
  have hb3 : Bk w3 g1 47 cur := by
    refine hb1.heap ((kept3 _ hb1.lt ?_).trans (far2 _ hw0))
    intro e
    rcases hv with e1 | e1
    · exact hmj.ne h1 (e.symm.trans e1)
    · omega
  have all : ∀ k, k < w.heap.size → k ≠ T.gl → k ≠ W0 → k ≠ T.M j → w3.heap[k]? = w.heap[k]? := fun k hk a b d => (kept3 k (by omega) d).trans ((far2 k b).trans (kept1 k hk a))
  have cell : ∀ q, q < (T.S.length + 1) * 3 → cur[q]? = (xs ++ [.map (some m), .int .i64 0, .slice none 0 0])[q]? := by
    intro q hq
    rw [← htk, List.getElem?_take, if_pos hq, Array.getElem?_toList]
  have hlen : (T.S ++ [str T.S j ++ [c]]).length = T.S.length + 1 := by simp
  refine ⟨?_, ⟨cur, hb3, hcs, fun i hi => ?_⟩, ?_, hcm, fun i hi => ?_, fun i hi => ?_, fun i k hi hk e => ?_, fun i k hi hk hne b hb => ?_, h.bw, hbg, fun i hi => ?_⟩
  · dsimp only
    rw [hlen]
    exact hwd2.heap (kept3 _ hwd1.lt (fun e => hmj.ne h.wd e.symm))
  · dsimp only at hi ⊢
    rw [hlen] at hi
    by_cases e : i = T.S.length
    · subst e
      simp only [upd_same]
      refine ⟨?_, ?_, ?_⟩
      · rw [cell _ (by omega), List.getElem?_append_right (by omega), hxl, Nat.sub_self]; rfl
      · rw [cell _ (by omega), List.getElem?_append_right (by omega), hxl, show T.S.length * 3 + 1 - T.S.length * 3 = 1 by omega]; rfl
      · rw [cell _ (by omega), List.getElem?_append_right (by omega), hxl, show T.S.length * 3 + 2 - T.S.length * 3 = 2 by omega]; rfl
    · obtain ⟨a, b, d⟩ := hx i (by omega)
      rw [List.getElem?_toArray] at a b d
      simp only [upd_ne _ e]
      refine ⟨?_, ?_, ?_⟩ <;> (rw [cell _ (by omega), List.getElem?_append_left (by omega)]; assumption)
  · dsimp only; rw [hlen]; exact hnc
  · dsimp only at hi ⊢
    rw [hlen] at hi ⊢
    by_cases e : i = T.S.length
    · subst e
      simp only [upd_same]
      refine ((hm.mono (Nat.zero_le _)).congr (fun d => nx_new ht hn d)).heap (all m hm.lt (hm.ne h1) (hm.ne h.wd) (fun e => hmn j hj e.symm))
    · simp only [upd_ne _ e]
      by_cases e2 : i = j
      · subst e2
        refine hj3.congr fun d => ?_
        rw [nx_add ht hj hn hj d]
        by_cases e3 : d = c
        · rw [if_pos ⟨rfl, e3⟩, if_pos e3]
        · rw [if_neg (fun e => e3 e.2), if_neg e3]
      · have hmi := h.mp i (by omega)
        refine ((hmi.mono (Nat.le_succ _)).congr (fun d => ?_)).heap (all _ hmi.lt (hmi.ne h1) (hmi.ne h.wd) (fun e3 => e2 (h.mi i j (by omega) hj e3)))
        rw [nx_add ht hj hn (by omega) d, if_neg (fun e3 => e2 e3.1)]
  · dsimp only at hi ⊢
    rw [hlen] at hi
    by_cases e : i = T.S.length
    · subst e; simp only [upd_same]; exact World.ownsRow_nil _ _ _ _
    · simp only [upd_ne _ e]
      have hei := h.en i (by omega)
      rcases hei.2 with h0 | ⟨g, cap, cu, hvi, hgb, hh, r⟩
      · exact ⟨hei.1, .inl h0⟩
      · have hgi : (T.V i).ownBlock = some g := by rw [hvi]; rfl
        have n1 := own_ne hei h1 (by decide)
        have n2 := own_ne hei h.wd (by decide)
        have n3 := own_ne_map hei hmj
        rw [hgi] at n1 n2 n3
        refine ⟨hei.1, .inr ⟨g, cap, cu, hvi, hgb, ?_, r⟩⟩
        rw [all g (Array.getElem?_eq_some_iff.1 hh).1 (fun e => n1 (by rw [e])) (fun e => n2 (by rw [e])) (fun e => n3 (by rw [e]))]
        exact hh
  · dsimp only at hi hk e
    rw [hlen] at hi hk
    by_cases e1 : i = T.S.length
    · by_cases e2 : k = T.S.length
      · omega
      · subst e1; rw [upd_same, upd_ne _ e2] at e; exact absurd e.symm (hmn k (by omega))
    · by_cases e2 : k = T.S.length
      · subst e2; rw [upd_same, upd_ne _ e1] at e; exact absurd e (hmn i (by omega))
      · rw [upd_ne _ e1, upd_ne _ e2] at e; exact h.mi i k (by omega) (by omega) e
  · dsimp only at hi hk hb ⊢
    rw [hlen] at hi hk
    by_cases e1 : i = T.S.length
    · subst e1; rw [upd_same] at hb; cases hb
    · by_cases e2 : k = T.S.length
      · subst e2; rw [upd_same]; intro e3; cases e3
      · rw [upd_ne _ e1] at hb; rw [upd_ne _ e2]; exact h.vi i k (by omega) (by omega) hne b hb
  · dsimp only at hi ⊢
    rw [hlen] at hi
    by_cases e1 : i = T.S.length
    · subst e1; rw [upd_same]; exact hmb
    · rw [upd_ne _ e1]; exact h.bm i (by omega)
end
end Go.Proofs.Ythfpdiaobkccbaa
