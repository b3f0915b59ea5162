/- Files in memory: sectors, files, the map of files, a store. -/
import Derived.Test.YtknjopefbbldfaaGreatDoorVfsP
import Derived.Test.YtknjopefbbldfaaGreatDoorCh
import Derived.Test.YtknjopefbbldfaaGreatDoorCopy
import Derived.Deep.MidRow
import Derived.Maps.OwnSet
import Derived.Maps.RangeWalk
import Derived.Sort.KeysCollected
import Derived.StringKeys
namespace Go.Proofs.YtknjopefbbldfaaGreatDoor
open Go.RowKit
open Go.Maps (Keyed)

/-! ### cells stored side by side -/
def putA (cs : Array Value) : Nat → List Value → Array Value
  | _, [] => cs
  | o, v :: r => putA (cs.setIfInBounds o v) (o + 1) r
theorem putA_size : ∀ (vs : List Value) (cs : Array Value) (o : Nat), (putA cs o vs).size = cs.size
  | [], _, _ => rfl
  | v :: r, cs, o => by rw [putA, putA_size r]; simp
theorem putA_get : ∀ (vs : List Value) (cs : Array Value) (o i : Nat), (putA cs o vs)[i]? = if o ≤ i ∧ i < o + vs.length ∧ i < cs.size then vs[i - o]? else cs[i]?
  | [], cs, o, i => by rw [if_neg (by simp; omega)]; rfl
  | v :: r, cs, o, i => by
    rw [putA, putA_get r, Array.size_setIfInBounds]
    simp only [List.length_cons]
    by_cases h : i = o
    · subst h
      rw [if_neg (by omega)]
      by_cases h2 : i < cs.size
      · rw [if_pos (by omega)]; simp [h2]
      · rw [if_neg (by omega)]; simp [h2]
    · by_cases h3 : o + 1 ≤ i ∧ i < o + 1 + r.length ∧ i < cs.size
      · rw [if_pos h3, if_pos (by omega), show i - o = i - (o + 1) + 1 by omega, List.getElem?_cons_succ]
      · rw [if_neg h3, if_neg (by omega), Array.getElem?_setIfInBounds_ne (by omega)]
theorem putA_in {vs : List Value} {cs : Array Value} {o i : Nat} (h1 : o ≤ i) (h2 : i < o + vs.length) (h3 : o + vs.length ≤ cs.size) : (putA cs o vs)[i]? = vs[i - o]? := by rw [putA_get, if_pos (by omega)]
theorem putA_out {vs : List Value} {cs : Array Value} {o i : Nat} (h : i < o ∨ o + vs.length ≤ i) : (putA cs o vs)[i]? = cs[i]? := by rw [putA_get, if_neg (by omega)]
section
variable {W W' : World} {g : Nat} {t : TypeId} {cs : Array Value}
theorem Bk.cells : ∀ {W : World} {cs : Array Value} (_ : Bk W g t cs) (vs : List Value) (o : Nat), Bk (W.setCells g o vs) g t (putA cs o vs)
  | _, _, h, [], _ => h
  | _, _, h, v :: r, o => (h.set o v).cells r (o + 1)
/-- Blocks of cells of unlike types are not one. -/
theorem Bk.ne {g g' : Nat} {t t' : TypeId} {cs cs' : Array Value} (h : Bk W g t cs) (h' : Bk W g' t' cs') (hne : t ≠ t') : g ≠ g' := by
  rintro rfl
  unfold Bk at h h'
  rw [h] at h'
  injection h' with h'
  injection h' with _ ht
  exact hne ht
theorem Bk.isSome (h : Bk W g t cs) {i : Nat} (hi : i < cs.size) : (W.cell? ⟨g, i, none⟩).isSome = true := by rw [h.cell]; simp [hi]
theorem Bk.there (h : Bk W g t cs) {o n : Nat} (hn : o + n ≤ cs.size) : W.there g o n := fun j hj => ⟨h.isSome (by omega), h.free _⟩
theorem Bk.range (h : Bk W g t cs) {o : Nat} {vs : List Value} (hv : ∀ j, j < vs.length → cs[o + j]? = vs[j]?) : W.rangeAt g o vs := fun j v hj => by
  rw [h.cell, hv j (List.getElem?_eq_some_iff.1 hj).1, hj]
theorem heap_setCells (b : Nat) : ∀ (vs : List Value) (o : Nat) (W : World) (k : Nat), k ≠ b → (W.setCells b o vs).heap[k]? = W.heap[k]?
  | [], _, _, _, _ => rfl
  | v :: r, o, W, k, h => (heap_setCells b r (o + 1) _ k h).trans (Below.heap_setCell W _ v k h)
theorem size_setCells (b : Nat) : ∀ (vs : List Value) (o : Nat) (W : World), (W.setCells b o vs).heap.size = W.heap.size
  | [], _, _ => rfl
  | v :: r, o, W => (size_setCells b r (o + 1) _).trans (by simp [World.setCell])
theorem Ch.cells {S : Nat → Prop} {w : World} : ∀ {w1 : World} (_ : Ch S w w1) {b : Nat} (_ : S b ∨ w.heap.size ≤ b) (vs : List Value) (o : Nat), Ch S w (w1.setCells b o vs)
  | _, h, _, _, [], _ => h
  | _, h, _, hb, v :: r, o => (h.set (p := ⟨_, o, none⟩) hb v).cells hb r (o + 1)
end

/-! ### sectors -/
/-- So many sectors, each of 129 cells, in block g. -/
def SlQ (W : World) (sv : Value) (g L : Nat) (f : Nat → Nat → Value) : Prop :=
  ∃ A c, sv = .slice A L c ∧ L ≤ c ∧ c ≤ maxLen ∧ ((L = 0 ∧ c = 0) ∨ (0 < L ∧ A = some ⟨g, 0, none⟩ ∧ ∃ cs, Bk W g 81 cs ∧ c * 129 ≤ cs.size ∧ ∀ k, k < L → ∀ r, r < 129 → cs[k * 129 + r]? = some (f k r)))
def cellK (x : FlP) (k r : Nat) : Value :=
  if r < 64 then .int .u8 ((byP x.B (64 * k + r)).toNat : Int) else if r < 128 then .int .u8 ((byP x.O (64 * k + (r - 64))).toNat : Int) else .bool (x.W[k]?.getD false)
theorem SlQ.heap {W W' : World} {sv : Value} {g L : Nat} {f : Nat → Nat → Value} (h : SlQ W sv g L f) (hk : 0 < L → W'.heap[g]? = W.heap[g]?) : SlQ W' sv g L f := by
  obtain ⟨A, c, rfl, h1, h2, h3⟩ := h
  refine ⟨A, c, rfl, h1, h2, ?_⟩
  rcases h3 with h3 | ⟨h0, rfl, cs, hb, r⟩
  · exact .inl h3
  · exact .inr ⟨h0, rfl, cs, (hk h0).trans hb, r⟩
theorem SlQ.congr {W : World} {sv : Value} {g L L' : Nat} {f f' : Nat → Nat → Value} (h : SlQ W sv g L f) (hL : L = L') (hf : ∀ k, k < L → ∀ r, r < 129 → f k r = f' k r) : SlQ W sv g L' f' := by
  subst hL
  obtain ⟨A, c, rfl, h1, h2, h3⟩ := h
  refine ⟨A, c, rfl, h1, h2, ?_⟩
  rcases h3 with h3 | ⟨h0, rfl, cs, hb, h4, h5⟩
  · exact .inl h3
  · exact .inr ⟨h0, rfl, cs, hb, h4, fun k hk r hr => by rw [h5 k hk r hr, hf k hk r hr]⟩
theorem SlQ.nil (W : World) (g : Nat) (f : Nat → Nat → Value) : SlQ W (.slice none 0 0) g 0 f := ⟨none, 0, rfl, Nat.le_refl _, Nat.zero_le _, .inl ⟨rfl, rfl⟩⟩
theorem SlQ.pos {W : World} {sv : Value} {g L : Nat} {f : Nat → Nat → Value} (h : SlQ W sv g L f) (hL : 0 < L) : ∃ c cs, sv = .slice (some ⟨g, 0, none⟩) L c ∧ L ≤ c ∧ c ≤ maxLen ∧ Bk W g 81 cs ∧ c * 129 ≤ cs.size ∧ ∀ k, k < L → ∀ r, r < 129 → cs[k * 129 + r]? = some (f k r) := by
  obtain ⟨A, c, rfl, h1, h2, h3⟩ := h
  rcases h3 with ⟨h3, _⟩ | ⟨_, rfl, cs, hb, h4, h5⟩
  · omega
  · exact ⟨c, cs, rfl, h1, h2, hb, h4, h5⟩
theorem SlQ.lt {W : World} {sv : Value} {g L : Nat} {f : Nat → Nat → Value} (h : SlQ W sv g L f) (hL : 0 < L) : g < W.heap.size := by
  obtain ⟨c, cs, _, _, _, hb, _⟩ := h.pos hL
  exact hb.lt
theorem SlQ.form {W : World} {sv : Value} {g L : Nat} {f : Nat → Nat → Value} (h : SlQ W sv g L f) : ∃ A c, sv = .slice A L c ∧ L ≤ c ∧ c ≤ maxLen := by
  obtain ⟨A, c, h1, h2, h3, _⟩ := h
  exact ⟨A, c, h1, h2, h3⟩
theorem SlQ.lit {W : World} {sv : Value} {g L : Nat} {f : Nat → Nat → Value} (h : SlQ W sv g L f) (n : Nat) (o : Obj) : SlQ ((W.drewN n).alloc o) sv g L f := h.heap (fun h0 => Below.heap_alloc (W.drewN n) o g (h.lt h0))
theorem SlQ.ne {W : World} {sv : Value} {g L b : Nat} {t : TypeId} {cs : Array Value} {f : Nat → Nat → Value} (h : SlQ W sv g L f) (h0 : 0 < L) (hb : Bk W b t cs) (ht : 81 ≠ t) : g ≠ b := by
  obtain ⟨c, cs', _, _, _, hcs, _⟩ := h.pos h0
  exact Bk.ne hcs hb ht
/-- A file: its block, and its sectors. -/
structure FlM (W : World) (b g : Nat) (sv : Value) (x : FlP) : Prop where
  hd : Bk W b 73 #[sv, .int .i64 (x.B.length : Int), .int .i64 (x.stamp : Int)]
  sl : SlQ W sv g x.W.length (cellK x)
theorem FlM.heap {W W' : World} {b g : Nat} {sv : Value} {x : FlP} (h : FlM W b g sv x) (h1 : W'.heap[b]? = W.heap[b]?) (h2 : 0 < x.W.length → W'.heap[g]? = W.heap[g]?) : FlM W' b g sv x :=
  ⟨h1.trans h.hd, h.sl.heap h2⟩
theorem FlM.ne {W : World} {b g : Nat} {sv : Value} {x : FlP} (h : FlM W b g sv x) (h0 : 0 < x.W.length) : g ≠ b := by
  obtain ⟨c, cs, _, _, _, hcs, _⟩ := h.sl.pos h0
  exact Bk.ne hcs h.hd (by decide)

/-! ### the map of files -/
theorem lawS : Keyed Tryz.prog 9 := Maps.string_keyed Tryz.underlying9
/-- How a pointer to a file reads: by its block. -/
def fileR (v : Value) : Option (DataW Unit × List MemPlace) :=
  match v with
  | .pointer none => some (.lit (.int .i64 (-1)), [])
  | .pointer (some ⟨b, 0, none⟩) => some (.lit (.int .i64 (b : Int)), [])
  | _ => none
theorem fileR_some (b : Nat) : fileR (.pointer (some ⟨b, 0, none⟩)) = some (.lit (.int .i64 (b : Int)), []) := rfl
theorem fileR_inv {v : Value} {d : DataW Unit} {ps : List MemPlace} (h : fileR v = some (d, ps)) : (v = .pointer none ∧ d = .lit (.int .i64 (-1))) ∨ ∃ b : Nat, v = .pointer (some ⟨b, 0, none⟩) ∧ d = .lit (.int .i64 (b : Int)) := by
  unfold fileR at h
  split at h
  · left; simp at h; exact ⟨rfl, h.1.symm⟩
  · right; simp at h; exact ⟨_, rfl, h.1.symm⟩
  · cases h
theorem fileR_at {v : Value} {b : Nat} {ps : List MemPlace} (h : fileR v = some (.lit (.int .i64 (b : Int)), ps)) : v = .pointer (some ⟨b, 0, none⟩) := by
  rcases fileR_inv h with ⟨rfl, e⟩ | ⟨c, rfl, e⟩
  · injection e with e; injection e with _ e; omega
  · injection e with e; injection e with _ e
    rw [show b = c by omega]
theorem fileR_nil {v : Value} {ps : List MemPlace} (h : fileR v = some (.lit (.int .i64 (-1)), ps)) : v = .pointer none := by
  rcases fileR_inv h with ⟨rfl, e⟩ | ⟨c, rfl, e⟩
  · rfl
  · injection e with e; injection e with _ e; omega
def MapS (W : World) (m n : Nat) (f : List UInt8 → Option Nat) : Prop :=
  ∃ D : DataW Unit, W.ownsMap Tryz.prog 9 fileR m n D ∧ (∀ s, Maps.has D (.string s) = (f s).isSome) ∧ ∀ s v, f s = some v → ∀ z, D.atKey (.string s) z = .lit (.int .i64 (v : Int))
theorem zeroF (w : World) : (zeroValue 67).run Tryz.prog w = .ok (.pointer none) w := by kernel_rfl
theorem wfS {s : ByteArray} (h : s.size ≤ maxLen) : keyOf Tryz.prog 9 (.string s) = some (.string s.data.toList) := Go.WideMaps.keyOf_string_mk Tryz.underlying9 h
section
variable {w w' : World} {m n : Nat} {f g : List UInt8 → Option Nat}
theorem MapS.new (w : World) : MapS (w.alloc (.map #[] 0)) w.heap.size 0 (fun _ => none) := ⟨.map [], World.ownsMap_made _ _ _ _, fun _ => rfl, fun s v h => by cases h⟩
theorem MapS.mono (h : MapS w m n f) {n' : Nat} (hn : n ≤ n') : MapS w m n' f := by obtain ⟨D, h1, h2⟩ := h; exact ⟨D, h1.mono hn, h2⟩
theorem MapS.lt (h : MapS w m n f) : m < w.heap.size := by obtain ⟨D, h1, _⟩ := h; exact h1.lt
theorem MapS.heap (h : MapS w m n f) (hw : w'.heap[m]? = w.heap[m]?) : MapS w' m n f := by
  obtain ⟨D, ⟨es, cl, hb, r⟩, h2⟩ := h; exact ⟨D, ⟨es, cl, hw.trans hb, r⟩, h2⟩
theorem MapS.congr (h : MapS w m n f) (e : ∀ s, g s = f s) : MapS w m n g := by
  have : g = f := funext e
  rw [this]; exact h
theorem MapS.ne {b : Nat} {cs : Array Value} {t : TypeId} (h : MapS w m n f) (hg : Bk w b t cs) : m ≠ b := by
  obtain ⟨D, ⟨es, cl, hb, _⟩, _⟩ := h
  rintro rfl
  unfold Bk at hg
  rw [hb] at hg; cases hg
/-- m[s] -/
theorem MapS.look (h : MapS w m n f) {s : ByteArray} (hs : s.size ≤ maxLen) :
    (Instr.lookup 43 (.map (some m)) (.string s) false).run Tryz.prog w = .ok (.pointer ((f s.data.toList).map fun b => ⟨b, 0, none⟩)) w := by
  obtain ⟨D, h1, h2, h3⟩ := h
  obtain ⟨v, ps, hrun, hv⟩ := h1.lookup lawS Tryz.underlying43 (zeroF w) (zd := .lit (.int .i64 (-1))) (zp := []) rfl (wfS hs)
  rw [hrun]
  cases hf : f s.data.toList with
  | none =>
    have h4 := h2 s.data.toList
    rw [hf] at h4
    rw [Maps.atKey_of_not_has h4] at hv
    rw [fileR_nil hv]; rfl
  | some b =>
    rw [h3 _ _ hf] at hv
    rw [fileR_at hv]; rfl
/-- m[s] = x -/
theorem MapS.put (h : MapS w m n f) {s : ByteArray} (hs : s.size ≤ maxLen) (hn : n ≤ 1000000) (b : Nat) :
    ∃ w', (Instr.mapUpdate 43 (.map (some m)) (.string s) (.pointer (some ⟨b, 0, none⟩))).run Tryz.prog w = .ok () w' ∧ MapS w' m (n + 1) (fun x => if x = s.data.toList then some b else f x) ∧ w.grownBy w' (some m) := by
  obtain ⟨D, h1, h2, h3⟩ := h
  obtain ⟨w', hrun, h4, h5⟩ := h1.update lawS Tryz.underlying43 (Nat.lt_of_le_of_lt hn (by unfold maxLen; decide)) (wfS hs) (fileR_some b)
  have hlit := lawS.key (wfS hs)
  have hM : Maps.IsMap D := h1.isMap
  have hne : ∀ x : List UInt8, x ≠ s.data.toList → (Lit.string x) ≠ .string s.data.toList := fun x hx e => hx (by injection e)
  refine ⟨w', hrun, ⟨_, h4, fun x => ?_, fun x v hv z => ?_⟩, h5⟩
  · dsimp only
    by_cases hx : x = s.data.toList
    · rw [if_pos hx, hx]; exact Maps.has_put_same hM hlit _
    · rw [if_neg hx, Maps.has_put_other (hne x hx)]; exact h2 x
  · dsimp only at hv
    by_cases hx : x = s.data.toList
    · rw [if_pos hx] at hv; rw [← Option.some.inj hv, hx]; exact Maps.atKey_put_same hM hlit _ _
    · rw [if_neg hx] at hv; rw [Maps.atKey_put_other (hne x hx)]; exact h3 x v hv z
/-- delete(m, s) -/
theorem MapS.del (h : MapS w m n f) {s : ByteArray} (hs : s.size ≤ maxLen) (ty : TypeId) :
    ∃ w', (Builtin.delete_ #[43, 9] ty #[.map (some m), .string s]).run Tryz.prog w = .ok (.tuple #[]) w' ∧ MapS w' m n (fun x => if x = s.data.toList then none else f x) ∧ w.grownBy w' (some m) := by
  obtain ⟨D, h1, h2, h3⟩ := h
  obtain ⟨w', hrun, h4, h5⟩ := h1.drop lawS Tryz.underlying43 (wfS hs) ty
  have hne : ∀ x : List UInt8, x ≠ s.data.toList → (Lit.string x) ≠ .string s.data.toList := fun x hx e => hx (by injection e)
  refine ⟨w', hrun, ⟨_, h4, fun x => ?_, fun x v hv z => ?_⟩, h5.grown⟩
  · dsimp only
    by_cases hx : x = s.data.toList
    · rw [if_pos hx, hx]; exact Maps.has_del_same
    · rw [if_neg hx, Maps.has_del_other (hne x hx)]; exact h2 x
  · dsimp only at hv
    by_cases hx : x = s.data.toList
    · rw [if_pos hx] at hv; cases hv
    · rw [if_neg hx] at hv; rw [Maps.atKey_del_other (hne x hx)]; exact h3 x v hv z
end

/-! ### the store -/
structure FsM (W : World) (f m : Nat) (bl gl : List UInt8 → Nat) (sv : List UInt8 → Value) (S : FsP) : Prop where
  hd : Bk W f 45 #[.int .i64 (S.most : Int), .int .i64 (S.stamp : Int), .int .i64 S.fuse, .bool S.down, .map (some m)]
  mp : MapS W m S.stamp (fun n => (findP S n).map fun _ => bl n)
  fl : ∀ n x, findP S n = some x → FlM W (bl n) (gl n) (sv n) x
  bi : ∀ n x n' x', findP S n = some x → findP S n' = some x' → bl n = bl n' → n = n'
  si : ∀ n x n' x', findP S n = some x → findP S n' = some x' → 0 < x.W.length → 0 < x'.W.length → gl n = gl n' → n = n'
  wf : S.WF
/-- The blocks of a store. -/
def FsO (f m : Nat) (bl gl : List UInt8 → Nat) (S : FsP) (i : Nat) : Prop :=
  i = f ∨ i = m ∨ ∃ n x, findP S n = some x ∧ (i = bl n ∨ (0 < x.W.length ∧ i = gl n))
/-- A store, its blocks among those of O. -/
def FsA (W : World) (O : Nat → Prop) (f : Nat) (S : FsP) : Prop := ∃ m bl gl sv, FsM W f m bl gl sv S ∧ ∀ i, FsO f m bl gl S i → O i
section
variable {W W' : World} {f m : Nat} {bl gl : List UInt8 → Nat} {sv : List UInt8 → Value} {S : FsP} {O O' : Nat → Prop}
theorem FsM.lt (h : FsM W f m bl gl sv S) : ∀ i, FsO f m bl gl S i → i < W.heap.size := by
  rintro i (rfl | rfl | ⟨n, x, hx, rfl | ⟨hL, rfl⟩⟩)
  · exact h.hd.lt
  · exact h.mp.lt
  · exact (h.fl n x hx).hd.lt
  · exact (h.fl n x hx).sl.lt hL
theorem FsM.heap (h : FsM W f m bl gl sv S) (hk : ∀ i, FsO f m bl gl S i → W'.heap[i]? = W.heap[i]?) : FsM W' f m bl gl sv S :=
  ⟨(hk f (.inl rfl)).trans h.hd, h.mp.heap (hk m (.inr (.inl rfl))), fun n x hx => (h.fl n x hx).heap (hk _ (.inr (.inr ⟨n, x, hx, .inl rfl⟩))) (fun h0 => hk _ (.inr (.inr ⟨n, x, hx, .inr ⟨h0, rfl⟩⟩))), h.bi, h.si, h.wf⟩
theorem FsA.mono (h : FsA W O f S) (hs : ∀ i, O i → i < W.heap.size → O' i) : FsA W O' f S := by
  obtain ⟨m, bl, gl, sv, h1, h2⟩ := h
  exact ⟨m, bl, gl, sv, h1, fun i hi => hs i (h2 i hi) (h1.lt i hi)⟩
/-- Nothing of its own blocks has turned. -/
theorem FsA.heap (h : FsA W O f S) (hk : ∀ i, O i → i < W.heap.size → W'.heap[i]? = W.heap[i]?) : FsA W' O f S := by
  obtain ⟨m, bl, gl, sv, h1, h2⟩ := h
  exact ⟨m, bl, gl, sv, h1.heap (fun i hi => hk i (h2 i hi) (h1.lt i hi)), h2⟩
theorem FsA.below (h : FsA W O f S) (hb : Below W.heap.size W W') : FsA W' O f S := h.heap fun i _ hi => hb.block i hi
theorem FsA.ch {T : Nat → Prop} (h : FsA W O f S) (hc : Ch T W W') (hd : ∀ i, O i → ¬ T i) : FsA W' O f S := h.heap fun i ho hi => hc.block i hi (hd i ho)
theorem FsA.wf (h : FsA W O f S) : S.WF := by obtain ⟨m, bl, gl, sv, h1, _⟩ := h; exact h1.wf
end
end Go.Proofs.YtknjopefbbldfaaGreatDoor
