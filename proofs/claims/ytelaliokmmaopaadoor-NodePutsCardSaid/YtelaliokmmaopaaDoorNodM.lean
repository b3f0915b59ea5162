/- Cells in memory, as they are made. -/
import Derived.Test.YtelaliokmmaopaaDoorNodL
namespace Go.Proofs.YtelaliokmmaopaaDoor
open Go.RowKit

theorem stepC_n1 {L : List UInt8} {lf : Bool} {p : Nat} (h : L.length < p + 1) : stepC L lf p = none := by unfold stepC; rw [if_neg (by omega)]
theorem stepC_n2 {L : List UInt8} {lf : Bool} {p x : Nat} (h1 : p + 1 ≤ L.length) (hx : nAt L p 1 = x) (h : L.length < p + 1 + x) : stepC L lf p = none := by
  unfold stepC; rw [if_pos h1, hx, Int.toNat_natCast, if_neg (by omega)]
theorem stepC_n3 {L : List UInt8} {p x : Nat} (h1 : p + 1 ≤ L.length) (hx : nAt L p 1 = x) (h2 : p + 1 + x ≤ L.length) (h : valC L (p + 1 + x) = none) : stepC L true p = none := by
  unfold stepC; rw [if_pos h1, hx, Int.toNat_natCast, if_pos h2, if_pos rfl, h]
theorem stepC_n4 {L : List UInt8} {p x : Nat} (h1 : p + 1 ≤ L.length) (hx : nAt L p 1 = x) (h2 : p + 1 + x ≤ L.length) (h : L.length < p + 1 + x + 3) : stepC L false p = none := by
  unfold stepC; rw [if_pos h1, hx, Int.toNat_natCast, if_pos h2, if_neg (by simp), if_neg (by omega)]
theorem stepC_s1 {L : List UInt8} {p x q : Nat} {v : List UInt8} {o l : Int} (h1 : p + 1 ≤ L.length) (hx : nAt L p 1 = x) (h2 : p + 1 + x ≤ L.length) (h : valC L (p + 1 + x) = some (v, o, l, q)) : stepC L true p = some (⟨(L.drop (p + 1)).take x, v, o, l⟩, [], q) := by
  unfold stepC; rw [if_pos h1, hx, Int.toNat_natCast, if_pos h2, if_pos rfl, h]
theorem stepC_s2 {L : List UInt8} {p x : Nat} (h1 : p + 1 ≤ L.length) (hx : nAt L p 1 = x) (h2 : p + 1 + x ≤ L.length) (h : p + 1 + x + 3 ≤ L.length) : stepC L false p = some (⟨(L.drop (p + 1)).take x, [], 0, 0⟩, [nAt L (p + 1 + x) 3], p + 1 + x + 3) := by
  unfold stepC; rw [if_pos h1, hx, Int.toNat_natCast, if_pos h2, if_neg (by simp), if_pos h]
theorem infoC : (Tryd.prog.info? 42).map (fun i => (i.zero, i.size, i.bytes)) = some (some (.agg #[.slice none 0 0, .slice none 0 0, .int .i64 0, .int .i64 0]), 4, 64) := by kernel_rfl
/-- The blocks below B, and those of type t, are as they were. -/
structure K8 (B : Nat) (t : TypeId) (W W' : World) : Prop where
  size : W.heap.size ≤ W'.heap.size
  blk : ∀ i, i < W.heap.size → (i < B ∨ ∃ cs, Bk W i t cs) → W'.heap[i]? = W.heap[i]?
section
variable {B : Nat} {t : TypeId} {W W' W'' : World}
theorem K8.refl : K8 B t W W := ⟨Nat.le_refl _, fun _ _ _ => rfl⟩
theorem K8.trans (h : K8 B t W W') (k : K8 B t W' W'') : K8 B t W W'' :=
  ⟨Nat.le_trans h.size k.size, fun i hi hc => (k.blk i (Nat.lt_of_lt_of_le hi h.size) (hc.imp id (fun ⟨cs, h2⟩ => ⟨cs, (h.blk i hi (.inr ⟨cs, h2⟩)).trans h2⟩))).trans (h.blk i hi hc)⟩
theorem K8.alloc (h : K8 B t W W') (o : Obj) : K8 B t W (W'.alloc o) :=
  ⟨by have := h.size; simp; omega, fun i hi hc => (Below.heap_alloc W' o i (Nat.lt_of_lt_of_le hi h.size)).trans (h.blk i hi hc)⟩
theorem K8.drew (h : K8 B t W W') : K8 B t W W'.drew := ⟨h.size, h.blk⟩
theorem K8.of_ch {S : Nat → Prop} (h : Ch S W W') (hs : ∀ i, S i → B ≤ i ∧ ∀ cs, ¬ Bk W i t cs) : K8 B t W W' :=
  ⟨h.size, fun i hi hc => h.block i hi (fun e => by
    obtain ⟨h1, h2⟩ := hs i e
    rcases hc with h3 | ⟨cs, h3⟩
    · omega
    · exact h2 cs h3)⟩
theorem K8.set (h : K8 B t W W') {p : Addr} (hp : B ≤ p.block) {T : TypeId} {cs : Array Value} (hb : Bk W p.block T cs) (hne : T ≠ t) (u : Value) : K8 B t W (W'.setCell p u) :=
  ⟨by have := h.size; simp; omega, fun i hi hc => by
    have hn : i ≠ p.block := by
      rintro rfl
      rcases hc with h3 | ⟨cs', h3⟩
      · omega
      · exact Bk.ne hb h3 hne rfl
    exact (Below.heap_setCell W' p u i hn).trans (h.blk i hi hc)⟩
theorem K8.below {C : Nat} (h : Below C W W') (hC : W.heap.size ≤ C) : K8 B t W W' := ⟨h.size, fun i hi _ => h.block i (by omega)⟩
theorem K8.grown {base s n : Nat} {e : TypeId} {v : Value} {xs : List Value} (hg : W.grownBy W' v.ownBlock) (ho : W.ownsRow base e s v n xs) (hne : e ≠ t) (hB : B ≤ base) : K8 B t W W' :=
  ⟨hg.size, fun i hi hc => hg.block i hi (fun he => by
    rcases hc with h3 | ⟨cs, h3⟩
    · have := (ho.lt i he.symm).1; omega
    · exact own_ne ho h3 hne he.symm)⟩
theorem own_k8 {base s n : Nat} {v : Value} {xs : List Value} (h : W.ownsRow base t s v n xs) (k : K8 B t W W') : W'.ownsRow base t s v n xs := by
  refine ⟨h.1, ?_⟩
  rcases h.2 with hn | ⟨g, cap, cur, rfl, hb, hgg, rest⟩
  · exact .inl hn
  · exact .inr ⟨g, cap, cur, rfl, hb, (k.blk g (Array.getElem?_eq_some_iff.1 hgg).1 (.inr ⟨cur, hgg⟩)).trans hgg, rest⟩
end
/-- Bytes of a cell: of the call's own, or as they were handed over. -/
def KeyR (W : World) (base B : Nat) (u : Value) (l : List UInt8) : Prop := W.ownsRow base 5 1 u l.length (bys l) ∨ RdB W B u l
theorem KeyR.k8 {W W' : World} {base B : Nat} {u : Value} {l : List UInt8} (h : KeyR W base B u l) (k : K8 B 5 W W') (hB : B ≤ W.heap.size) : KeyR W' base B u l := by
  rcases h with h | h
  · exact .inl (own_k8 h k)
  · exact .inr (h.keep fun p hp => World.cell?_of_block (k.blk p.block (by omega) (.inl hp)))
theorem KeyR.rd {W : World} {base B : Nat} {u : Value} {l : List UInt8} (h : KeyR W base B u l) (hB : B ≤ W.heap.size) : RdB W W.heap.size u l := by
  rcases h with h | h
  · obtain ⟨A, c, rfl, hc, _⟩ := own_form h
    exact ⟨A, l.length, c, rfl, Rd.of_own h, hc⟩
  · exact h.more hB
theorem KeyR.form {W : World} {base B : Nat} {u : Value} {l : List UInt8} (h : KeyR W base B u l) : ∃ A c, u = .slice A l.length c := by
  rcases h with h | ⟨A, n, c, rfl, h, _⟩
  · obtain ⟨A, c, rfl, _, _⟩ := own_form h; exact ⟨A, c, rfl⟩
  · exact ⟨A, c, by rw [h.blen]⟩
/-- The cells' own values, one after another. -/
def flC : List (Value × Value) → List CellP → List Value
  | u :: vs, c :: cs => u.1 :: u.2 :: .int .i64 c.over :: .int .i64 c.long :: flC vs cs
  | _, _ => []
theorem flC_len : ∀ (vs : List (Value × Value)) (cs : List CellP), vs.length = cs.length → (flC vs cs).length = cs.length * 4
  | [], [], _ => rfl
  | [], _ :: _, h => by simp at h
  | _ :: _, [], h => by simp at h
  | _ :: vs, _ :: cs, h => by
    have := flC_len vs cs (by simpa using h)
    simp only [flC, List.length_cons, this]
    omega
theorem flC_app : ∀ (vs : List (Value × Value)) (cs : List CellP) (u : Value × Value) (c : CellP), vs.length = cs.length → flC (vs ++ [u]) (cs ++ [c]) = flC vs cs ++ [u.1, u.2, .int .i64 c.over, .int .i64 c.long]
  | [], [], _, _, _ => rfl
  | [], _ :: _, _, _, h => by simp at h
  | _ :: _, [], _, _, h => by simp at h
  | _ :: vs, _ :: cs, u, c, h => by
    simp only [List.cons_append, flC, flC_app vs cs u c (by simpa using h)]
theorem flC_at : ∀ (vs : List (Value × Value)) (cs : List CellP) (i : Nat) (u : Value × Value) (c : CellP), vs[i]? = some u → cs[i]? = some c →
    (flC vs cs)[i * 4]? = some u.1 ∧ (flC vs cs)[i * 4 + 1]? = some u.2 ∧ (flC vs cs)[i * 4 + 2]? = some (.int .i64 c.over) ∧ (flC vs cs)[i * 4 + 3]? = some (.int .i64 c.long)
  | [], _, i, _, _, h, _ => by simp at h
  | _ :: _, [], i, _, _, _, h => by simp at h
  | a :: vs, d :: cs, 0, u, c, h, k => by
    simp only [List.getElem?_cons_zero, Option.some.injEq] at h k
    subst h k
    exact ⟨rfl, rfl, rfl, rfl⟩
  | a :: vs, d :: cs, i + 1, u, c, h, k => by
    have := flC_at vs cs i u c (by simpa using h) (by simpa using k)
    rw [show (i + 1) * 4 = i * 4 + 4 by omega]
    simpa [flC] using this
/-- A row of cells of the call's own. -/
def OwC (W : World) (base B : Nat) (v : Value) (cs : List CellP) : Prop :=
  ∃ vs : List (Value × Value), vs.length = cs.length ∧ W.ownsRow base 42 4 v cs.length (flC vs cs) ∧ ∀ (i : Nat) (u : Value × Value) (c : CellP), vs[i]? = some u → cs[i]? = some c → KeyR W base B u.1 c.key ∧ KeyR W base B u.2 c.val
theorem OwC.nil (W : World) (base B : Nat) : OwC W base B (.slice none 0 0) [] := ⟨[], rfl, World.ownsRow_nil _ _ _ _, fun i u c h => by cases h⟩
theorem OwC.k8 {W W' : World} {base B : Nat} {v : Value} {cs : List CellP} (h : OwC W base B v cs) (k1 : K8 B 5 W W') (k2 : K8 B 42 W W') (hB : B ≤ W.heap.size) : OwC W' base B v cs := by
  obtain ⟨vs, h1, h2, h3⟩ := h
  exact ⟨vs, h1, own_k8 h2 k2, fun i u c hu hc => ⟨(h3 i u c hu hc).1.k8 k1 hB, (h3 i u c hu hc).2.k8 k1 hB⟩⟩
theorem OwC.own {W : World} {base B : Nat} {v : Value} {cs : List CellP} (h : OwC W base B v cs) : ∃ xs, W.ownsRow base 42 4 v cs.length xs := by
  obtain ⟨vs, _, h2, _⟩ := h; exact ⟨_, h2⟩
theorem OwC.form {W : World} {base B : Nat} {v : Value} {cs : List CellP} (h : OwC W base B v cs) : ∃ A c, v = .slice A cs.length c ∧ cs.length ≤ c ∧ c ≤ maxLen := by
  obtain ⟨xs, h2⟩ := h.own; exact own_form h2
theorem OwC.rdcs {W : World} {base B n c : Nat} {A : Option Addr} {cs : List CellP} (h : OwC W base B (.slice A n c) cs) (hB : B ≤ W.heap.size) : RdCs W W.heap.size A n cs := by
  obtain ⟨vs, h1, h2, h3⟩ := h
  obtain ⟨A', c', he, _, _⟩ := own_form h2
  injection he with e1 e2 e3
  subst e1 e2 e3
  refine ⟨rfl, fun hn => ?_⟩
  obtain ⟨b, o, rfl, hb, hc⟩ := (Rd.of_own h2).2 hn
  refine ⟨b, o, rfl, hb, fun i c hi => ?_⟩
  have hl : i < vs.length := by rw [h1]; exact (List.getElem?_eq_some_iff.1 hi).1
  have hu : vs[i]? = some vs[i] := List.getElem?_eq_getElem hl
  obtain ⟨f0, f1, f2, f3⟩ := flC_at vs cs i _ c hu hi
  obtain ⟨k1, k2⟩ := h3 i _ c hu hi
  exact ⟨vs[i].1, vs[i].2, hc _ _ f0, k1.rd hB, by have := hc _ _ f1; rwa [← Nat.add_assoc] at this, k2.rd hB, by have := hc _ _ f2; rwa [← Nat.add_assoc] at this, by have := hc _ _ f3; rwa [← Nat.add_assoc] at this⟩
/-- append of a cell. -/
theorem ap_cells {w w0 : World} {ops : Array Oper} {rest : List Oper} {a : Act} {Q : Exit → Act → World → Prop} {d : Option Tmp} {ty : TypeId} {pos : String} {af : Array Edge} {g : Option (Nat × Bool)} {s x : Operand} {base B : Nat}
    {v u1 u2 : Value} {cs : List CellP} {cl : CellP} (hc : OwC w base B v cs) (hB : B ≤ base) (hu1 : KeyR w base B u1 cl.key) (hu2 : KeyR w base B u2 cl.val)
    {B' : Nat} {A : Option Addr} {c : Nat} (hr : Rd w B' 4 A 1 [u1, u2, .int .i64 cl.over, .int .i64 cl.long])
    (hb : Below base w0 w) (hbase : base ≤ w.heap.size) (hbytes : cs.length ≤ 1000000)
    (hs : a.eval s = v) (hx : a.eval x = .slice A 1 c)
    (hw : Region.wanted { dst := d, op := .call { callee := .builtin .append, args := #[s, x], argTypes := #[24, 24] }, type := ty, pos := pos, after := af, guard := g } (yielded ops a.tmps) = true)
    (h : ∀ v' w', OwC w' base B v' (cs ++ [cl]) → Below base w0 w' → w.grownBy w' v.ownBlock → wpList Tryd.prog ops Q rest (a.put d v') w') :
    wpList Tryd.prog ops Q ({ dst := d, op := .call { callee := .builtin .append, args := #[s, x], argTypes := #[24, 24] }, type := ty, pos := pos, after := af, guard := g } :: rest) a w := by
  obtain ⟨i0, hi, hz0, hz1, hz2⟩ := info_parts infoC
  obtain ⟨vs, h1, h2, h3⟩ := hc
  obtain ⟨A1, c1, rfl⟩ := hu1.form
  obtain ⟨A2, c2, rfl⟩ := hu2.form
  refine ap_any Tryd.underlying24 hi hz0 hz1 hz2 rfl (by decide) h2 hr (fun u hu => ?_) hb hbase (by omega) hs hx hw (fun v' w' g1 g2 g3 _ => h v' w' ?_ g2 g3)
  · simp only [List.mem_cons, List.not_mem_nil, or_false] at hu
    rcases hu with rfl | rfl | rfl | rfl <;> rfl
  · have k1 : K8 B 5 w w' := K8.grown g3 h2 (by decide) hB
    refine ⟨vs ++ [(.slice A1 cl.key.length c1, .slice A2 cl.val.length c2)], by simp [h1], ?_, fun i u c hu hc => ?_⟩
    · rw [flC_app _ _ _ _ h1, List.length_append]
      exact g1
    · rcases Nat.lt_or_ge i vs.length with hl | hl
      · rw [List.getElem?_append_left hl] at hu
        rw [List.getElem?_append_left (by omega)] at hc
        obtain ⟨k2, k3⟩ := h3 i u c hu hc
        exact ⟨k2.k8 k1 (by omega), k3.k8 k1 (by omega)⟩
      · rw [List.getElem?_append_right hl] at hu
        rw [List.getElem?_append_right (by omega), ← h1] at hc
        have h0 : i - vs.length = 0 := by
          apply Classical.byContradiction
          intro hne
          rw [List.getElem?_eq_none (by simp; omega)] at hu
          cases hu
        rw [h0] at hu hc
        simp only [List.getElem?_cons_zero, Option.some.injEq] at hu hc
        subst hu hc
        exact ⟨hu1.k8 k1 (by omega), hu2.k8 k1 (by omega)⟩
/-- The cell that is appended. -/
theorem Rd.cell (w : World) (t : TypeId) (u1 u2 u3 u4 : Value) : Rd (w.alloc (.cells #[u1, u2, u3, u4] t)) (w.heap.size + 1) 4 (some ⟨w.heap.size, 0, none⟩) 1 [u1, u2, u3, u4] := by
  refine ⟨rfl, fun _ => ⟨_, _, rfl, by omega, fun j v hj => ?_⟩⟩
  have h1 : (w.alloc (.cells #[u1, u2, u3, u4] t)).cell? ⟨w.heap.size, j, none⟩ = #[u1, u2, u3, u4][j]? := World.cell?_alloc_mark w _ t (0, 0) j
  rw [Nat.zero_add, h1, ← hj]
  simp
end Go.Proofs.YtelaliokmmaopaaDoor
