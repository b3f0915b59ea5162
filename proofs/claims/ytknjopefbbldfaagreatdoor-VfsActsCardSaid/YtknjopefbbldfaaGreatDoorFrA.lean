/- Acts on a store in a row, as a parameter. -/
import Derived.Test.YtknjopefbbldfaaGreatDoorFrame
namespace Go.Proofs.YtknjopefbbldfaaGreatDoor
open Go.RowKit Go.ChangeShapes Go.WideShapes Go.ChangeAt

/-- A slice of bytes, with its room's bound. -/
def RdM (w : World) (Bd : Nat) (v : Value) (l : List UInt8) : Prop := ∃ A n c, v = .slice A n c ∧ Rd w Bd 1 A n (bys l) ∧ n ≤ c ∧ c ≤ maxLen
theorem RdM.keep {w w' : World} {Bd : Nat} {v : Value} {l : List UInt8} (h : RdM w Bd v l) (hk : ∀ p : Addr, p.block < Bd → w'.cell? p = w.cell? p) : RdM w' Bd v l := by
  obtain ⟨A, n, c, h1, h2, h3⟩ := h
  exact ⟨A, n, c, h1, h2.keep hk, h3⟩
/-- An act on a store. -/
structure ActV where
  kind : Int
  n : Int
  name : ByteArray
  to : ByteArray
  B : List UInt8
  keep : UInt64
structure RdAct (w : World) (Bd b o : Nat) (q : ActV) : Prop where
  c0 : w.cell? ⟨b, o, none⟩ = some (.int .i64 q.kind)
  c1 : w.cell? ⟨b, o + 1, none⟩ = some (.int .i64 q.n)
  c2 : w.cell? ⟨b, o + 2, none⟩ = some (.string q.name)
  c3 : w.cell? ⟨b, o + 3, none⟩ = some (.string q.to)
  c4 : ∃ v, w.cell? ⟨b, o + 4, none⟩ = some v ∧ RdM w Bd v q.B
  c5 : w.cell? ⟨b, o + 5, none⟩ = some (.int .u64 (q.keep.toNat : Int))
  i1 : -9223372036854775808 ≤ q.n ∧ q.n ≤ 9223372036854775807
  s2 : q.name.size ≤ maxLen
  s3 : q.to.size ≤ maxLen
theorem RdAct.keep_ {w w' : World} {Bd b o : Nat} {q : ActV} (h : RdAct w Bd b o q) (hb : b < Bd) (hk : ∀ p : Addr, p.block < Bd → w'.cell? p = w.cell? p) : RdAct w' Bd b o q := by
  obtain ⟨v, h1, h2⟩ := h.c4
  exact ⟨(hk _ hb).trans h.c0, (hk _ hb).trans h.c1, (hk _ hb).trans h.c2, (hk _ hb).trans h.c3, ⟨v, (hk _ hb).trans h1, h2.keep hk⟩, (hk _ hb).trans h.c5, h.i1, h.s2, h.s3⟩
/-- The slice reads as these acts. -/
def RdAs (w : World) (Bd : Nat) (A : Option Addr) (n : Nat) (ls : List ActV) : Prop :=
  ls.length = n ∧ (0 < n → ∃ b o, A = some ⟨b, o, none⟩ ∧ b < Bd ∧ ∀ i q, ls[i]? = some q → RdAct w Bd b (o + i * 6) q)
theorem RdAs.keep {w w' : World} {Bd n : Nat} {A : Option Addr} {ls : List ActV} (h : RdAs w Bd A n ls) (hk : ∀ p : Addr, p.block < Bd → w'.cell? p = w.cell? p) : RdAs w' Bd A n ls := by
  refine ⟨h.1, fun hn => ?_⟩
  obtain ⟨b, o, hA, hb, hc⟩ := h.2 hn
  exact ⟨b, o, hA, hb, fun i q hq => (hc i q hq).keep_ hb hk⟩
theorem RdAs.below {w w' : World} {Bd C n : Nat} {A : Option Addr} {ls : List ActV} (h : RdAs w Bd A n ls) (hb : Below C w w') (hC : Bd ≤ C) : RdAs w' Bd A n ls := h.keep fun _ hp => hb.cell (by omega)

section
variable {H : Type} {enc : TypeId × Value → H} {P : Program} {W : World} {base : Nat} {v : Value} {d : DataW H} {p : List MemPlace} {t e : TypeId} {r : Reach}
/-- A field of one cell. -/
theorem fldA {fs : Array Field} {cs : List Value} {xs : List (DataW H × List MemPlace)} {n k : Nat} {f : Field} (hx : xs.length = fs.size) (h : ∀ (j : Nat) (f : Field), fs[j]? = some f → DataW.trod enc P W 0 (fun _ => true) true n f.type ((cs.drop f.offset).take (P.cellsOf f.type)) = xs[j]?)
    (hf : fs[k]? = some f) (ho : f.offset = k) (hc : P.cellsOf f.type = 1) (hk : k < cs.length) : ∃ u y, cs[k]? = some u ∧ DataW.trod enc P W 0 (fun _ => true) true n f.type [u] = some y := by
  have hk2 : k < xs.length := by rw [hx]; exact (Array.getElem?_eq_some_iff.1 hf).1
  have g := h k f hf
  have hd : (cs.drop k).take 1 = [cs[k]] := by rw [List.drop_eq_getElem_cons hk]; rfl
  rw [ho, hc, hd, List.getElem?_eq_getElem hk2] at g
  exact ⟨_, _, List.getElem?_eq_getElem hk, g⟩
theorem read_bysM {fuel : Nat} {x : DataW H × List MemPlace} (ht : P.underlying t = some (.slice e)) (he : P.underlying e = some (.int .u8)) (hc : P.cellsOf e = 1) (hf : DataW.trod enc P W 0 (fun _ => true) true fuel t [v] = some x) :
    ∃ l, RdM W W.heap.size v l := by
  rcases open_ints ht he hc hf with ⟨hcs, _⟩ | ⟨a, n, c, zs, hcs, _, hl, hm, hz, _, hcell, hwz⟩
  · injection hcs with hcs
    subst hcs
    exact ⟨[], none, 0, 0, rfl, Rd.empty, Nat.le_refl _, Nat.zero_le _⟩
  · have hcs0 := hcs
    obtain ⟨l, A, n', c', h1, h2, h3⟩ := read_bys ht he hc hf
    injection hcs with hcs
    rw [hcs] at h1
    injection h1 with h4 h5 h6
    subst h4 h5 h6
    exact ⟨l, _, _, _, hcs, h2, h3, hm⟩
instance : Inhabited ActV := ⟨⟨0, 0, ByteArray.empty, ByteArray.empty, [], 0⟩⟩
theorem open_acts {fs : Array Field} (ht : P.underlying t = some (.slice e)) (he : P.underlying e = some (.struct fs)) (hce : P.cellsOf e = 6)
    (hi : ∀ k, k < 2 → ∃ f, fs[k]? = some f ∧ f.offset = k ∧ P.cellsOf f.type = 1 ∧ P.underlying f.type = some (.int .i64))
    (hs : ∀ k, 2 ≤ k → k < 4 → ∃ f, fs[k]? = some f ∧ f.offset = k ∧ P.cellsOf f.type = 1 ∧ P.underlying f.type = some .string)
    (hb : ∃ f, fs[4]? = some f ∧ f.offset = 4 ∧ P.cellsOf f.type = 1 ∧ ∃ eb, P.underlying f.type = some (.slice eb) ∧ P.underlying eb = some (.int .u8) ∧ P.cellsOf eb = 1)
    (hu : ∃ f, fs[5]? = some f ∧ f.offset = 5 ∧ P.cellsOf f.type = 1 ∧ P.underlying f.type = some (.int .u64))
    (hv : Value.okWide P W r base t v) (h : DataW.Trod enc P W 0 (fun _ => true) true t v d p) :
    ∃ (A : Option Addr) (n c : Nat) (ls : List ActV), v = .slice A n c ∧ RdAs W W.heap.size A n ls ∧ n ≤ c ∧ c ≤ maxLen := by
  obtain ⟨a0, len0, cap0, rfl⟩ := okWide_slice ht hv
  obtain ⟨fuel, hf⟩ := h
  rcases Deep.open_slice ht hf with ⟨hcs, _⟩ | ⟨x, n, c, mm, k, D, Pl, hcs, _, hl, hm, hmm, _, hi2⟩
  · simp [Value.cells] at hcs
    obtain ⟨rfl, rfl, rfl⟩ := hcs
    exact ⟨none, 0, 0, [], rfl, ⟨rfl, fun h => by omega⟩, Nat.le_refl _, Nat.zero_le _⟩
  · simp [Value.cells] at hcs
    obtain ⟨rfl, rfl, rfl⟩ := hcs
    simp only [if_true] at hmm
    have each : ∀ i, i < len0 → ∃ q : ActV, W.cell? ((x.add (i * 6)).add 0) = some (.int .i64 q.kind) ∧ W.cell? ((x.add (i * 6)).add 1) = some (.int .i64 q.n) ∧ W.cell? ((x.add (i * 6)).add 2) = some (.string q.name) ∧ W.cell? ((x.add (i * 6)).add 3) = some (.string q.to) ∧
        (∃ v, W.cell? ((x.add (i * 6)).add 4) = some v ∧ RdM W W.heap.size v q.B) ∧ W.cell? ((x.add (i * 6)).add 5) = some (.int .u64 (q.keep.toNat : Int)) ∧ (-9223372036854775808 ≤ q.n ∧ q.n ≤ 9223372036854775807) ∧ q.name.size ≤ maxLen ∧ q.to.size ≤ maxLen := by
      intro i hil
      obtain ⟨cs', h1, h2⟩ := hi2 i (by omega)
      rw [hce] at h1
      obtain ⟨_, hlen, hcell⟩ := World.cells?_some h1
      obtain ⟨xs, k', _, _, _, hxl, hfx⟩ := DataW.trod_struct he h2
      obtain ⟨f0, a1, a2, a3, a4⟩ := hi 0 (by omega)
      obtain ⟨u0, y0, b0, t0⟩ := fldA hxl hfx a1 a2 a3 (by omega)
      obtain ⟨z0, g0, _, _⟩ := DataW.trod_int a4 t0
      obtain ⟨f1, a1, a2, a3, a4⟩ := hi 1 (by omega)
      obtain ⟨u1, y1, b1, t1⟩ := fldA hxl hfx a1 a2 a3 (by omega)
      obtain ⟨z1, g1, _, w1⟩ := DataW.trod_int a4 t1
      obtain ⟨f2, a1, a2, a3, a4⟩ := hs 2 (by omega) (by omega)
      obtain ⟨u2, y2, b2, t2⟩ := fldA hxl hfx a1 a2 a3 (by omega)
      obtain ⟨z2, g2, _, w2⟩ := DataW.trod_string a4 t2
      obtain ⟨f3, a1, a2, a3, a4⟩ := hs 3 (by omega) (by omega)
      obtain ⟨u3, y3, b3, t3⟩ := fldA hxl hfx a1 a2 a3 (by omega)
      obtain ⟨z3, g3, _, w3⟩ := DataW.trod_string a4 t3
      obtain ⟨f4, a1, a2, a3, e4, a4, a5, a6⟩ := hb
      obtain ⟨u4, y4, b4, t4⟩ := fldA hxl hfx a1 a2 a3 (by omega)
      obtain ⟨l4, r4⟩ := read_bysM a4 a5 a6 t4
      obtain ⟨f5, a1, a2, a3, a4⟩ := hu
      obtain ⟨u5, y5, b5, t5⟩ := fldA hxl hfx a1 a2 a3 (by omega)
      obtain ⟨z5, g5, _, w5⟩ := DataW.trod_int a4 t5
      injection g0 with g0
      injection g1 with g1
      injection g2 with g2
      injection g3 with g3
      injection g5 with g5
      subst g0 g1 g2 g3 g5
      have hz5 := bounds_u64 w5
      have hk5 : (((UInt64.ofNat z5.toNat).toNat : Nat) : Int) = z5 := by
        rw [UInt64.toNat_ofNat']; omega
      exact ⟨⟨z0, z1, z2, z3, l4, UInt64.ofNat z5.toNat⟩, (hcell 0 (by omega)).trans b0, (hcell 1 (by omega)).trans b1, (hcell 2 (by omega)).trans b2, (hcell 3 (by omega)).trans b3, ⟨u4, (hcell 4 (by omega)).trans b4, r4⟩, by show _ = some (Value.int .u64 (((UInt64.ofNat z5.toNat).toNat : Nat) : Int)); rw [hk5]; exact (hcell 5 (by omega)).trans b5, bounds_i64 w1, w2, w3⟩
    obtain ⟨L, hL⟩ := Deep.choose_lt each
    refine ⟨some x, len0, cap0, (List.range len0).map L, rfl, ⟨by simp, fun hn => ?_⟩, hl, hm⟩
    obtain ⟨b, o, sp⟩ := x
    have h0 := (hL 0 hn).1
    have hsp : sp = none := by
      have := World.cell?_spot h0
      simpa [Addr.add] using this
    subst hsp
    simp only [addLit, Nat.add_zero] at h0 hL
    refine ⟨b, o, rfl, World.block_lt_of_cell? W _ h0, fun i q hq => ?_⟩
    simp only [List.getElem?_map, Option.map_eq_some_iff] at hq
    obtain ⟨y, hy, rfl⟩ := hq
    have hin : i < len0 := by
      rcases Nat.lt_or_ge i len0 with h | h
      · exact h
      · rw [List.getElem?_eq_none (by simpa using h)] at hy; cases hy
    rw [List.getElem?_range hin] at hy
    injection hy with hy
    subst hy
    obtain ⟨h1, h2, h3, h4, h5, h6, h7, h8, h9⟩ := hL i hin
    exact ⟨h1, h2, h3, h4, h5, h6, h7, h8, h9⟩
end
end Go.Proofs.YtknjopefbbldfaaGreatDoor
