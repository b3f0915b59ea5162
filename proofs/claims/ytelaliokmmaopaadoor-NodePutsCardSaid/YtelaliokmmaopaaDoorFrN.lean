/- A node as a parameter. -/
import Derived.Test.YtelaliokmmaopaaDoorFrame
import Derived.Test.YtelaliokmmaopaaDoorNod2
namespace Go.Proofs.YtelaliokmmaopaaDoor
open Go.RowKit Go.ChangeShapes Go.WideShapes Go.ChangeAt

section
variable {H : Type} {enc : TypeId × Value → H} {P : Program} {W : World} {base : Nat} {v : Value} {d : DataW H} {p : List MemPlace} {t e : TypeId} {r : Reach}
/-- A field of one cell. -/
theorem fld {fs : Array Field} {cs : List Value} {xs : List (DataW H × List MemPlace)} {n k : Nat} {f : Field} (hx : xs.length = fs.size) (h : ∀ (j : Nat) (f : Field), fs[j]? = some f → DataW.trod enc P W 0 (fun _ => true) true n f.type ((cs.drop f.offset).take (P.cellsOf f.type)) = xs[j]?)
    (hf : fs[k]? = some f) (ho : f.offset = k) (hc : P.cellsOf f.type = 1) (hk : k < cs.length) : ∃ u y, cs[k]? = some u ∧ DataW.trod enc P W 0 (fun _ => true) true n f.type [u] = some y := by
  have hk2 : k < xs.length := by rw [hx]; exact (Array.getElem?_eq_some_iff.1 hf).1
  have g := h k f hf
  have hd : (cs.drop k).take 1 = [cs[k]] := by rw [List.drop_eq_getElem_cons hk]; rfl
  rw [ho, hc, hd, List.getElem?_eq_getElem hk2] at g
  exact ⟨_, _, List.getElem?_eq_getElem hk, g⟩
instance : Inhabited CellP := ⟨⟨[], [], 0, 0⟩⟩
theorem read_cells {fuel : Nat} {x0 : DataW H × List MemPlace} {fs : Array Field} (ht : P.underlying t = some (.slice e)) (he : P.underlying e = some (.struct fs)) (hce : P.cellsOf e = 4)
    (hb : ∀ k, k < 2 → ∃ f, fs[k]? = some f ∧ f.offset = k ∧ P.cellsOf f.type = 1 ∧ ∃ eb, P.underlying f.type = some (.slice eb) ∧ P.underlying eb = some (.int .u8) ∧ P.cellsOf eb = 1)
    (hi4 : ∀ k, 2 ≤ k → k < 4 → ∃ f, fs[k]? = some f ∧ f.offset = k ∧ P.cellsOf f.type = 1 ∧ P.underlying f.type = some (.int .i64))
    (hf : DataW.trod enc P W 0 (fun _ => true) true fuel t [v] = some x0) :
    ∃ (A : Option Addr) (n c : Nat) (cs : List CellP), v = .slice A n c ∧ RdCs W W.heap.size A n cs ∧ n ≤ c ∧ c ≤ maxLen := by
  rcases Deep.open_slice ht hf with ⟨hcs, _⟩ | ⟨x, n, c, mm, k, D, Pl, hcs, _, hl, hm, hmm, _, hi⟩
  · injection hcs with hcs
    subst hcs
    exact ⟨none, 0, 0, [], rfl, ⟨rfl, fun h => by omega⟩, Nat.le_refl _, Nat.zero_le _⟩
  · injection hcs with hcs
    subst hcs
    simp only [if_true] at hmm
    have each : ∀ i, i < n → ∃ q : CellP, ∃ vk vv, W.cell? ((x.add (i * 4)).add 0) = some vk ∧ RdB W W.heap.size vk q.key ∧ W.cell? ((x.add (i * 4)).add 1) = some vv ∧ RdB W W.heap.size vv q.val ∧
        W.cell? ((x.add (i * 4)).add 2) = some (.int .i64 q.over) ∧ W.cell? ((x.add (i * 4)).add 3) = some (.int .i64 q.long) := by
      intro i hil
      obtain ⟨cs', h1, h2⟩ := hi i (by omega)
      rw [hce] at h1
      obtain ⟨_, hlen, hcell⟩ := World.cells?_some h1
      obtain ⟨xs, k', _, _, _, hxl, hfx⟩ := DataW.trod_struct he h2
      obtain ⟨f0, a1, a2, a3, e0, a4, a5, a6⟩ := hb 0 (by omega)
      obtain ⟨u0, y0, b1, b2⟩ := fld hxl hfx a1 a2 a3 (by omega)
      obtain ⟨l0, c0⟩ := read_bys a4 a5 a6 b2
      obtain ⟨f1, a1, a2, a3, e1, a4, a5, a6⟩ := hb 1 (by omega)
      obtain ⟨u1, y1, d1, d2⟩ := fld hxl hfx a1 a2 a3 (by omega)
      obtain ⟨l1, c1⟩ := read_bys a4 a5 a6 d2
      obtain ⟨f2, a1, a2, a3, a4⟩ := hi4 2 (by omega) (by omega)
      obtain ⟨u2, y2, e1', e2'⟩ := fld hxl hfx a1 a2 a3 (by omega)
      obtain ⟨z2, g2, _, _⟩ := DataW.trod_int a4 e2'
      obtain ⟨f3, a1, a2, a3, a4⟩ := hi4 3 (by omega) (by omega)
      obtain ⟨u3, y3, h1', h2'⟩ := fld hxl hfx a1 a2 a3 (by omega)
      obtain ⟨z3, g3, _, _⟩ := DataW.trod_int a4 h2'
      injection g2 with g2
      injection g3 with g3
      subst g2 g3
      exact ⟨⟨l0, l1, z2, z3⟩, u0, u1, (hcell 0 (by omega)).trans b1, c0, (hcell 1 (by omega)).trans d1, c1, (hcell 2 (by omega)).trans e1', (hcell 3 (by omega)).trans h1'⟩
    obtain ⟨L, hL⟩ := Deep.choose_lt each
    refine ⟨some x, n, c, (List.range n).map L, rfl, ⟨by simp, fun hn => ?_⟩, hl, hm⟩
    obtain ⟨b, o, sp⟩ := x
    obtain ⟨vk, vv, h0, _⟩ := hL 0 hn
    have hsp : sp = none := by
      have := World.cell?_spot h0
      simpa [Addr.add] using this
    subst hsp
    simp only [addLit, Nat.add_zero] at h0 hL
    refine ⟨b, o, rfl, World.block_lt_of_cell? W _ h0, fun i q hq => ?_⟩
    simp only [List.getElem?_map, Option.map_eq_some_iff] at hq
    obtain ⟨y, hy, rfl⟩ := hq
    have hin : i < n := by
      rcases Nat.lt_or_ge i n with h | h
      · exact h
      · rw [List.getElem?_eq_none (by simpa using h)] at hy; cases hy
    rw [List.getElem?_range hin] at hy
    injection hy with hy
    subst hy
    obtain ⟨vk, vv, h1, h2, h3, h4, h5, h6⟩ := hL i hin
    exact ⟨vk, vv, h1, h2, h3, h4, h5, h6⟩
theorem read_its {fuel : Nat} {x : DataW H × List MemPlace} (ht : P.underlying t = some (.slice e)) (he : P.underlying e = some (.int .i64)) (hc : P.cellsOf e = 1) (hf : DataW.trod enc P W 0 (fun _ => true) true fuel t [v] = some x) :
    ∃ (A : Option Addr) (n c : Nat) (l : List Int), v = .slice A n c ∧ Rd W W.heap.size 1 A n (its l) ∧ n ≤ c ∧ c ≤ maxLen := by
  rcases open_ints ht he hc hf with ⟨hcs, _⟩ | ⟨a, n, c, zs, hcs, _, hl, hm, hz, _, hcell, hwz⟩
  · injection hcs with hcs
    subst hcs
    exact ⟨none, 0, 0, [], rfl, Rd.empty, Nat.le_refl _, Nat.zero_le _⟩
  · injection hcs with hcs
    subst hcs
    simp only [if_true] at hz
    have hzl : n ≤ zs.length := by rw [hz]; exact hl
    refine ⟨some a, n, c, zs.take n, rfl, ⟨by unfold its; simp; omega, fun hn => ?_⟩, hl, hm⟩
    obtain ⟨b, o, sp⟩ := a
    have h0 := hcell 0 (by omega)
    have hsp : sp = none := by simpa [Addr.add] using World.cell?_spot h0
    subst hsp
    refine ⟨b, o, rfl, by rw [addLit] at h0; exact World.block_lt_of_cell? W _ h0, fun j u hu => ?_⟩
    unfold its at hu
    rw [List.getElem?_map, Option.map_eq_some_iff] at hu
    obtain ⟨y, hy, rfl⟩ := hu
    rw [List.getElem?_take] at hy
    split at hy
    · have hj : j < zs.length := by omega
      have := hcell j hj
      rw [addLit] at this
      rw [this, List.getD_eq_getElem?_getD, hy]; rfl
    · cases hy
theorem open_node {fs fc : Array Field} {ec ei : TypeId} {f0 f1 f2 : Field} (ht : P.underlying t = some (.struct fs)) (hct : P.cellsOf t = 3)
    (g0 : fs[0]? = some f0 ∧ f0.offset = 0 ∧ P.cellsOf f0.type = 1 ∧ P.underlying f0.type = some .bool)
    (g1 : fs[1]? = some f1 ∧ f1.offset = 1 ∧ P.cellsOf f1.type = 1 ∧ P.underlying f1.type = some (.slice ec) ∧ P.underlying ec = some (.struct fc) ∧ P.cellsOf ec = 4)
    (g2 : fs[2]? = some f2 ∧ f2.offset = 2 ∧ P.cellsOf f2.type = 1 ∧ P.underlying f2.type = some (.slice ei) ∧ P.underlying ei = some (.int .i64) ∧ P.cellsOf ei = 1)
    (hb : ∀ k, k < 2 → ∃ f, fc[k]? = some f ∧ f.offset = k ∧ P.cellsOf f.type = 1 ∧ ∃ eb, P.underlying f.type = some (.slice eb) ∧ P.underlying eb = some (.int .u8) ∧ P.cellsOf eb = 1)
    (hi4 : ∀ k, 2 ≤ k → k < 4 → ∃ f, fc[k]? = some f ∧ f.offset = k ∧ P.cellsOf f.type = 1 ∧ P.underlying f.type = some (.int .i64))
    (hv : Value.okWide P W r base t v) (h : DataW.Trod enc P W 0 (fun _ => true) true t v d p) :
    ∃ (M : NdM) (N : NodP), v = .agg (ndC N.leaf M) ∧ RdN W W.heap.size M N := by
  obtain ⟨cs, rfl, hsz⟩ := okWide_struct ht hv
  rw [hct] at hsz
  obtain ⟨fuel, hf⟩ := h
  obtain ⟨xs, k', _, _, _, hxl, hfx⟩ := DataW.trod_struct ht hf
  simp only [Value.cells] at hfx
  obtain ⟨u0, y0, b0, c0⟩ := fld hxl hfx g0.1 g0.2.1 g0.2.2.1 (by simp; omega)
  obtain ⟨u1, y1, b1, c1⟩ := fld hxl hfx g1.1 g1.2.1 g1.2.2.1 (by simp; omega)
  obtain ⟨u2, y2, b2, c2⟩ := fld hxl hfx g2.1 g2.2.1 g2.2.2.1 (by simp; omega)
  obtain ⟨A, n, c, l, rfl, r1, r2, r3⟩ := read_cells g1.2.2.2.1 g1.2.2.2.2.1 g1.2.2.2.2.2 hb hi4 c1
  obtain ⟨K, m, dd, ks, rfl, s1, s2, s3⟩ := read_its g2.2.2.2.1 g2.2.2.2.2.1 g2.2.2.2.2.2 c2
  obtain ⟨bl, h1, _⟩ := DataW.trod_bool g0.2.2.2 c0
  injection h1 with h1
  subst h1
  refine ⟨⟨A, n, c, K, m, dd⟩, ⟨bl, l, ks⟩, ?_, ⟨r1, s1, r2, s2, by show c ≤ _; unfold maxLen at r3; omega, by show dd ≤ _; unfold maxLen at s3; omega⟩⟩
  congr 1
  unfold ndC
  match cs, hsz, b0, b1, b2 with
  | ⟨[x0, x1, x2]⟩, _, b0, b1, b2 => simp_all
end
end Go.Proofs.YtelaliokmmaopaaDoor
