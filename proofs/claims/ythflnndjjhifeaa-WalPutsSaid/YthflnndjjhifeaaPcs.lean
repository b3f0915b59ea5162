/- A slice of structures, each of some ints and, last, a slice of bytes. -/
import Derived.Test.YthflnndjjhifeaaFrame
namespace Go.Proofs.Ythflnndjjhifeaa
open Go.RowKit Go.ChangeShapes Go.WideShapes Go.ChangeAt

def i64B (z : Int) : Prop := -9223372036854775808 ≤ z ∧ z ≤ 9223372036854775807
/-- The slice reads as these pieces: m ints each, and bytes. -/
def RdPcs (w : World) (B m : Nat) (A : Option Addr) (n : Nat) (ls : List (List Int × List UInt8)) : Prop :=
  ls.length = n ∧ (0 < n → ∃ b o, A = some ⟨b, o, none⟩ ∧ b < B ∧ ∀ i p, ls[i]? = some p → p.1.length = m ∧ (∀ z ∈ p.1, i64B z) ∧
    (∀ k z, p.1[k]? = some z → w.cell? ⟨b, o + i * (m + 1) + k, none⟩ = some (.int .i64 z)) ∧ ∃ v, w.cell? ⟨b, o + i * (m + 1) + m, none⟩ = some v ∧ RdB w B v p.2)
section
variable {w w' : World} {B m n : Nat} {A : Option Addr} {ls : List (List Int × List UInt8)}
theorem RdPcs.keep (h : RdPcs w B m A n ls) (hk : ∀ p : Addr, p.block < B → w'.cell? p = w.cell? p) : RdPcs w' B m A n ls := by
  refine ⟨h.1, fun hn => ?_⟩
  obtain ⟨b, o, hA, hb, hc⟩ := h.2 hn
  refine ⟨b, o, hA, hb, fun i p hp => ?_⟩
  obtain ⟨h1, h2, h3, v, h4, h5⟩ := hc i p hp
  exact ⟨h1, h2, fun k z hz => (hk _ hb).trans (h3 k z hz), v, (hk _ hb).trans h4, h5.keep hk⟩
theorem RdPcs.more {B' : Nat} (h : RdPcs w B m A n ls) (hB : B ≤ B') : RdPcs w B' m A n ls := by
  refine ⟨h.1, fun hn => ?_⟩
  obtain ⟨b, o, hA, hb, hc⟩ := h.2 hn
  refine ⟨b, o, hA, by omega, fun i p hp => ?_⟩
  obtain ⟨h1, h2, h3, v, h4, h5⟩ := hc i p hp
  exact ⟨h1, h2, h3, v, h4, h5.more hB⟩
theorem RdPcs.below {C : Nat} (h : RdPcs w B m A n ls) (hb : Below C w w') (hC : B ≤ C) : RdPcs w' B m A n ls := h.keep fun _ hp => hb.cell (by omega)
theorem RdPcs.at_ (h : RdPcs w B m A n ls) {i : Nat} (hi : i < n) : ∃ b o p, A = some ⟨b, o, none⟩ ∧ b < B ∧ ls[i]? = some p ∧ p.1.length = m ∧ (∀ z ∈ p.1, i64B z) ∧
    (∀ k z, p.1[k]? = some z → w.cell? ⟨b, o + i * (m + 1) + k, none⟩ = some (.int .i64 z)) ∧ ∃ v, w.cell? ⟨b, o + i * (m + 1) + m, none⟩ = some v ∧ RdB w B v p.2 := by
  obtain ⟨b, o, hA, hb, hc⟩ := h.2 (by omega)
  have hl : ls[i]? = some (ls[i]'(by have := h.1; omega)) := List.getElem?_eq_getElem _
  exact ⟨b, o, _, hA, hb, hl, hc i _ hl⟩
end

section
variable {H : Type} {enc : TypeId × Value → H} {P : Program} {W : World} {base : Nat} {v : Value} {d : DataW H} {p : List MemPlace} {t e : TypeId} {r : Reach}
theorem open_pcs (m : Nat) (hm0 : 0 < m) {fs : Array Field} (ht : P.underlying t = some (.slice e)) (he : P.underlying e = some (.struct fs)) (hce : P.cellsOf e = m + 1)
    (hint : ∀ k, k < m → ∃ f, fs[k]? = some f ∧ f.offset = k ∧ P.cellsOf f.type = 1 ∧ P.underlying f.type = some (.int .i64))
    (hlast : ∃ f, fs[m]? = some f ∧ f.offset = m ∧ P.cellsOf f.type = 1 ∧ ∃ eb, P.underlying f.type = some (.slice eb) ∧ P.underlying eb = some (.int .u8) ∧ P.cellsOf eb = 1)
    (hv : Value.okWide P W r base t v) (h : DataW.Trod enc P W 0 (fun _ => true) true t v d p) :
    ∃ (A : Option Addr) (n c : Nat) (ls : List (List Int × List UInt8)), v = .slice A n c ∧ RdPcs W W.heap.size m A n ls ∧ n ≤ c ∧ c ≤ maxLen := by
  obtain ⟨a0, len0, cap0, rfl⟩ := okWide_slice ht hv
  obtain ⟨fuel, hf⟩ := h
  rcases Deep.open_slice ht hf with ⟨hcs, _⟩ | ⟨x, n, c, mm, k, D, Pl, hcs, _, hl, hm, hmm, _, hi⟩
  · simp [Value.cells] at hcs
    obtain ⟨rfl, rfl, rfl⟩ := hcs
    exact ⟨none, 0, 0, [], rfl, ⟨rfl, fun h => by omega⟩, Nat.le_refl _, Nat.zero_le _⟩
  · simp [Value.cells] at hcs
    obtain ⟨rfl, rfl, rfl⟩ := hcs
    simp only [if_true] at hmm
    have each : ∀ i, i < len0 → ∃ q : List Int × List UInt8, q.1.length = m ∧ (∀ z ∈ q.1, i64B z) ∧
        (∀ k z, q.1[k]? = some z → W.cell? ((x.add (i * (m + 1))).add k) = some (.int .i64 z)) ∧ ∃ v, W.cell? ((x.add (i * (m + 1))).add m) = some v ∧ RdB W W.heap.size v q.2 := by
      intro i hil
      obtain ⟨cs', h1, h2⟩ := hi i (by omega)
      rw [hce] at h1
      obtain ⟨_, hlen, hcell⟩ := World.cells?_some h1
      obtain ⟨xs, k', _, _, _, hxl, hfx⟩ := DataW.trod_struct he h2
      have hz : ∀ k, k < m → ∃ z : Int, cs'[k]? = some (.int .i64 z) ∧ i64B z := by
        intro k hk
        obtain ⟨f, hf1, hf2, hf3, hf4⟩ := hint k hk
        have hk2 : k < xs.length := by
          rw [hxl]; rcases Nat.lt_or_ge k fs.size with h | h
          · exact h
          · rw [Array.getElem?_eq_none h] at hf1; cases hf1
        have g := hfx k f hf1
        rw [hf2, hf3, List.getElem?_eq_getElem hk2] at g
        obtain ⟨z, hz1, _, hz3⟩ := DataW.trod_int hf4 g
        refine ⟨z, ?_, bounds_i64 hz3⟩
        have hkc : k < cs'.length := by omega
        have hd : (cs'.drop k).take 1 = [cs'[k]] := by rw [List.drop_eq_getElem_cons hkc]; rfl
        rw [hd] at hz1
        injection hz1 with hz1
        rw [List.getElem?_eq_getElem hkc, hz1]
      obtain ⟨Z, hZ⟩ := Deep.choose_lt hz
      obtain ⟨f, hf1, hf2, hf3, eb, hf4, hf5, hf6⟩ := hlast
      have hk2 : m < xs.length := by
        rw [hxl]; rcases Nat.lt_or_ge m fs.size with h | h
        · exact h
        · rw [Array.getElem?_eq_none h] at hf1; cases hf1
      have g := hfx m f hf1
      have hmc : m < cs'.length := by omega
      have hd : (cs'.drop m).take 1 = [cs'[m]] := by rw [List.drop_eq_getElem_cons hmc]; rfl
      rw [hf2, hf3, List.getElem?_eq_getElem hk2, hd] at g
      obtain ⟨l, hl'⟩ := read_bys hf4 hf5 hf6 g
      refine ⟨((List.range m).map Z, l), by simp, ?_, ?_, cs'[m], ?_, hl'⟩
      · intro z hz'
        simp only [List.mem_map, List.mem_range] at hz'
        obtain ⟨k, hk, rfl⟩ := hz'
        exact (hZ k hk).2
      · intro k z hkz
        simp only [List.getElem?_map, Option.map_eq_some_iff] at hkz
        obtain ⟨y, hy, rfl⟩ := hkz
        have hkm : k < m := by
          rcases Nat.lt_or_ge k m with h | h
          · exact h
          · rw [List.getElem?_eq_none (by simpa using h)] at hy; cases hy
        rw [List.getElem?_range hkm] at hy
        injection hy with hy
        subst hy
        have := hcell k (by omega)
        rw [(hZ k hkm).1] at this
        exact this
      · have := hcell m (by omega)
        rw [List.getElem?_eq_getElem hmc] at this
        exact this
    obtain ⟨L, hL⟩ := Deep.choose_lt each
    refine ⟨some x, len0, cap0, (List.range len0).map L, rfl, ⟨by simp, fun hn => ?_⟩, hl, hm⟩
    obtain ⟨b, o, sp⟩ := x
    obtain ⟨z0, hz0⟩ : ∃ z, (L 0).1[0]? = some z := ⟨_, List.getElem?_eq_getElem (by have := (hL 0 hn).1; omega)⟩
    have hv0 := (hL 0 hn).2.2.1 0 z0 hz0
    have hsp : sp = none := by
      have := World.cell?_spot hv0
      simpa [Addr.add] using this
    subst hsp
    refine ⟨b, o, rfl, by rw [addLit, addLit] at hv0; exact World.block_lt_of_cell? W _ hv0, fun i q hq => ?_⟩
    simp only [List.getElem?_map, Option.map_eq_some_iff] at hq
    obtain ⟨y, hy, rfl⟩ := hq
    have hin : i < len0 := by
      rcases Nat.lt_or_ge i len0 with h | h
      · exact h
      · rw [List.getElem?_eq_none (by simpa using h)] at hy; cases hy
    rw [List.getElem?_range hin] at hy
    injection hy with hy
    subst hy
    obtain ⟨h1, h2, h3, v, h4, h5⟩ := hL i hin
    refine ⟨h1, h2, fun k z hz => ?_, v, ?_, h5⟩
    · have := h3 k z hz
      rwa [addLit, addLit] at this
    · rwa [addLit, addLit] at h4
end
end Go.Proofs.Ythflnndjjhifeaa
