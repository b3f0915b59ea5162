/- Texts in a row as a parameter. -/
import Derived.Test.YtbdehlphblbmoaaDoorFrame
import Derived.Deep.Strs
namespace Go.Proofs.YtbdehlphblbmoaaDoor
open Go.RowKit Go.ChangeShapes Go.WideShapes Go.ChangeAt

/-- Texts as cells. -/
def sts (l : List ByteArray) : List Value := l.map Value.string
section
variable {H : Type} {enc : TypeId × Value → H} {P : Program} {W : World} {base : Nat} {v : Value} {d : DataW H} {p : List MemPlace} {t e : TypeId} {r : Reach}
theorem open_txts (ht : P.underlying t = some (.slice e)) (he : P.underlying e = some .string) (hc : P.cellsOf e = 1) (hv : Value.okWide P W r base t v)
    (h : DataW.Trod enc P W 0 (fun _ => true) true t v d p) :
    ∃ (A : Option Addr) (n c : Nat) (l : List ByteArray), v = .slice A n c ∧ Rd W W.heap.size 1 A n (sts l) ∧ n ≤ c ∧ c ≤ maxLen := by
  obtain ⟨a0, len0, cap0, rfl⟩ := okWide_slice ht hv
  obtain ⟨fuel, hf⟩ := h
  rcases Deep.open_strs ht he hc hf with ⟨hcs, _⟩ | ⟨x, len, cap, m, Sx, hcs, _, hl, hm, hmm, _, hi⟩
  · simp [Value.cells] at hcs
    obtain ⟨rfl, rfl, rfl⟩ := hcs
    exact ⟨none, 0, 0, [], rfl, Rd.nil_, Nat.le_refl _, Nat.zero_le _⟩
  · simp [Value.cells] at hcs
    obtain ⟨rfl, rfl, rfl⟩ := hcs
    simp only [if_true] at hmm
    subst hmm
    refine ⟨some x, len0, m, (List.range len0).map Sx, rfl, ⟨by simp [sts], fun hn => ?_⟩, hl, hm⟩
    obtain ⟨b, o, sp⟩ := x
    have h0 := (hi 0 (by omega)).1
    have hsp : sp = none := by simpa [Addr.add] using World.cell?_spot h0
    subst hsp
    refine ⟨b, o, rfl, by rw [addLit] at h0; exact World.block_lt_of_cell? W _ h0, fun j u hu => ?_⟩
    simp only [sts, List.getElem?_map, Option.map_eq_some_iff] at hu
    obtain ⟨y, ⟨z, hz, rfl⟩, rfl⟩ := hu
    have hj : j < len0 := by
      have := (List.getElem?_eq_some_iff.1 hz).1
      simpa using this
    have hzj : z = j := by
      rw [List.getElem?_range hj] at hz
      injection hz with hz; exact hz.symm
    subst hzj
    have := (hi z (by omega)).1
    rw [addLit] at this
    simpa using this
end
end Go.Proofs.YtbdehlphblbmoaaDoor
