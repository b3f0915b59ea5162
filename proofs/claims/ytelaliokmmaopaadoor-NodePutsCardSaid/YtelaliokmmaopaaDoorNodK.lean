/- What bytes are a node, by the document. No program in sight. -/
import Derived.Test.YtelaliokmmaopaaDoorNodP
import Derived.Test.YtelaliokmmaopaaDoorRecP
namespace Go.Proofs.YtelaliokmmaopaaDoor

/-- What follows a leaf's key. -/
def valC (L : List UInt8) (p : Nat) : Option (List UInt8 × Int × Int × Nat) :=
  if p + 2 ≤ L.length then
    if 64 < nAt L p 2 then if p + 5 ≤ L.length then some ([], nAt L (p + 2) 3, nAt L p 2, p + 5) else none
    else if p + 2 + (nAt L p 2).toNat ≤ L.length then some ((L.drop (p + 2)).take (nAt L p 2).toNat, 0, 0, p + 2 + (nAt L p 2).toNat) else none
  else none
/-- One cell, and the child behind it. -/
def stepC (L : List UInt8) (lf : Bool) (p : Nat) : Option (CellP × List Int × Nat) :=
  if p + 1 ≤ L.length then
    if p + 1 + (nAt L p 1).toNat ≤ L.length then
      if lf then match valC L (p + 1 + (nAt L p 1).toNat) with
        | some (v, o, l, q) => some (⟨(L.drop (p + 1)).take (nAt L p 1).toNat, v, o, l⟩, [], q)
        | none => none
      else if p + 1 + (nAt L p 1).toNat + 3 ≤ L.length then some (⟨(L.drop (p + 1)).take (nAt L p 1).toNat, [], 0, 0⟩, [nAt L (p + 1 + (nAt L p 1).toNat) 3], p + 1 + (nAt L p 1).toNat + 3) else none
    else none
  else none
/-- So many cells. -/
def runC (L : List UInt8) (lf : Bool) : Nat → Option (List CellP × List Int × Nat)
  | 0 => if lf then some ([], [], 3) else if 6 ≤ L.length then some ([], [nAt L 3 3], 6) else none
  | j + 1 => match runC L lf j with
    | none => none
    | some (cs, ks, p) => match stepC L lf p with
      | none => none
      | some (c, k, q) => some (cs ++ [c], ks ++ k, q)
/-- The node that bytes are. -/
def IsN (L : List UInt8) (N : NodP) : Prop :=
  3 ≤ L.length ∧ (N.leaf = true ∧ nAt L 0 1 = 1 ∨ N.leaf = false ∧ nAt L 0 1 = 2) ∧ ∃ p, runC L N.leaf (nAt L 1 2).toNat = some (N.cells, N.kids, p) ∧ RightP N ∧ ∀ x ∈ L.drop p, x = 0
theorem IsN.inj {L : List UInt8} {N M : NodP} (h : IsN L N) (k : IsN L M) : N = M := by
  obtain ⟨_, h2, p, h3, _⟩ := h
  obtain ⟨_, k2, q, k3, _⟩ := k
  obtain ⟨lf, cs, ks⟩ := N
  obtain ⟨lf', cs', ks'⟩ := M
  have e : lf = lf' := by
    rcases h2 with ⟨a, b⟩ | ⟨a, b⟩ <;> rcases k2 with ⟨c, d⟩ | ⟨c, d⟩
    · exact a.trans c.symm
    · omega
    · omega
    · exact a.trans c.symm
  subst e
  rw [h3] at k3
  injection k3 with k3
  injection k3 with e1 k3
  injection k3 with e2 _
  simp only at e1 e2
  rw [e1, e2]
theorem nAt_1 (L : List UInt8) (p : Nat) : 0 ≤ nAt L p 1 ∧ nAt L p 1 ≤ 255 := by
  have h1 := nAt_nn L p 1; have h2 := nAt_lt L p 1; have h3 : (256 : Int) ^ 1 = 256 := by decide
  omega
theorem nAt_3 (L : List UInt8) (p : Nat) : 0 ≤ nAt L p 3 ∧ nAt L p 3 ≤ 16777215 := by
  have h1 := nAt_nn L p 3; have h2 := nAt_lt L p 3; have h3 : (256 : Int) ^ 3 = 16777216 := by decide
  omega
theorem valC_bd {L : List UInt8} {p q : Nat} {v : List UInt8} {o l : Int} (h : valC L p = some (v, o, l, q)) : p < q ∧ q ≤ L.length := by
  unfold valC at h
  split at h
  · split at h
    · split at h
      · injection h with h; injection h with _ h; injection h with _ h; injection h with _ h; omega
      · cases h
    · split at h
      · injection h with h; injection h with _ h; injection h with _ h; injection h with _ h; omega
      · cases h
  · cases h
theorem stepC_bd {L : List UInt8} {lf : Bool} {p q : Nat} {c : CellP} {k : List Int} (h : stepC L lf p = some (c, k, q)) : p < q ∧ q ≤ L.length ∧ k.length = (if lf then 0 else 1) := by
  unfold stepC at h
  split at h
  · split at h
    · cases lf
      · rw [if_neg (by simp)] at h
        split at h
        · injection h with h; injection h with _ h; injection h with h1 h2; subst h1; exact ⟨by omega, by omega, rfl⟩
        · cases h
      · rw [if_pos rfl] at h
        split at h
        · rename_i v o l q' hv
          injection h with h; injection h with _ h; injection h with h1 h2; subst h1 h2
          have := valC_bd hv
          exact ⟨by omega, this.2, rfl⟩
        · cases h
    · cases h
  · cases h
theorem runC_succ {L : List UInt8} {lf : Bool} {j p q : Nat} {cs : List CellP} {ks k : List Int} {c : CellP} (h : runC L lf j = some (cs, ks, p)) (hs : stepC L lf p = some (c, k, q)) : runC L lf (j + 1) = some (cs ++ [c], ks ++ k, q) := by
  rw [runC, h]; simp only; rw [hs]
theorem runC_none {L : List UInt8} {lf : Bool} {j p : Nat} {cs : List CellP} {ks : List Int} (h : runC L lf j = some (cs, ks, p)) (hs : stepC L lf p = none) : runC L lf (j + 1) = none := by
  rw [runC, h]; simp only; rw [hs]
theorem runC_dead {L : List UInt8} {lf : Bool} {j : Nat} (h : runC L lf j = none) : ∀ d, runC L lf (j + d) = none
  | 0 => h
  | d + 1 => by rw [show j + (d + 1) = (j + d) + 1 by omega, runC, runC_dead h d]
theorem runC_bd {L : List UInt8} {lf : Bool} (h3 : 3 ≤ L.length) : ∀ {j p : Nat} {cs : List CellP} {ks : List Int}, runC L lf j = some (cs, ks, p) → cs.length = j ∧ j + 3 ≤ p ∧ p ≤ L.length ∧ ks.length = (if lf then 0 else j + 1)
  | 0, p, cs, ks, h => by
    rw [runC] at h
    cases lf
    · rw [if_neg (by simp)] at h
      split at h
      · injection h with h; injection h with h1 h; injection h with h2 h3; subst h1 h2; exact ⟨rfl, by omega, by omega, rfl⟩
      · cases h
    · rw [if_pos rfl] at h
      injection h with h; injection h with h1 h; injection h with h2 h3; subst h1 h2; exact ⟨rfl, by omega, by omega, rfl⟩
  | j + 1, p, cs, ks, h => by
    rw [runC] at h
    cases hr : runC L lf j with
    | none => rw [hr] at h; cases h
    | some t =>
      obtain ⟨cs', ks', p'⟩ := t
      rw [hr] at h
      simp only at h
      cases hs : stepC L lf p' with
      | none => rw [hs] at h; cases h
      | some t =>
        obtain ⟨c, k, q⟩ := t
        rw [hs] at h
        simp only at h
        injection h with h; injection h with h1 h; injection h with h2 h4; subst h1 h2 h4
        obtain ⟨i1, i2, i3, i4⟩ := runC_bd h3 hr
        obtain ⟨s1, s2, s3⟩ := stepC_bd hs
        refine ⟨by simp [i1], by omega, s2, ?_⟩
        rw [List.length_append, i4, s3]
        cases lf <;> simp
end Go.Proofs.YtelaliokmmaopaaDoor
