/- Contracts of package wal: Get. -/
import Derived.Test.YthflnndjjhifeaaWalP
namespace Go.Proofs.Ythflnndjjhifeaa
open Go.RowKit
attribute [local go_sem ↓] Go.wp_at_zero Go.wp_at_succ

theorem infoW : (Try.prog.info? 51).map (fun i => (i.zero, i.size, i.bytes)) = some (some (.agg #[.int .i64 0, .slice none 0 0]), 2, 32) := by kernel_rfl
/-- The cells of pieces. -/
def pcells (ls : List (List Int × List UInt8)) (vs : List Value) : List Value := (ls.zip vs).flatMap fun q => [.int .i64 (q.1.1.headD 0), q.2]
/-- Pieces that the call has made: the row, and each one's bytes, apart. -/
def PO (w : World) (base : Nat) (v : Value) (ls : List (List Int × List UInt8)) : Prop :=
  ∃ vs : List Value, vs.length = ls.length ∧ w.ownsRow base 51 2 v ls.length (pcells ls vs) ∧
    ∀ (i : Nat) vi p, vs[i]? = some vi → ls[i]? = some p → w.ownsRow base 5 1 vi p.2.length (bys p.2) ∧ (∀ k, v.ownBlock = some k → vi.ownBlock ≠ some k) ∧ p.1.length = 1 ∧ ∀ z ∈ p.1, i64B z
theorem PO.nil_ (w : World) (base : Nat) : PO w base (.slice none 0 0) [] := ⟨[], rfl, World.ownsRow_nil _ _ _ _, fun i vi p h => by simp at h⟩
theorem PO.below {w w' : World} {base : Nat} {v : Value} {ls : List (List Int × List UInt8)} (h : PO w base v ls) (hb : Below w.heap.size w w') : PO w' base v ls := by
  obtain ⟨vs, h1, h2, h3⟩ := h
  exact ⟨vs, h1, own_below h2 hb (Nat.le_refl _), fun i vi p hv hl => ⟨own_below (h3 i vi p hv hl).1 hb (Nat.le_refl _), (h3 i vi p hv hl).2⟩⟩
theorem PO.own {w : World} {base : Nat} {v : Value} {ls : List (List Int × List UInt8)} (h : PO w base v ls) : ∃ vs, w.ownsRow base 51 2 v ls.length (pcells ls vs) := by
  obtain ⟨vs, _, h2, _⟩ := h; exact ⟨vs, h2⟩
/-- One piece more. -/
theorem PO.app {w w' : World} {base : Nat} {v v' : Value} {ls : List (List Int × List UInt8)} (vs : List Value) (h1 : vs.length = ls.length) 
    (h3 : ∀ (i : Nat) vi p, vs[i]? = some vi → ls[i]? = some p → w.ownsRow base 5 1 vi p.2.length (bys p.2) ∧ (∀ k, v.ownBlock = some k → vi.ownBlock ≠ some k) ∧ p.1.length = 1 ∧ ∀ z ∈ p.1, i64B z)
    (x : Int) (l : List UInt8) (u : Value) (hx : i64B x) (hu : w.ownsRow base 5 1 u l.length (bys l)) (hun : ∀ k, v.ownBlock = some k → u.ownBlock ≠ some k)
    (ho : w'.ownsRow base 51 2 v' (ls.length + 1) (pcells ls vs ++ [.int .i64 x, u])) (hg : w.grownBy w' v.ownBlock) (hv : v'.ownBlock = v.ownBlock ∨ v'.ownBlock = some w.heap.size) : PO w' base v' (ls ++ [([x], l)]) := by
  have kept : ∀ {z : Value} {n : Nat} {xs : List Value}, w.ownsRow base 5 1 z n xs → (∀ k, v.ownBlock = some k → z.ownBlock ≠ some k) → w'.ownsRow base 5 1 z n xs ∧ ∀ k, v'.ownBlock = some k → z.ownBlock ≠ some k := by
    intro z n xs hz hn
    refine ⟨hz.kept hg ?_, fun k hk he => ?_⟩
    · cases hzb : z.ownBlock with
      | none => exact .inl rfl
      | some k => exact .inr (fun e => hn k e.symm hzb)
    · rcases hv with e | e
      · exact hn k (by rw [← e]; exact hk) he
      · rw [e] at hk; injection hk with hk; have := (hz.lt k he).2; omega
  refine ⟨vs ++ [u], by simp [h1], ?_, fun i vi p hvi hp => ?_⟩
  · have : pcells (ls ++ [([x], l)]) (vs ++ [u]) = pcells ls vs ++ [.int .i64 x, u] := by
      unfold pcells
      rw [List.zip_append h1.symm]
      simp
    rw [this, List.length_append]
    exact ho
  · by_cases hi : i < ls.length
    · rw [List.getElem?_append_left (by omega)] at hvi
      rw [List.getElem?_append_left hi] at hp
      obtain ⟨a, b, c⟩ := h3 i vi p hvi hp
      obtain ⟨k1, k2⟩ := kept a b
      exact ⟨k1, k2, c⟩
    · rw [List.getElem?_append_right (by omega), h1] at hvi
      rw [List.getElem?_append_right (by omega)] at hp
      have hz : i - ls.length = 0 := by
        rcases Nat.eq_zero_or_pos (i - ls.length) with h | h
        · exact h
        · rw [List.getElem?_eq_none (by simp; omega)] at hp; cases hp
      rw [hz] at hvi hp
      simp at hvi hp
      subst hvi hp
      obtain ⟨k1, k2⟩ := kept hu hun
      exact ⟨k1, k2, rfl, by simpa using hx⟩
theorem pcells_at (ls : List (List Int × List UInt8)) (vs : List Value) (h : vs.length = ls.length) (i : Nat) (p : List Int × List UInt8) (u : Value) (hp : ls[i]? = some p) (hu : vs[i]? = some u) :
    (pcells ls vs)[i * 2]? = some (.int .i64 (p.1.headD 0)) ∧ (pcells ls vs)[i * 2 + 1]? = some u := by
  induction ls generalizing vs i with
  | nil => simp at hp
  | cons q r ih =>
    match vs, h with
    | v :: s, h =>
      have e : pcells (q :: r) (v :: s) = .int .i64 (q.1.headD 0) :: v :: pcells r s := by simp [pcells]
      rw [e]
      match i with
      | 0 => simp at hp hu; subst hp hu; simp
      | i + 1 =>
        simp only [List.getElem?_cons_succ] at hp hu
        have := ih s (by simpa using h) i hp hu
        rw [show (i + 1) * 2 = i * 2 + 1 + 1 by omega, show i * 2 + 1 + 1 + 1 = (i * 2 + 1) + 1 + 1 by omega]
        simpa using this
/-- What was made reads as pieces. -/
theorem PO.rd {w : World} {base : Nat} {A : Option Addr} {c n : Nat} {ls : List (List Int × List UInt8)} (h : PO w base (.slice A n c) ls) (hn : ls.length = n) : RdPcs w w.heap.size 1 A n ls := by
  obtain ⟨vs, h1, h2, h3⟩ := h
  refine ⟨hn, fun hp => ?_⟩
  rw [hn] at h2
  obtain ⟨g, c', hv, _, hlt, _⟩ := own_pos h2 hp
  injection hv with hA _ _
  subst hA
  refine ⟨g, 0, rfl, hlt, fun i p hpi => ?_⟩
  have hil : i < ls.length := by
    rcases Nat.lt_or_ge i ls.length with h | h
    · exact h
    · rw [List.getElem?_eq_none h] at hpi; cases hpi
  obtain ⟨u, hvi⟩ : ∃ u, vs[i]? = some u := ⟨_, List.getElem?_eq_getElem (by omega)⟩
  obtain ⟨a1, _, a3, a4⟩ := h3 i _ p hvi hpi
  obtain ⟨c1, c2⟩ := pcells_at ls vs h1 i p _ hpi hvi
  have hc := fun j u (hj : (pcells ls vs)[j]? = some u) => h2.cells (g := g) rfl j u hj
  refine ⟨a3, a4, fun k z hz => ?_, u, ?_, ?_⟩
  · have hk : k = 0 := by
      rcases Nat.eq_zero_or_pos k with h | h
      · exact h
      · rw [List.getElem?_eq_none (by omega)] at hz; cases hz
    subst hk
    have := hc _ _ c1
    rw [addLit] at this
    match hp1 : p.1, a3 with
    | [y], _ =>
      rw [hp1] at hz this
      simp at hz
      subst hz
      simpa using this
  · have := hc _ _ c2
    rw [addLit] at this
    simpa using this
  · obtain ⟨A', c'', hf, hcc, _⟩ := own_form a1
    rw [hf] at a1 ⊢
    exact RdB.mk (Rd.of_own a1) hcc
end Go.Proofs.Ythflnndjjhifeaa
