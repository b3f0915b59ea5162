/- Nodes in memory. -/
import Derived.Test.YtelaliokmmaopaaDoorNod1
namespace Go.Proofs.YtelaliokmmaopaaDoor
open Go.RowKit

/-- A slice of cells. -/
def RdCs (w : World) (B : Nat) (A : Option Addr) (n : Nat) (cs : List CellP) : Prop :=
  cs.length = n ∧ (0 < n → ∃ b o, A = some ⟨b, o, none⟩ ∧ b < B ∧ ∀ i c, cs[i]? = some c → ∃ vk vv, w.cell? ⟨b, o + i * 4, none⟩ = some vk ∧ RdB w B vk c.key ∧ w.cell? ⟨b, o + i * 4 + 1, none⟩ = some vv ∧ RdB w B vv c.val ∧
    w.cell? ⟨b, o + i * 4 + 2, none⟩ = some (.int .i64 c.over) ∧ w.cell? ⟨b, o + i * 4 + 3, none⟩ = some (.int .i64 c.long))
section
variable {w w' : World} {B n : Nat} {A : Option Addr} {cs : List CellP}
theorem RdCs.keep (h : RdCs w B A n cs) (hk : ∀ p : Addr, p.block < B → w'.cell? p = w.cell? p) : RdCs w' B A n cs := by
  refine ⟨h.1, fun hn => ?_⟩
  obtain ⟨b, o, e, hb, hc⟩ := h.2 hn
  refine ⟨b, o, e, hb, fun i c hi => ?_⟩
  obtain ⟨vk, vv, h1, h2, h3, h4, h5, h6⟩ := hc i c hi
  exact ⟨vk, vv, (hk _ hb).trans h1, h2.keep hk, (hk _ hb).trans h3, h4.keep hk, (hk _ hb).trans h5, (hk _ hb).trans h6⟩
theorem RdCs.more {B' : Nat} (h : RdCs w B A n cs) (hB : B ≤ B') : RdCs w B' A n cs := by
  refine ⟨h.1, fun hn => ?_⟩
  obtain ⟨b, o, e, hb, hc⟩ := h.2 hn
  refine ⟨b, o, e, by omega, fun i c hi => ?_⟩
  obtain ⟨vk, vv, h1, h2, h3, h4, h5, h6⟩ := hc i c hi
  exact ⟨vk, vv, h1, h2.more hB, h3, h4.more hB, h5, h6⟩
theorem RdCs.below {C : Nat} (h : RdCs w B A n cs) (hb : Below C w w') (hC : B ≤ C) : RdCs w' B A n cs := h.keep fun _ hp => hb.cell (by omega)
theorem RdCs.alloc (h : RdCs w B A n cs) (hB : B ≤ w.heap.size) (o : Obj) : RdCs (w.alloc o) B A n cs := h.keep fun p hp => World.cell?_alloc_lt w o p (by omega)
theorem RdCs.at_ {k : Nat} (h : RdCs w B A n cs) (hk : k < n) : ∃ b o c Ak nk ck Av nv cv, A = some ⟨b, o, none⟩ ∧ b < B ∧ cs[k]? = some c ∧ w.cell? ⟨b, o + k * 4, none⟩ = some (.slice Ak nk ck) ∧ Rd w B 1 Ak nk (bys c.key) ∧ nk ≤ ck ∧
    w.cell? ⟨b, o + k * 4 + 1, none⟩ = some (.slice Av nv cv) ∧ Rd w B 1 Av nv (bys c.val) ∧ nv ≤ cv ∧ w.cell? ⟨b, o + k * 4 + 2, none⟩ = some (.int .i64 c.over) ∧ w.cell? ⟨b, o + k * 4 + 3, none⟩ = some (.int .i64 c.long) := by
  obtain ⟨b, o, e, hb, hc⟩ := h.2 (by omega)
  have hl : k < cs.length := by have := h.1; omega
  obtain ⟨vk, vv, h1, ⟨Ak, nk, ck, rfl, h2, h2'⟩, h3, ⟨Av, nv, cv, rfl, h4, h4'⟩, h5, h6⟩ := hc k cs[k] (List.getElem?_eq_getElem hl)
  exact ⟨b, o, cs[k], Ak, nk, ck, Av, nv, cv, e, hb, List.getElem?_eq_getElem hl, h1, h2, h2', h3, h4, h4', h5, h6⟩
end
/-- A node as it is handed over. -/
structure NdM where
  A : Option Addr
  n : Nat
  c : Nat
  K : Option Addr
  m : Nat
  d : Nat
def ndC (leaf : Bool) (M : NdM) : Array Value := #[.bool leaf, .slice M.A M.n M.c, .slice M.K M.m M.d]
/-- It reads as the node. -/
structure RdN (w : World) (B : Nat) (M : NdM) (N : NodP) : Prop where
  cs : RdCs w B M.A M.n N.cells
  ks : Rd w B 1 M.K M.m (its N.kids)
  nc : M.n ≤ M.c
  md : M.m ≤ M.d
  cm : M.c ≤ 9223372036854775807
  dm : M.d ≤ 9223372036854775807
section
variable {w w' : World} {B : Nat} {M : NdM} {N : NodP}
theorem RdN.keep (h : RdN w B M N) (hk : ∀ p : Addr, p.block < B → w'.cell? p = w.cell? p) : RdN w' B M N := ⟨h.cs.keep hk, h.ks.keep hk, h.nc, h.md, h.cm, h.dm⟩
theorem RdN.more {B' : Nat} (h : RdN w B M N) (hB : B ≤ B') : RdN w B' M N := ⟨h.cs.more hB, h.ks.more hB, h.nc, h.md, h.cm, h.dm⟩
theorem RdN.below {C : Nat} (h : RdN w B M N) (hb : Below C w w') (hC : B ≤ C) : RdN w' B M N := h.keep fun _ hp => hb.cell (by omega)
theorem RdN.alloc (h : RdN w B M N) (hB : B ≤ w.heap.size) (o : Obj) : RdN (w.alloc o) B M N := h.keep fun p hp => World.cell?_alloc_lt w o p (by omega)
theorem RdN.len (h : RdN w B M N) : N.cells.length = M.n ∧ N.kids.length = M.m := ⟨h.cs.1, h.ks.ilen⟩
end
end Go.Proofs.YtelaliokmmaopaaDoor
