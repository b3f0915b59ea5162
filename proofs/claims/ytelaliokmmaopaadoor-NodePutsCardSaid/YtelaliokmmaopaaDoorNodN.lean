/- What the memory is while bytes are read as a node. -/
import Derived.Test.YtelaliokmmaopaaDoorNodM
namespace Go.Proofs.YtelaliokmmaopaaDoor
open Go.RowKit

/-- The reader, the node so far, and the place of the result. -/
structure GS (w W : World) (g nb : Nat) (A : Option Addr) (n c : Nat) (lf : Bool) (vc vk : Value) (cs : List CellP) (ks : List Int) (p : Nat) (wl : Bool) : Prop where
  gg : w.heap.size < g
  bw : Below w.heap.size w W
  rd : NR W g A n c p wl
  rs : Bk W w.heap.size 27 #[.bool false, .slice none 0 0, .slice none 0 0]
  nn : w.heap.size < nb
  nd : Bk W nb 27 #[.bool lf, vc, vk]
  oc : OwC W w.heap.size w.heap.size vc cs
  ok : W.ownsRow w.heap.size 3 1 vk ks.length (its ks)
section
variable {w W W' : World} {g nb : Nat} {A : Option Addr} {n c : Nat} {lf : Bool} {vc vk : Value} {cs : List CellP} {ks : List Int} {p : Nat} {wl : Bool}
theorem ch_k8 {t : TypeId} (hr : NR W g A n c p wl) (hg : w.heap.size < g) (hc : Ch (fun i => i = g) W W') (hne : 50 ≠ t) : K8 w.heap.size t W W' :=
  K8.of_ch hc (fun i hi => by subst hi; exact ⟨by omega, fun cs hb => Bk.ne hr hb hne rfl⟩)
theorem GS.ch {p' : Nat} {wl' : Bool} (h : GS w W g nb A n c lf vc vk cs ks p wl) (hc : Ch (fun i => i = g) W W') (hr : NR W' g A n c p' wl') : GS w W' g nb A n c lf vc vk cs ks p' wl' :=
  ⟨h.gg, h.bw.trans (hc.below h.bw.size (fun i hi => by have := h.gg; omega)), hr, h.rs.ch hc (by have := h.gg; omega), h.nn, h.nd.ch hc (fun e => Bk.ne h.rd h.nd (by decide) e.symm),
    h.oc.k8 (ch_k8 h.rd h.gg hc (by decide)) (ch_k8 h.rd h.gg hc (by decide)) h.bw.size, own_k8 h.ok (ch_k8 h.rd h.gg hc (by decide))⟩
theorem GS.alloc (h : GS w W g nb A n c lf vc vk cs ks p wl) (o : Obj) : GS w (W.alloc o) g nb A n c lf vc vk cs ks p wl :=
  ⟨h.gg, h.bw.alloc h.bw.size o, Bk.alloc h.rd o, h.rs.alloc o, h.nn, h.nd.alloc o, h.oc.k8 (K8.refl.alloc o) (K8.refl.alloc o) h.bw.size, own_k8 (B := 0) h.ok (K8.refl.alloc o)⟩
theorem GS.drew (h : GS w W g nb A n c lf vc vk cs ks p wl) : GS w W.drew g nb A n c lf vc vk cs ks p wl :=
  ⟨h.gg, h.bw.drew, Bk.drew h.rd, h.rs.drew, h.nn, h.nd.drew, h.oc.k8 K8.refl.drew K8.refl.drew h.bw.size, own_k8 (B := 0) h.ok K8.refl.drew⟩
/-- A child more. -/
theorem GS.kid {v6 : Value} {ks' : List Int} (h : GS w W g nb A n c lf vc vk cs ks p wl) (hg : W.grownBy W' vk.ownBlock) (ho : W'.ownsRow w.heap.size 3 1 v6 ks'.length (its ks')) :
    W'.frozen? ⟨nb, 2, none⟩ = false ∧ W'.cell? ⟨nb, 2, none⟩ = some vk ∧ GS w (W'.setCell ⟨nb, 2, none⟩ v6) g nb A n c lf vc v6 cs ks' p wl := by
  have hn : Bk W' nb 27 #[.bool lf, vc, vk] := h.nd.grown hg (fun e => own_ne h.ok h.nd (by decide) e.symm)
  have hb : Below w.heap.size w W' := h.bw.grown hg h.bw.size (fun k hk => (h.ok.lt k hk).1)
  have hr : NR W' g A n c p wl := Bk.grown h.rd hg (fun e => own_ne h.ok h.rd (by decide) e.symm)
  have hrs := h.rs.grown hg (fun e => own_ne h.ok h.rs (by decide) e.symm)
  have h2 := hn.set 2 v6
  simp only [List.setIfInBounds_toArray, List.set_cons_zero, List.set_cons_succ] at h2
  have hgn : g ≠ nb := fun e => by subst e; exact Bk.ne h.rd h.nd (by decide) rfl
  have k1 : K8 w.heap.size 5 W (W'.setCell ⟨nb, 2, none⟩ v6) := (K8.grown hg h.ok (by decide) (Nat.le_refl _)).set (p := ⟨nb, 2, none⟩) (by have := h.nn; show w.heap.size ≤ nb; omega) h.nd (by decide) _
  have k2 : K8 w.heap.size 42 W (W'.setCell ⟨nb, 2, none⟩ v6) := (K8.grown hg h.ok (by decide) (Nat.le_refl _)).set (p := ⟨nb, 2, none⟩) (by have := h.nn; show w.heap.size ≤ nb; omega) h.nd (by decide) _
  have k3 : K8 w.heap.size 3 W' (W'.setCell ⟨nb, 2, none⟩ v6) := K8.refl.set (p := ⟨nb, 2, none⟩) (by have := h.nn; show w.heap.size ≤ nb; omega) hn (by decide) _
  exact ⟨hn.free 2, hn.cell 2, h.gg, hb.setCell (p := ⟨nb, 2, none⟩) (by have := h.nn; show w.heap.size ≤ nb; omega) _, Bk.far (p := ⟨nb, 2, none⟩) hr hgn _, hrs.far (p := ⟨nb, 2, none⟩) (by have := h.nn; show w.heap.size ≠ nb; omega) _, h.nn, h2, h.oc.k8 k1 k2 h.bw.size, own_k8 ho k3⟩
/-- A cell more. -/
theorem GS.cel {v6 : Value} {cs' : List CellP} (h : GS w W g nb A n c lf vc vk cs ks p wl) (hg : W.grownBy W' vc.ownBlock) (ho : OwC W' w.heap.size w.heap.size v6 cs') :
    W'.frozen? ⟨nb, 1, none⟩ = false ∧ W'.cell? ⟨nb, 1, none⟩ = some vc ∧ GS w (W'.setCell ⟨nb, 1, none⟩ v6) g nb A n c lf v6 vk cs' ks p wl := by
  obtain ⟨xs, hx⟩ := h.oc.own
  have hn : Bk W' nb 27 #[.bool lf, vc, vk] := h.nd.grown hg (fun e => own_ne hx h.nd (by decide) e.symm)
  have hb : Below w.heap.size w W' := h.bw.grown hg h.bw.size (fun k hk => (hx.lt k hk).1)
  have hr : NR W' g A n c p wl := Bk.grown h.rd hg (fun e => own_ne hx h.rd (by decide) e.symm)
  have hrs := h.rs.grown hg (fun e => own_ne hx h.rs (by decide) e.symm)
  have h2 := hn.set 1 v6
  simp only [List.setIfInBounds_toArray, List.set_cons_zero, List.set_cons_succ] at h2
  have hgn : g ≠ nb := fun e => by subst e; exact Bk.ne h.rd h.nd (by decide) rfl
  have hp : w.heap.size ≤ nb := by have := h.nn; omega
  have k1 : K8 w.heap.size 5 W' (W'.setCell ⟨nb, 1, none⟩ v6) := K8.refl.set (p := ⟨nb, 1, none⟩) hp hn (by decide) _
  have k2 : K8 w.heap.size 42 W' (W'.setCell ⟨nb, 1, none⟩ v6) := K8.refl.set (p := ⟨nb, 1, none⟩) hp hn (by decide) _
  have k3 : K8 w.heap.size 3 W (W'.setCell ⟨nb, 1, none⟩ v6) := (K8.grown hg hx (by decide) (Nat.le_refl _)).set (p := ⟨nb, 1, none⟩) hp h.nd (by decide) _
  exact ⟨hn.free 1, hn.cell 1, h.gg, hb.setCell (p := ⟨nb, 1, none⟩) hp _, Bk.far (p := ⟨nb, 1, none⟩) hr hgn _, hrs.far (p := ⟨nb, 1, none⟩) (by have := h.nn; show w.heap.size ≠ nb; omega) _, h.nn, h2, ho.k8 k1 k2 hb.size, own_k8 h.ok k3⟩
/-- The node is handed back. -/
theorem GS.done {w5 : World} {Ac Ak : Option Addr} {cc ck : Nat} (h : GS w W g nb A n c lf (.slice Ac cs.length cc) (.slice Ak ks.length ck) cs ks p wl) (hb : Below W.heap.size W w5) (q : Nat) (x y z : Value) :
    RdN ((((w5.drewN q).setCell ⟨w.heap.size, 0, none⟩ x).setCell ⟨w.heap.size, 1, none⟩ y).setCell ⟨w.heap.size, 2, none⟩ z) ((((w5.drewN q).setCell ⟨w.heap.size, 0, none⟩ x).setCell ⟨w.heap.size, 1, none⟩ y).setCell ⟨w.heap.size, 2, none⟩ z).heap.size ⟨Ac, cs.length, cc, Ak, ks.length, ck⟩ ⟨lf, cs, ks⟩ ∧
    Below w.heap.size w ((((w5.drewN q).setCell ⟨w.heap.size, 0, none⟩ x).setCell ⟨w.heap.size, 1, none⟩ y).setCell ⟨w.heap.size, 2, none⟩ z) := by
  have hb5 : Below w.heap.size w (w5.drewN q) := below_drewN (h.bw.trans (hb.mono h.bw.size)) q
  have hw : Below w.heap.size w ((((w5.drewN q).setCell ⟨w.heap.size, 0, none⟩ x).setCell ⟨w.heap.size, 1, none⟩ y).setCell ⟨w.heap.size, 2, none⟩ z) := ((hb5.setCell (p := ⟨w.heap.size, 0, none⟩) (Nat.le_refl _) _).setCell (p := ⟨w.heap.size, 1, none⟩) (Nat.le_refl _) _).setCell (p := ⟨w.heap.size, 2, none⟩) (Nat.le_refl _) _
  have kk : ∀ t, 27 ≠ t → K8 w.heap.size t W ((((w5.drewN q).setCell ⟨w.heap.size, 0, none⟩ x).setCell ⟨w.heap.size, 1, none⟩ y).setCell ⟨w.heap.size, 2, none⟩ z) := fun t ht => by
    have h0 : K8 w.heap.size t W (w5.drewN q) := ⟨hb.size, fun i hi _ => hb.block i hi⟩
    exact ((h0.set (p := ⟨w.heap.size, 0, none⟩) (Nat.le_refl _) h.rs ht _).set (p := ⟨w.heap.size, 1, none⟩) (Nat.le_refl _) h.rs ht _).set (p := ⟨w.heap.size, 2, none⟩) (Nat.le_refl _) h.rs ht _
  have hoc := h.oc.k8 (kk _ (by decide)) (kk _ (by decide)) h.bw.size
  have hok := own_k8 h.ok (kk _ (by decide))
  obtain ⟨_, _, e1, h1, h2⟩ := h.oc.form
  obtain ⟨_, _, e2, h3, h4⟩ := own_form h.ok
  injection e1 with _ _ e1
  injection e2 with _ _ e2
  subst e1 e2
  unfold maxLen at h2 h4
  exact ⟨⟨hoc.rdcs hw.size, Rd.of_own hok, h1, h3, h2, h4⟩, hw⟩
/-- A cell that is being read. -/
structure CB (w W : World) (h : Nat) (vk vv : Value) (cl : CellP) : Prop where
  bk : Bk W h 42 #[vk, vv, .int .i64 cl.over, .int .i64 cl.long]
  ky : KeyR W w.heap.size w.heap.size vk cl.key
  vl : KeyR W w.heap.size w.heap.size vv cl.val
theorem CB.ch {h : Nat} {u1 u2 : Value} {cl : CellP} (hb : CB w W h u1 u2 cl) (hr : NR W g A n c p wl) (hg : w.heap.size < g) (hB : w.heap.size ≤ W.heap.size) (hc : Ch (fun i => i = g) W W') : CB w W' h u1 u2 cl :=
  ⟨hb.bk.ch hc (fun e => Bk.ne hr hb.bk (by decide) e.symm), hb.ky.k8 (ch_k8 hr hg hc (by decide)) hB, hb.vl.k8 (ch_k8 hr hg hc (by decide)) hB⟩
theorem CB.alloc {h : Nat} {u1 u2 : Value} {cl : CellP} (hb : CB w W h u1 u2 cl) (hB : w.heap.size ≤ W.heap.size) (o : Obj) : CB w (W.alloc o) h u1 u2 cl :=
  ⟨hb.bk.alloc o, hb.ky.k8 (K8.refl.alloc o) hB, hb.vl.k8 (K8.refl.alloc o) hB⟩
theorem CB.drew {h : Nat} {u1 u2 : Value} {cl : CellP} (hb : CB w W h u1 u2 cl) (hB : w.heap.size ≤ W.heap.size) : CB w W.drew h u1 u2 cl :=
  ⟨hb.bk.drew, hb.ky.k8 K8.refl.drew hB, hb.vl.k8 K8.refl.drew hB⟩
theorem CB.kid {h : Nat} {u1 u2 v6 : Value} {cl : CellP} (hb : CB w W h u1 u2 cl) (hs : GS w W g nb A n c lf vc vk cs ks p wl) (hg : W.grownBy W' vk.ownBlock) : CB w (W'.setCell ⟨nb, 2, none⟩ v6) h u1 u2 cl := by
  have k1 : K8 w.heap.size 5 W (W'.setCell ⟨nb, 2, none⟩ v6) := (K8.grown hg hs.ok (by decide) (Nat.le_refl _)).set (p := ⟨nb, 2, none⟩) (by have := hs.nn; show w.heap.size ≤ nb; omega) hs.nd (by decide) _
  refine ⟨Bk.far (p := ⟨nb, 2, none⟩) (hb.bk.grown hg (fun e => own_ne hs.ok hb.bk (by decide) e.symm)) (fun e => Bk.ne hb.bk hs.nd (by decide) e) _, hb.ky.k8 k1 hs.bw.size, hb.vl.k8 k1 hs.bw.size⟩
end
end Go.Proofs.YtelaliokmmaopaaDoor
