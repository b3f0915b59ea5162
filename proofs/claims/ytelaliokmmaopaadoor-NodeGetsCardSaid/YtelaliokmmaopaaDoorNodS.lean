/- The document's at; what the memory is while it reads a node. -/
import Derived.Test.YtelaliokmmaopaaDoorNodN
import Derived.Test.YtelaliokmmaopaaDoorWord2
namespace Go.Proofs.YtelaliokmmaopaaDoor
open Go.RowKit
attribute [local go_sem ↓] Go.wp_at_zero Go.wp_at_succ

/-- A number at a place; -1: it isn't there. -/
def atI (L : List UInt8) (n p x : Nat) : Int := if p + x ≤ n then nAt L p x else -1
set_option maxHeartbeats 1000000 in
theorem rat_any (A : Option Addr) (n c p x : Nat) (L : List UInt8) (w : World) {B : Nat} (hr : Rd w B 1 A n (bys L)) (hB : B ≤ w.heap.size) (hnc : n ≤ c) (hn : n ≤ 1000000) (hp : p ≤ 10000000) (hx : x ≤ 7) :
    Calls Tryd.prog 26 #[.slice A n c, .int .i64 p, .int .i64 x] w fun e w' => e = .returned (.int .i64 (atI L n p x)) ∧ w' = w := by
  unfold atI
  by_cases h : p + x ≤ n
  · rw [if_pos h]
    have h' : ¬ (n : Int) < (p : Int) + (x : Int) := by omega
    go_enter Tryd.func26, Tryd.ntmps26
    go_wp2_with (first
      | ((with_reducible refine at_slice ?_)
         refine cut_bys hr hnc p x h rfl rfl rfl rfl rfl rfl ?_
         intro A' c' hr' _ _)
      | (go_at_call 51; refine (number_any _ _ _ _ _ (hr'.more hB) hx).mono ?_; rintro e w1 ⟨rfl, rfl⟩))
    go_ret
    exact ⟨rfl, by first | rfl | trivial⟩
  · rw [if_neg h]
    have h' : (n : Int) < (p : Int) + (x : Int) := by omega
    go_enter Tryd.func26, Tryd.ntmps26
    go_wp2_with fail
    go_ret
    exact ⟨rfl, by first | rfl | trivial⟩
/-- The node so far, and the place of the result. -/
structure GT (w W : World) (nb : Nat) (lf : Bool) (vc vk : Value) (cs : List CellP) (ks : List Int) : Prop where
  bw : Below w.heap.size w W
  rs : Bk W w.heap.size 32 #[.bool false, .slice none 0 0, .slice none 0 0, .bool false]
  nn : w.heap.size < nb
  nd : Bk W nb 27 #[.bool lf, vc, vk]
  oc : OwC W w.heap.size w.heap.size vc cs
  ok : W.ownsRow w.heap.size 3 1 vk ks.length (its ks)
section
variable {w W W' : World} {nb : Nat} {lf : Bool} {vc vk : Value} {cs : List CellP} {ks : List Int}
theorem GT.below (h : GT w W nb lf vc vk cs ks) (hb : Below W.heap.size W W') : GT w W' nb lf vc vk cs ks :=
  ⟨h.bw.trans (hb.mono h.bw.size), Bk.below h.rs hb h.rs.lt, h.nn, Bk.below h.nd hb h.nd.lt, h.oc.k8 (K8.below hb (Nat.le_refl _)) (K8.below hb (Nat.le_refl _)) h.bw.size, own_k8 (B := 0) h.ok (K8.below hb (Nat.le_refl _))⟩
theorem GT.alloc (h : GT w W nb lf vc vk cs ks) (o : Obj) : GT w (W.alloc o) nb lf vc vk cs ks := h.below ((Below.refl _ _).alloc (Nat.le_refl _) o)
theorem GT.drew (h : GT w W nb lf vc vk cs ks) : GT w W.drew nb lf vc vk cs ks := h.below (Below.refl _ _).drew
theorem GT.kid {v6 : Value} {ks' : List Int} (h : GT w W nb lf vc vk cs ks) (hg : W.grownBy W' vk.ownBlock) (ho : W'.ownsRow w.heap.size 3 1 v6 ks'.length (its ks')) :
    W'.frozen? ⟨nb, 2, none⟩ = false ∧ W'.cell? ⟨nb, 2, none⟩ = some vk ∧ GT w (W'.setCell ⟨nb, 2, none⟩ v6) nb lf vc v6 cs ks' := by
  have hn : Bk W' nb 27 #[.bool lf, vc, vk] := h.nd.grown hg (fun e => own_ne h.ok h.nd (by decide) e.symm)
  have hb : Below w.heap.size w W' := h.bw.grown hg h.bw.size (fun k hk => (h.ok.lt k hk).1)
  have hrs := h.rs.grown hg (fun e => own_ne h.ok h.rs (by decide) e.symm)
  have h2 := hn.set 2 v6
  simp only [List.setIfInBounds_toArray, List.set_cons_zero, List.set_cons_succ] at h2
  have hp : w.heap.size ≤ nb := by have := h.nn; omega
  have k1 : K8 w.heap.size 5 W (W'.setCell ⟨nb, 2, none⟩ v6) := (K8.grown hg h.ok (by decide) (Nat.le_refl _)).set (p := ⟨nb, 2, none⟩) hp h.nd (by decide) _
  have k2 : K8 w.heap.size 42 W (W'.setCell ⟨nb, 2, none⟩ v6) := (K8.grown hg h.ok (by decide) (Nat.le_refl _)).set (p := ⟨nb, 2, none⟩) hp h.nd (by decide) _
  have k3 : K8 w.heap.size 3 W' (W'.setCell ⟨nb, 2, none⟩ v6) := K8.refl.set (p := ⟨nb, 2, none⟩) hp hn (by decide) _
  exact ⟨hn.free 2, hn.cell 2, hb.setCell (p := ⟨nb, 2, none⟩) hp _, hrs.far (p := ⟨nb, 2, none⟩) (by have := h.nn; show w.heap.size ≠ nb; omega) _, h.nn, h2, h.oc.k8 k1 k2 h.bw.size, own_k8 ho k3⟩
theorem GT.cel {v6 : Value} {cs' : List CellP} (h : GT w W nb lf vc vk cs ks) (hg : W.grownBy W' vc.ownBlock) (ho : OwC W' w.heap.size w.heap.size v6 cs') :
    W'.frozen? ⟨nb, 1, none⟩ = false ∧ W'.cell? ⟨nb, 1, none⟩ = some vc ∧ GT w (W'.setCell ⟨nb, 1, none⟩ v6) nb lf v6 vk cs' ks := by
  obtain ⟨xs, hx⟩ := h.oc.own
  have hn : Bk W' nb 27 #[.bool lf, vc, vk] := h.nd.grown hg (fun e => own_ne hx h.nd (by decide) e.symm)
  have hb : Below w.heap.size w W' := h.bw.grown hg h.bw.size (fun k hk => (hx.lt k hk).1)
  have hrs := h.rs.grown hg (fun e => own_ne hx h.rs (by decide) e.symm)
  have h2 := hn.set 1 v6
  simp only [List.setIfInBounds_toArray, List.set_cons_zero, List.set_cons_succ] at h2
  have hp : w.heap.size ≤ nb := by have := h.nn; omega
  have k1 : K8 w.heap.size 5 W' (W'.setCell ⟨nb, 1, none⟩ v6) := K8.refl.set (p := ⟨nb, 1, none⟩) hp hn (by decide) _
  have k2 : K8 w.heap.size 42 W' (W'.setCell ⟨nb, 1, none⟩ v6) := K8.refl.set (p := ⟨nb, 1, none⟩) hp hn (by decide) _
  have k3 : K8 w.heap.size 3 W (W'.setCell ⟨nb, 1, none⟩ v6) := (K8.grown hg hx (by decide) (Nat.le_refl _)).set (p := ⟨nb, 1, none⟩) hp h.nd (by decide) _
  exact ⟨hn.free 1, hn.cell 1, hb.setCell (p := ⟨nb, 1, none⟩) hp _, hrs.far (p := ⟨nb, 1, none⟩) (by have := h.nn; show w.heap.size ≠ nb; omega) _, h.nn, h2, ho.k8 k1 k2 hb.size, own_k8 h.ok k3⟩
/-- The node is handed back. -/
theorem GT.done {w5 : World} {Ac Ak : Option Addr} {cc ck : Nat} (h : GT w W nb lf (.slice Ac cs.length cc) (.slice Ak ks.length ck) cs ks) (hb : Below W.heap.size W w5) (x y z u : Value) :
    RdN ((((w5.setCell ⟨w.heap.size, 0, none⟩ x).setCell ⟨w.heap.size, 1, none⟩ y).setCell ⟨w.heap.size, 2, none⟩ z).setCell ⟨w.heap.size, 3, none⟩ u) ((((w5.setCell ⟨w.heap.size, 0, none⟩ x).setCell ⟨w.heap.size, 1, none⟩ y).setCell ⟨w.heap.size, 2, none⟩ z).setCell ⟨w.heap.size, 3, none⟩ u).heap.size ⟨Ac, cs.length, cc, Ak, ks.length, ck⟩ ⟨lf, cs, ks⟩ ∧
    Below w.heap.size w ((((w5.setCell ⟨w.heap.size, 0, none⟩ x).setCell ⟨w.heap.size, 1, none⟩ y).setCell ⟨w.heap.size, 2, none⟩ z).setCell ⟨w.heap.size, 3, none⟩ u) := by
  have hb5 : Below w.heap.size w w5 := h.bw.trans (hb.mono h.bw.size)
  have hw : Below w.heap.size w ((((w5.setCell ⟨w.heap.size, 0, none⟩ x).setCell ⟨w.heap.size, 1, none⟩ y).setCell ⟨w.heap.size, 2, none⟩ z).setCell ⟨w.heap.size, 3, none⟩ u) := (((hb5.setCell (p := ⟨w.heap.size, 0, none⟩) (Nat.le_refl _) _).setCell (p := ⟨w.heap.size, 1, none⟩) (Nat.le_refl _) _).setCell (p := ⟨w.heap.size, 2, none⟩) (Nat.le_refl _) _).setCell (p := ⟨w.heap.size, 3, none⟩) (Nat.le_refl _) _
  have kk : ∀ t, 32 ≠ t → K8 w.heap.size t W ((((w5.setCell ⟨w.heap.size, 0, none⟩ x).setCell ⟨w.heap.size, 1, none⟩ y).setCell ⟨w.heap.size, 2, none⟩ z).setCell ⟨w.heap.size, 3, none⟩ u) := fun t ht =>
    ((((K8.below hb (Nat.le_refl _) : K8 w.heap.size t W w5).set (p := ⟨w.heap.size, 0, none⟩) (Nat.le_refl _) h.rs ht _).set (p := ⟨w.heap.size, 1, none⟩) (Nat.le_refl _) h.rs ht _).set (p := ⟨w.heap.size, 2, none⟩) (Nat.le_refl _) h.rs ht _).set (p := ⟨w.heap.size, 3, none⟩) (Nat.le_refl _) h.rs ht _
  have hoc := h.oc.k8 (kk _ (by decide)) (kk _ (by decide)) h.bw.size
  have hok := own_k8 h.ok (kk _ (by decide))
  obtain ⟨_, _, e1, h1, h2⟩ := h.oc.form
  obtain ⟨_, _, e2, h3, h4⟩ := own_form h.ok
  injection e1 with _ _ e1
  injection e2 with _ _ e2
  subst e1 e2
  unfold maxLen at h2 h4
  exact ⟨⟨hoc.rdcs hw.size, Rd.of_own hok, h1, h3, h2, h4⟩, hw⟩
theorem CB.below {h : Nat} {u1 u2 : Value} {cl : CellP} (hb : CB w W h u1 u2 cl) (hB : w.heap.size ≤ W.heap.size) (hk : Below W.heap.size W W') : CB w W' h u1 u2 cl :=
  ⟨Bk.below hb.bk hk hb.bk.lt, hb.ky.k8 (K8.below hk (Nat.le_refl _)) hB, hb.vl.k8 (K8.below hk (Nat.le_refl _)) hB⟩
theorem CB.kidT {h : Nat} {u1 u2 v6 : Value} {cl : CellP} (hb : CB w W h u1 u2 cl) (hs : GT w W nb lf vc vk cs ks) (hg : W.grownBy W' vk.ownBlock) : CB w (W'.setCell ⟨nb, 2, none⟩ v6) h u1 u2 cl := by
  have hp : w.heap.size ≤ nb := by have := hs.nn; omega
  have k1 : K8 w.heap.size 5 W (W'.setCell ⟨nb, 2, none⟩ v6) := (K8.grown hg hs.ok (by decide) (Nat.le_refl _)).set (p := ⟨nb, 2, none⟩) hp hs.nd (by decide) _
  refine ⟨Bk.far (p := ⟨nb, 2, none⟩) (hb.bk.grown hg (fun e => own_ne hs.ok hb.bk (by decide) e.symm)) (fun e => Bk.ne hb.bk hs.nd (by decide) e) _, hb.ky.k8 k1 hs.bw.size, hb.vl.k8 k1 hs.bw.size⟩
end
end Go.Proofs.YtelaliokmmaopaaDoor
