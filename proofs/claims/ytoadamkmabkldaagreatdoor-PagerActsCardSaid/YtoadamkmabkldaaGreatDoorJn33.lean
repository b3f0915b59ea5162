/- The document's pages in memory: Copy (written by wip/pgtk.py). -/
import Derived.Test.YtoadamkmabkldaaGreatDoorJn32
set_option linter.unusedVariables false
set_option linter.unusedSimpArgs false
namespace Go.Proofs.YtoadamkmabkldaaGreatDoor
open Go.RowKit Go.Shelf
attribute [local go_sem ↓] Go.wp_at_zero Go.wp_at_succ
/-- A copy: its own blocks, and one that is not written. -/
def CoR (w w' : World) (K : Nat → Prop) (s2 : Nat) (st : StP) : Prop := ∃ O2 K2 : Nat → Prop, RfA w' O2 (fun i => K i ∨ K2 i) s2 st ∧ (∀ i, O2 i → w.heap.size ≤ i ∧ i < w'.heap.size) ∧ (∀ i, K2 i → w.heap.size ≤ i ∧ i < w'.heap.size) ∧ (∀ i, O2 i → ¬ K2 i) ∧ Below w.heap.size w w'
/-- The memory behind the making. -/
structure CoW (w W : World) (x : Nat) (a b c : Value) : Prop where
  hd : Bk W x 78 #[a, b, c]
  bl : Below w.heap.size w W
theorem CoW.drew {w W : World} {x : Nat} {a b c : Value} (h : CoW w W x a b c) : CoW w W.drew x a b c := ⟨h.hd.drew, h.bl.drew⟩
theorem CoW.drewN {w W : World} {x : Nat} {a b c : Value} (h : CoW w W x a b c) (q : Nat) : CoW w (W.drewN q) x a b c := ⟨h.hd.drewN q, below_drewN h.bl q⟩
/-- A store to a field, behind an append. -/
theorem CoW.put {w W W2 : World} {x k : Nat} {a b c v : Value} {a2 b2 c2 : Value} (h : CoW w W x a b c) (hg : W.grownBy W2 none) (hx : w.heap.size ≤ x) (hv : (#[a, b, c] : Array Value).setIfInBounds k v = #[a2, b2, c2]) : CoW w (W2.setCell ⟨x, k, none⟩ v) x a2 b2 c2 ∧ Bk W2 x 78 #[a, b, c] ∧ Below w.heap.size w W2 := by
  have hb := h.hd.grown hg (by simp)
  have hB : Below w.heap.size w W2 := h.bl.grown hg h.bl.size (by simp)
  refine ⟨⟨?_, hB.setCell hx v⟩, hb, hB⟩
  have := hb.set k v
  rw [hv] at this
  exact this
theorem own_put {W2 : World} {base n x k : Nat} {e : TypeId} {v u : Value} {xs : List Value} {cs : Array Value} (h : W2.ownsRow base e 1 v n xs) (hb : Bk W2 x 78 cs) (he : e ≠ 78) : (W2.setCell ⟨x, k, none⟩ u).ownsRow base e 1 v n xs := own_same h (fun i hi => by
  refine Below.heap_setCell W2 ⟨x, k, none⟩ u i ?_
  rintro rfl
  rcases h.2 with ⟨h2, _⟩ | ⟨g, cap, cur, rfl, h3, h4, h5⟩
  · rw [h2] at hi; cases hi
  · simp [Value.ownBlock] at hi
    subst hi
    unfold Bk at hb
    rw [hb] at h4
    injection h4 with h4
    injection h4 with _ h4 _
    exact he h4.symm)
theorem own_quN {W : World} {base n : Nat} {v : Value} {q : List Nat} (h : W.ownsRow base 3 1 v n (its (natI q))) : QuN W 0 v q ∧ ∀ i, v.ownBlock = some i → ∃ cs, Bk W i 3 cs := by
  have hn : q.length = n := by have := h.1; simpa [its, natI] using this
  rcases h.2 with ⟨h1, h2⟩ | ⟨g, cap, cur, rfl, h3, h4, h5, h6, h7, h8⟩
  · subst h1
    refine ⟨.inl ⟨rfl, List.length_eq_zero_iff.1 (by omega)⟩, fun i hi => by cases hi⟩
  · refine ⟨.inr ⟨⟨g, 0, none⟩, n, cap, rfl, (Array.getElem?_eq_some_iff.1 h4).1, hn, by omega, h6, .inr ⟨g, 0, cur, rfl, Nat.zero_le _, h4, by omega, by rw [List.drop_zero]; have := h8; rw [Nat.mul_one] at this; exact this⟩⟩, fun i hi => ?_⟩
    have : g = i := by simpa [Value.ownBlock] using hi
    subst this
    exact ⟨cur, h4⟩
/-- The end of a copy. -/
theorem co_end {w W1 W2 w3 : World} {nL nF nR c1 c2 c3 s cL cF cR : Nat} {A1 A2 A3 AL AF AR : Option Addr} {st : StP} {cs : List Value} {t : Nat → SlT} {K : Nat → Prop} {cz : Array Value} (hnL : nL = st.L.length) (hnF : nF = st.free.length) (hnR : nR = st.roots.length)
    (hM : RfM w s st (.slice AL nL cL) (.slice AF nF cF) (.slice AR nR cR) cs t) (hK : ∀ i, RfImm st (.slice AF st.free.length cF) t i → K i) (h1 : W1.ownsRow (w.heap.size + 1) 22 1 (.slice A1 nL c1) nL cs)
    (h2 : W2.ownsRow (w.heap.size + 1) 22 1 (.slice A1 nL c1) nL cs ∧ W2.ownsRow W1.heap.size 3 1 (.slice A2 nF c2) nF (its (natI st.free)) ∧ W1.heap.size ≤ W2.heap.size) (h3 : CoW w (w3.setCell ⟨w.heap.size, 2, none⟩ (.slice A3 nR c3)) w.heap.size (.slice A1 nL c1) (.slice A2 nF c2) (.slice A3 nR c3))
    (h4 : w3.ownsRow W2.drew.heap.size 3 1 (.slice A3 nR c3) nR (its (natI st.roots)) ∧ W2.drew.grownBy w3 (Value.slice none 0 0).ownBlock ∧ Bk w3 w.heap.size 78 cz) (hx : w.heap.size < W1.heap.size) : CoR w (w3.setCell ⟨w.heap.size, 2, none⟩ (.slice A3 nR c3)) K w.heap.size st := by
  obtain ⟨k1, k2, k3⟩ := h2
  obtain ⟨g1, g2, g3⟩ := h4
  have hz : W2.heap.size ≤ w3.heap.size := g2.size
  have hg : ∀ i, i < W2.heap.size → w3.heap[i]? = W2.heap[i]? := fun i hi => g2.block i hi (by intro e; cases e)
  have eL : (w3.setCell ⟨w.heap.size, 2, none⟩ (.slice A3 nR c3)).ownsRow (w.heap.size + 1) 22 1 (.slice A1 nL c1) nL cs := own_put (own_same k1 (fun i hi => hg i (k1.lt i hi).2)) g3 (by decide)
  have eF : (w3.setCell ⟨w.heap.size, 2, none⟩ (.slice A3 nR c3)).ownsRow W1.heap.size 3 1 (.slice A2 nF c2) nF (its (natI st.free)) := own_put (own_same k2 (fun i hi => hg i (k2.lt i hi).2)) g3 (by decide)
  have eR : (w3.setCell ⟨w.heap.size, 2, none⟩ (.slice A3 nR c3)).ownsRow W2.heap.size 3 1 (.slice A3 nR c3) nR (its (natI st.roots)) := own_put g1 g3 (by decide)
  refine ⟨RfMut w.heap.size (.slice A1 nL c1) (.slice A3 nR c3), fun i => (Value.slice A2 nF c2).ownBlock = some i, ⟨.slice A1 nL c1, .slice A2 nF c2, .slice A3 nR c3, cs, t, ⟨h3.hd, by rw [← hnL]; exact own_base eL (Nat.zero_le _), by rw [← hnR]; exact own_base eR (Nat.zero_le _), (own_quN eF).1, fun k b a1 a2 => ⟨(hM.rows k b a1 a2).1, (hM.rows k b a1 a2).2.heap (h3.bl.block _ (hM.rows k b a1 a2).2.lt)⟩, (own_quN eF).2, hM.one⟩, fun i hi => hi, fun i hi => ?_⟩, fun i hi => ?_, fun i hi => ?_, fun i hi e => ?_, h3.bl⟩
  · rcases hi with e | e
    · exact .inr e
    · exact .inl (hK i (.inr e))
  · rcases hi with rfl | e | e
    · exact ⟨Nat.le_refl _, h3.hd.lt⟩
    · have := eL.lt i e
      exact ⟨by omega, this.2⟩
    · have := eR.lt i e
      exact ⟨by omega, this.2⟩
  · have := eF.lt i hi
    exact ⟨by omega, this.2⟩
  · have q1 := k2.lt i e
    rcases hi with rfl | e2 | e2
    · omega
    · have := h1.lt i e2; omega
    · have := eR.lt i e2; omega
set_option maxHeartbeats 4000000 in
set_option maxRecDepth 100000 in
theorem copy_any17 (s : Nat) (st : StP) (O K : Nat → Prop) (w : World) (h : RfA w O K s st) (hL : st.L.length ≤ 1000000) (hF : st.free.length ≤ 1000000) (hR : st.roots.length = 8) :
    Calls Tryz.prog 27 #[.pointer (some ⟨s, 0, none⟩)] w fun e w' => ∃ s2, e = .returned (.pointer (some ⟨s2, 0, none⟩)) ∧ CoR w w' K s2 st := by
  obtain ⟨vL, vF, vR, cs, t, hM, hO, hK⟩ := h
  obtain ⟨AL, cL, rfl, hcL, _⟩ := own_form hM.L
  obtain ⟨AF, cF, rfl, hcF, _⟩ := hM.F.form
  obtain ⟨AR, cR, rfl, hcR, _⟩ := own_form hM.R
  have hLb : 0 + st.L.length ≤ 1000000 := by omega
  have hFb : 0 + st.free.length ≤ 1000000 := by omega
  have hRb : 0 + st.roots.length ≤ 1000000 := by omega
  obtain ⟨nL, hnL⟩ : ∃ nL, nL = st.L.length := ⟨_, rfl⟩
  obtain ⟨nF, hnF⟩ : ∃ nF, nF = st.free.length := ⟨_, rfl⟩
  obtain ⟨nR, hnR⟩ : ∃ nR, nR = st.roots.length := ⟨_, rfl⟩
  rw [← hnL] at hM hL hcL hLb
  rw [← hnF] at hM hF hcF hFb
  rw [← hnR] at hM hR hcR hRb
  have HLb := Lib.hid hLb
  have HFb := Lib.hid hFb
  have HRb := Lib.hid hRb
  have HM := Lib.hid hM
  have HK := Lib.hid (And.intro hO (And.intro hK (And.intro hnL (And.intro hnF (And.intro hnR hR)))))
  have H0 := Lib.hid (show CoW w (w.alloc (.cells #[.slice none 0 0, .slice none 0 0, .slice none 0 0] 78)) w.heap.size (.slice none 0 0) (.slice none 0 0) (.slice none 0 0) from ⟨Bk.new w _ _, (Below.refl _ w).alloc (Nat.le_refl _) _⟩)
  have HRL := Lib.hid (show ∀ W, Below w.heap.size w W → Rd W w.heap.size 1 AL nL cs from fun W hb => by
    have hr : Rd w w.heap.size 1 AL nL cs := by have := hM.L; rw [← hnL] at this; exact Rd.of_own this
    exact hr.below hb (Nat.le_refl _))
  have HRF := Lib.hid (show ∀ W, Below w.heap.size w W → Rd W w.heap.size 1 AF nF (its (natI st.free)) from fun W hb => by
    have hr : Rd w w.heap.size 1 AF nF (its (natI st.free)) := hM.F.rd.1
    exact hr.below hb (Nat.le_refl _))
  have HRR := Lib.hid (show ∀ W, Below w.heap.size w W → Rd W w.heap.size 1 AR nR (its (natI st.roots)) from fun W hb => by
    have hr : Rd w w.heap.size 1 AR nR (its (natI st.roots)) := by have := hM.R; rw [← hnR] at this; exact Rd.of_own this
    exact hr.below hb (Nat.le_refl _))
  have HCs := Lib.hid (show ∀ W, Below w.heap.size w W → W.cell? ⟨s, 0, none⟩ = some (.slice AL nL cL) ∧ W.cell? ⟨s, 1, none⟩ = some (.slice AF nF cF) ∧ W.cell? ⟨s, 2, none⟩ = some (.slice AR nR cR) from fun W hb => ⟨(hM.hd.below hb hM.hd.lt).cell 0, (hM.hd.below hb hM.hd.lt).cell 1, (hM.hd.below hb hM.hd.lt).cell 2⟩)
  clear hM hO hK hnL hnF hnR hcL hcF hcR hLb hFb hRb hR
  go_enter Tryz.func27, Tryz.ntmps27
  go_wp2_with fail
  have hS1 : (w.alloc (.cells #[.slice none 0 0, .slice none 0 0, .slice none 0 0] 78)).drew.cell? ⟨w.heap.size, 0, none⟩ = some (.slice none 0 0) ∧ (w.alloc (.cells #[.slice none 0 0, .slice none 0 0, .slice none 0 0] 78)).drew.cell? ⟨s, 0, none⟩ = some (.slice AL nL cL) := ⟨H0.out.drew.hd.cell 0, (HCs.out _ H0.out.drew.bl).1⟩
  go_region_law
    (go_loud ((apply step_apS rfl _ _ rfl (c := cL) (v := .slice none 0 0) (n := 0) (xs := []) (World.ownsRow_nil (w.alloc (.cells #[.slice none 0 0, .slice none 0 0, .slice none 0 0] 78)).drew (w.alloc (.cells #[.slice none 0 0, .slice none 0 0, .slice none 0 0] 78)).drew.heap.size 22 1) (HRL.out (w.alloc (.cells #[.slice none 0 0, .slice none 0 0, .slice none 0 0] 78)).drew H0.out.drew.bl) HM.out.one (Nat.le_refl _) HLb.out); (case hs => kernel_rfl); (case hx => kernel_rfl); intro v1 w1 o1 g1 x1; rw [Nat.zero_add, List.nil_append] at o1; obtain ⟨A1, c1, hv1, hc1, hm1⟩ := own_form o1; subst hv1; obtain ⟨p1, b1, q1⟩ := H0.out.drew.put (k := 0) (v := .slice A1 nL c1) g1 (Nat.le_refl _) rfl; have hT1 : w1.cell? ⟨w.heap.size, 0, none⟩ = some (.slice none 0 0) ∧ w1.cell? ⟨s, 0, none⟩ = some (.slice AL nL cL) := ⟨b1.cell 0, (HCs.out _ q1).1⟩; have f1 := b1.free 0; have P1 := Lib.hid p1; have O1 := Lib.hid (And.intro o1 (And.intro g1 (And.intro b1 x1))); clear p1 o1 g1 b1 x1 q1))
  all_goals
    clear hS1 hT1 f1
    have PP1 := Lib.hid (show CoW w (w1.setCell ⟨w.heap.size, 0, none⟩ (.slice A1 nL c1)) w.heap.size (.slice A1 nL c1) (.slice none 0 0) (.slice none 0 0) ∧ (w1.setCell ⟨w.heap.size, 0, none⟩ (.slice A1 nL c1)).ownsRow (w.heap.size + 1) 22 1 (.slice A1 nL c1) nL cs from ⟨P1.out, own_put (own_base O1.out.1 (by simp)) O1.out.2.2.1 (by decide)⟩)
    generalize w1.setCell ⟨w.heap.size, 0, none⟩ (.slice A1 nL c1) = W1 at *
    have H1 := Lib.hid PP1.out.1
    go_wp2_with fail
    have hS2 : W1.drew.cell? ⟨w.heap.size, 1, none⟩ = some (.slice none 0 0) ∧ W1.drew.cell? ⟨s, 1, none⟩ = some (.slice AF nF cF) := ⟨H1.out.drew.hd.cell 1, (HCs.out _ H1.out.drew.bl).2.1⟩
    go_region_law
      (go_loud ((apply step_apI rfl _ _ rfl (c := cF) (v := .slice none 0 0) (n := 0) (xs := []) (World.ownsRow_nil W1.drew W1.drew.heap.size 3 1) (HRF.out W1.drew H1.out.drew.bl) (its_one _) (Nat.le_refl _) HFb.out); (case hs => kernel_rfl); (case hx => kernel_rfl); intro v2 w2 o2 g2 x2; rw [Nat.zero_add, List.nil_append] at o2; obtain ⟨A2, c2, hv2, hc2, hm2⟩ := own_form o2; subst hv2; obtain ⟨p2, b2, q2⟩ := H1.out.drew.put (k := 1) (v := .slice A2 nF c2) g2 (Nat.le_refl _) rfl; have hT2 : w2.cell? ⟨w.heap.size, 1, none⟩ = some (.slice none 0 0) ∧ w2.cell? ⟨s, 1, none⟩ = some (.slice AF nF cF) := ⟨b2.cell 1, (HCs.out _ q2).2.1⟩; have f2 := b2.free 1; have P2 := Lib.hid p2; have O2 := Lib.hid (And.intro o2 (And.intro g2 (And.intro b2 x2))); clear p2 o2 g2 b2 x2 q2))
    all_goals
      clear hS2 hT2 f2
      have PP2 := Lib.hid (show CoW w (w2.setCell ⟨w.heap.size, 1, none⟩ (.slice A2 nF c2)) w.heap.size (.slice A1 nL c1) (.slice A2 nF c2) (.slice none 0 0) ∧ (w2.setCell ⟨w.heap.size, 1, none⟩ (.slice A2 nF c2)).ownsRow (w.heap.size + 1) 22 1 (.slice A1 nL c1) nL cs ∧ (w2.setCell ⟨w.heap.size, 1, none⟩ (.slice A2 nF c2)).ownsRow W1.heap.size 3 1 (.slice A2 nF c2) nF (its (natI st.free)) ∧ W1.heap.size ≤ (w2.setCell ⟨w.heap.size, 1, none⟩ (.slice A2 nF c2)).heap.size from
        ⟨P2.out, own_put (own_same PP1.out.2 (fun i hi => O2.out.2.1.block i (PP1.out.2.lt i hi).2 (by intro e; cases e))) O2.out.2.2.1 (by decide), own_put O2.out.1 O2.out.2.2.1 (by decide), by have := O2.out.2.1.size; simpa using this⟩)
      generalize w2.setCell ⟨w.heap.size, 1, none⟩ (.slice A2 nF c2) = W2 at *
      have H2 := Lib.hid PP2.out.1
      go_wp2_with fail
      have hS3 : W2.drew.cell? ⟨w.heap.size, 2, none⟩ = some (.slice none 0 0) ∧ W2.drew.cell? ⟨s, 2, none⟩ = some (.slice AR nR cR) := ⟨H2.out.drew.hd.cell 2, (HCs.out _ H2.out.drew.bl).2.2⟩
      go_region_law
        (go_loud ((apply step_apI rfl _ _ rfl (c := cR) (v := .slice none 0 0) (n := 0) (xs := []) (World.ownsRow_nil W2.drew W2.drew.heap.size 3 1) (HRR.out W2.drew H2.out.drew.bl) (its_one _) (Nat.le_refl _) HRb.out); (case hs => kernel_rfl); (case hx => kernel_rfl); intro v3 w3 o3 g3 x3; rw [Nat.zero_add, List.nil_append] at o3; obtain ⟨A3, c3, hv3, hc3, hm3⟩ := own_form o3; subst hv3; obtain ⟨p3, b3, q3⟩ := H2.out.drew.put (k := 2) (v := .slice A3 nR c3) g3 (Nat.le_refl _) rfl; have hT3 : w3.cell? ⟨w.heap.size, 2, none⟩ = some (.slice none 0 0) ∧ w3.cell? ⟨s, 2, none⟩ = some (.slice AR nR cR) := ⟨b3.cell 2, (HCs.out _ q3).2.2⟩; have f3 := b3.free 2; have P3 := Lib.hid p3; have O3 := Lib.hid (And.intro o3 (And.intro g3 (And.intro b3 x3))); clear p3 o3 g3 b3 x3 q3))
      all_goals
        clear hS3 hT3 f3
        go_wp2_with fail
        go_ret
        exact ⟨_, rfl, co_end HK.out.2.2.1 HK.out.2.2.2.1 HK.out.2.2.2.2.1 HM.out HK.out.2.1 PP1.out.2 PP2.out.2 P3.out ⟨O3.out.1, O3.out.2.1, O3.out.2.2.1⟩ H1.out.hd.lt⟩
end Go.Proofs.YtoadamkmabkldaaGreatDoor
/- The document's pages in memory: Is, Drop. -/
namespace Go.Proofs.YtoadamkmabkldaaGreatDoor
open Go.RowKit Go.Shelf
attribute [local go_sem ↓] Go.wp_at_zero Go.wp_at_succ
theorem QuN.cell2 {w : World} {A : Option Addr} {k c j x : Nat} {q : List Nat} (h : QuN w 0 (.slice A k c) q) (hj : q[j]? = some x) : ∃ g o, A = some ⟨g, o, none⟩ ∧ w.cell? ⟨g, o + j, none⟩ = some (.int .i64 (x : Int)) := by
  have hjl := (List.getElem?_eq_some_iff.1 hj).1
  obtain ⟨hr, hk, _, _⟩ := h.rd
  obtain ⟨b, o, u, hA, _, hu, hc⟩ := hr.num (k := j) (by omega)
  refine ⟨b, o, hA, ?_⟩
  rw [hc]
  simp only [natI, List.getElem?_map, hj, Option.map_some, Option.some.injEq] at hu
  rw [← hu]
theorem is_any (s no : Nat) (st : StP) (O K : Nat → Prop) (w : World) (h : RfA w O K s st) (hF : st.free.length ≤ 1000000) :
    Calls Tryz.prog 49 #[.pointer (some ⟨s, 0, none⟩), .int .i64 (no : Int)] w fun e w' => e = .returned (.bool (decide (no ∈ st.free))) ∧ w' = w := by
  obtain ⟨vL, vF, vR, cs, t, hM, _, _⟩ := h
  obtain ⟨AF, cF, rfl, hcF, _⟩ := hM.F.form
  obtain ⟨nF, hnF⟩ : ∃ nF, nF = st.free.length := ⟨_, rfl⟩
  rw [← hnF] at hM hF
  have c1 : w.cell? ⟨s, 1, none⟩ = some (.slice AF nF cF) := hM.hd.cell 1
  have HQ := Lib.hid (And.intro hM.F hnF)
  clear hM hcF hnF
  go_enter Tryz.func49, Tryz.ntmps49
  go_wp2_with fail
  go_loopw [5] (fun s5 wr => ∃ i : Nat, s5 = .int .i64 (i : Int) ∧ i ≤ nF ∧ Hid (wr = w ∧ no ∉ st.free.take i)) (fun s5 _ => nF - (intOf s5).toNat)
  case atStart => exact ⟨0, rfl, Nat.zero_le _, Lib.hid ⟨rfl, by simp⟩⟩
  case round =>
    obtain ⟨i, rfl, hin, HI⟩ := hrel
    obtain ⟨hw, hno⟩ := HI.out
    replace hw := hw.symm
    subst hw
    have HN := Lib.hid hno
    clear hno HI
    by_cases hlt : i < nF
    · obtain ⟨x, hx⟩ : ∃ x, st.free[i]? = some x := ⟨_, List.getElem?_eq_getElem (by have := HQ.out.2; omega)⟩
      obtain ⟨g, o, hA, hc⟩ := HQ.out.1.cell2 hx
      subst hA
      have HX := Lib.hid hx
      clear hx
      have hlt2 : (i : Int) < (nF : Int) := by omega
      by_cases he : x = no
      · subst he
        have hm : x ∈ st.free := List.mem_of_getElem? HX.out
        have hd : decide (x ∈ st.free) = true := by simpa using hm
        have HD := Lib.hid hd
        clear hm hd
        go_wp2_with fail
        go_ret
        rw [HD.out]
        exact ⟨rfl, rfl⟩
      · go_wp2_with fail
        go_roundw
        have hn2 : no ∉ st.free.take (i + 1) := by rw [take_step HX.out, List.mem_append, not_or]; exact ⟨HN.out, by simp; exact fun e => he e.symm⟩
        case rel => exact ⟨i + 1, rfl, by omega, Lib.hid ⟨by first | trivial | rfl, hn2⟩⟩
        case measure => simp [intOf]; omega
    · have hd : decide (no ∈ st.free) = false := by
        have := HN.out
        rw [List.take_of_length_le (by have := HQ.out.2; omega)] at this
        simpa using this
      have HD := Lib.hid hd
      clear hd
      go_wp2_with fail
      go_ret
      rw [HD.out]
      exact ⟨rfl, rfl⟩
/-- .. behind a call that changes it. -/
def RfX (w w' : World) (O K : Nat → Prop) (s : Nat) (st : StP) : Prop := ∃ O' K' : Nat → Prop, RfA w' O' K' s st ∧ (∀ i, O' i → O i ∨ (w.heap.size ≤ i ∧ i < w'.heap.size)) ∧ (∀ i, K' i → K i ∨ (w.heap.size ≤ i ∧ i < w'.heap.size)) ∧ (∀ i, K i → K' i) ∧ (∀ i, O' i → ¬ K' i) ∧ Ch O w w'
/-- Other free ones. -/
theorem RfM.refree {w W : World} {s : Nat} {st : StP} {vL vF vR v2 : Value} {cs : List Value} {t : Nat → SlT} {q : List Nat} (h : RfM w s st vL vF vR cs t) (hc : Ch (fun i => i = s) w W) (hd : Bk W s 78 #[vL, v2, vR]) (hq : QuN W 0 v2 q) (hi : ∀ i, v2.ownBlock = some i → ∃ cs, Bk W i 3 cs) :
    RfM W s { st with free := q } vL v2 vR cs t := by
  have ne : ∀ {e : TypeId} {v : Value} {n : Nat} {xs : List Value}, w.ownsRow 0 e 1 v n xs → e ≠ 78 → ∀ i, v.ownBlock = some i → i ≠ s := by
    intro e v n xs ho he i hi2 hs
    subst hs
    rcases ho.2 with ⟨h2, _⟩ | ⟨g, cap, cur, rfl, h3, h4, h5⟩
    · rw [h2] at hi2; cases hi2
    · simp [Value.ownBlock] at hi2
      subst hi2
      have hb := h.hd
      unfold Bk at hb
      rw [hb] at h4
      injection h4 with h4
      injection h4 with _ h4 _
      exact he h4.symm
  have nb : ∀ k b, 1 ≤ k → st.L[k]? = some b → (t k).1 ≠ s := fun k b h1 h2 e => by
    obtain ⟨cs, hb, _⟩ := (h.rows k b h1 h2).2
    rw [e] at hb
    have hb2 := h.hd
    unfold Bk at hb hb2
    rw [hb] at hb2
    injection hb2 with hb2
    injection hb2 with _ hb2 _
    exact absurd hb2 (by decide)
  exact ⟨hd, own_same h.L (fun i hi2 => hc.block i (h.L.lt i hi2).2 (ne h.L (by decide) i hi2)), own_same h.R (fun i hi2 => hc.block i (h.R.lt i hi2).2 (ne h.R (by decide) i hi2)), hq, fun k b h1 h2 => ⟨(h.rows k b h1 h2).1, (h.rows k b h1 h2).2.heap (hc.block _ (h.rows k b h1 h2).2.lt (nb k b h1 h2))⟩, hi, h.one⟩
set_option maxHeartbeats 1000000 in
theorem drop_any (s no : Nat) (st : StP) (O K : Nat → Prop) (w : World) (h : RfA w O K s st) (hF : st.free.length ≤ 100000) (hOK : ∀ i, O i → ¬ K i) (hO : ∀ i, O i → i < w.heap.size) :
    Calls Tryz.prog 53 #[.pointer (some ⟨s, 0, none⟩), .int .i64 (no : Int)] w fun e w' => e = .returned (.tuple #[]) ∧ RfX w w' O K s (dropS st no) := by
  obtain ⟨vL, vF, vR, cs, t, hM, hO2, hK2⟩ := h
  obtain ⟨AF, cF, rfl, hcF, _⟩ := hM.F.form
  obtain ⟨nF, hnF⟩ : ∃ nF, nF = st.free.length := ⟨_, rfl⟩
  rw [← hnF] at hM hF hcF
  have c1 : w.cell? ⟨s, 1, none⟩ = some (.slice AF nF cF) := hM.hd.cell 1
  have hrF : Rd w w.heap.size 1 AF nF (its (natI st.free)) := hM.F.rd.1
  have HH := Lib.hid (And.intro hM (And.intro hO2 (And.intro hK2 (And.intro hnF (And.intro hOK hO)))))
  have HR := Lib.hid hrF
  have HC := Lib.hid (fun W (hb : Below w.heap.size w W) => show W.cell? ⟨s, 1, none⟩ = some (.slice AF nF cF) ∧ W.frozen? ⟨s, 1, none⟩ = false from ⟨(hM.hd.below hb hM.hd.lt).cell 1, (hM.hd.below hb hM.hd.lt).free 1⟩)
  clear hM hO2 hK2 hnF hcF hrF hOK hO c1
  have hB0 : Below w.heap.size w (w.alloc (.cells #[.int .i64 (no : Int)] 3)) := (Below.refl _ w).alloc (Nat.le_refl _) _
  have HB0 := Lib.hid hB0
  have HO0 := Lib.hid (own_nilI (w.alloc (.cells #[.int .i64 (no : Int)] 3)) w.heap.size 3)
  have HR0 := Lib.hid (Rd.oneI w 3 (no : Int))
  clear hB0
  go_enter Tryz.func53, Tryz.ntmps53
  go_wp2_with (first
    | (with_reducible refine at_append ?_; ((apply ap_its (c := 1) (base := w.heap.size) (w0 := w) HO0.out HR0.out HB0.out (by simp) (by omega)); (case hs => kernel_rfl); (case hx => kernel_rfl); (case hw => kernel_rfl); intro v2 w2 o2 b2 g2 x2; simp only [Nat.zero_add, List.nil_append] at o2; obtain ⟨A2, c2, hv2, _, _⟩ := own_form o2; subst hv2; obtain ⟨k2, f2⟩ := HC.out w2 b2; replace o2 := Lib.hid o2; replace b2 := Lib.hid b2; clear g2 x2; try go_frame))
    | (with_reducible refine at_append ?_; ((apply ap_its (c := cF) (base := w.heap.size) (w0 := w) o2.out (HR.out.below b2.out (Nat.le_refl _)) b2.out b2.out.size (by omega)); (case hs => kernel_rfl); (case hx => kernel_rfl); (case hw => kernel_rfl); intro v3 w3 o3 b3 g3 x3; obtain ⟨A3, c3, hv3, _, _⟩ := own_form o3; subst hv3; obtain ⟨k3, f3⟩ := HC.out w3 b3; replace o3 := Lib.hid o3; replace b3 := Lib.hid b3; clear g3 x3; try go_frame)))
  refine (show bodyPost Tryz.prog _ _ .normal _ _ from ?_)
  refine bodyPost_end (results_none rfl _ _ _) rfl ?_
  obtain ⟨hM, hO2, hK2, hnF, hOK, hO⟩ := HH.out
  have hs3 := hM.hd.below b3.out hM.hd.lt
  have hz := b3.out.size
  have hsO : O s := hO2 s (.inl rfl)
  have hc : Ch (fun i => i = s) w (w3.setCell ⟨s, 1, none⟩ (.slice A3 (1 + nF) c3)) := (Ch.of_below (S := fun i => i = s) b3.out (Nat.le_refl _)).set (p := ⟨s, 1, none⟩) (.inl rfl) _
  have ho := own_put (x := s) (k := 1) (u := .slice A3 (1 + nF) c3) o3.out hs3 (by decide)
  have hq := own_quN (W := w3.setCell ⟨s, 1, none⟩ (.slice A3 (1 + nF) c3)) (q := no :: st.free) (by
    have e : [(no : Int)] ++ natI st.free = natI (no :: st.free) := rfl
    rw [e] at ho
    exact ho)
  have hM2 := hM.refree hc (v2 := .slice A3 (1 + nF) c3) (by have := hs3.set 1 (.slice A3 (1 + nF) c3); exact this) hq.1 hq.2
  refine ⟨rfl, O, fun i => K i ∨ (Value.slice A3 (1 + nF) c3).ownBlock = some i, ⟨vL, _, vR, cs, t, hM2, hO2, fun i hi => ?_⟩, fun i hi => .inl hi, fun i hi => ?_, fun i hi => .inl hi, fun i hi e => ?_, hc.mono (fun i hi => by rw [hi]; exact hsO)⟩
  · rcases hi with e | e
    · exact .inr e
    · exact .inl (hK2 i (.inr e))
  · rcases hi with e | e
    · exact .inl e
    · have := ho.lt i e
      exact .inr this
  · rcases e with e | e
    · exact hOK i hi e
    · have := ho.lt i e
      have := hO i hi
      omega
end Go.Proofs.YtoadamkmabkldaaGreatDoor
