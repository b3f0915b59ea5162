/- The law NodeGets: its walk. -/
import Derived.Test.YtelaliokmmaopaaDoorNodQ
import Derived.Test.YtelaliokmmaopaaDoorNodT
import Derived.Test.YtelaliokmmaopaaDoorNodSm
import Derived.Test.YtelaliokmmaopaaDoorNodC
namespace Go.Proofs.YtelaliokmmaopaaDoor
open Go.RowKit
attribute [local go_sem ↓] Go.wp_at_zero Go.wp_at_succ

/-- The law reads no table. -/
theorem nodeGets_laid {P : Prop} (_ : World) (_ : P) : True := trivial
theorem valC_val {L : List UInt8} {p q : Nat} {v : List UInt8} {o l : Int} (h : valC L p = some (v, o, l, q)) : v.length ≤ L.length := by
  unfold valC at h
  split at h
  · split at h
    · split at h
      · injection h with h; injection h with h _; subst h; exact Nat.zero_le _
      · cases h
    · split at h
      · injection h with h; injection h with h _; subst h; rw [List.length_take, List.length_drop]; omega
      · cases h
  · cases h
theorem stepC_len {L : List UInt8} {lf : Bool} {p q : Nat} {c : CellP} {k : List Int} (h : stepC L lf p = some (c, k, q)) : c.key.length ≤ L.length ∧ c.val.length ≤ L.length := by
  unfold stepC at h
  split at h
  · split at h
    · cases lf
      · rw [if_neg (by simp)] at h
        split at h
        · injection h with h; injection h with h _; subst h; exact ⟨by simp only; rw [List.length_take, List.length_drop]; omega, Nat.zero_le _⟩
        · cases h
      · rw [if_pos rfl] at h
        split at h
        · rename_i v o l q' hv
          injection h with h; injection h with h _; subst h; exact ⟨by simp only; rw [List.length_take, List.length_drop]; omega, valC_val hv⟩
        · cases h
    · cases h
  · cases h
theorem runC_len {L : List UInt8} {lf : Bool} : ∀ {j p : Nat} {cs : List CellP} {ks : List Int}, runC L lf j = some (cs, ks, p) → ∀ c ∈ cs, c.key.length ≤ L.length ∧ c.val.length ≤ L.length
  | 0, p, cs, ks, h => by
    rw [runC] at h
    have h0 : cs = [] := by
      split at h
      · injection h with h; injection h with h _; exact h.symm
      · split at h
        · injection h with h; injection h with h _; exact h.symm
        · cases h
    subst h0
    intro c hc; cases hc
  | j + 1, p, cs, ks, h => by
    rw [runC] at h
    cases hr : runC L lf j with
    | none => rw [hr] at h; cases h
    | some t =>
      obtain ⟨cs', ks', p'⟩ := t
      rw [hr] at h
      simp only at h
      cases hs : stepC L lf p' with
      | none => rw [hs] at h; cases h
      | some t =>
        obtain ⟨c, k, q⟩ := t
        rw [hs] at h
        simp only at h
        injection h with h; injection h with h1 h; subst h1
        intro d hd
        rcases List.mem_append.1 hd with h5 | h5
        · exact runC_len hr d h5
        · rw [List.mem_singleton.1 h5]; exact stepC_len hs
theorem IsN.len {L : List UInt8} {N : NodP} (h : IsN L N) : N.cells.length ≤ L.length ∧ N.kids.length ≤ L.length + 1 ∧ ∀ c ∈ N.cells, c.key.length ≤ L.length ∧ c.val.length ≤ L.length := by
  obtain ⟨h1, _, p, h2, _⟩ := h
  obtain ⟨a1, a2, a3, a4⟩ := runC_bd h1 h2
  refine ⟨by omega, ?_, runC_len h2⟩
  rw [a4]; split <;> omega
set_option maxRecDepth 100000 in
set_option maxHeartbeats 4000000 in
theorem nodeGets_walk (A : Option Addr) (n c : Nat) (L : List UInt8) (w : World) (hr : Rd w w.heap.size 1 A n (bys L)) (hnc : n ≤ c) (_ : c ≤ 9223372036854775807) (_ : True) :
    Calls Tryd.prog 3 #[.slice A n c] w fun e w' => e = .returned (.bool true) ∧ Below w.heap.size w w' := by
  have HL := Lib.hid hr.blen
  have Hr := Lib.hid hr
  have Hwk := Lib.hid (nodwakes_any w)
  clear hr
  by_cases hbig : 1000 < n
  · have hbig' : (1000 : Int) < (n : Int) := by omega
    go_enter Tryd.func3, Tryd.ntmps3
    go_wp2_with fail
    with_reducible refine Hwk.out.mono ?_
    rintro e w1 ⟨rfl, hb1⟩
    have B1 := Lib.hid hb1
    clear hb1
    go_wp2_with fail
    go_ret
    exact ⟨rfl, B1.out⟩
  · have hbig' : ¬ (1000 : Int) < (n : Int) := by omega
    go_enter Tryd.func3, Tryd.ntmps3
    go_wp2_with fail
    with_reducible refine Hwk.out.mono ?_
    rintro e w1 ⟨rfl, hb1⟩
    have B1 := Lib.hid hb1
    have hz1 := hb1.size
    clear hb1 Hwk
    go_wp2_with (
      at_builtin
      refine ap_bys (own_lit0 w1 _) ((Hr.out.below B1.out (Nat.le_refl _)).alloc hz1 _) ((Below.refl w1.heap.size w1).alloc (Nat.le_refl _) _) (by simp) (by omega) rfl rfl rfl ?_
      intro v2 w2 hown2 hb2 hg2 hv2
      rw [List.nil_append, Nat.zero_add] at hown2
      obtain ⟨A2, c2, rfl, hc2, _⟩ := own_form hown2)
    have B2 := Lib.hid (B1.out.trans (hb2.mono hz1))
    have Hget := Lib.hid (get_any A2 n c2 L w2 (Rd.of_own hown2) hc2 (by omega))
    have hz2 := B2.out.size
    clear hown2 hb2 hg2 hv2 hc2
    with_reducible refine Hget.out.mono ?_
    rintro e w3 ⟨hq, hb3⟩
    have B3 := Lib.hid (B2.out.trans (hb3.mono hz2))
    clear hb3 Hget
    rcases hq with ⟨M, N, rfl, hN, hrd⟩ | ⟨rfl, hno⟩
    · obtain ⟨l1, l2, l3⟩ := hN.len
      rw [HL.out] at l1 l2 l3
      obtain ⟨e1, e2⟩ := hrd.len
      have HN := Lib.hid hN
      have Hrd := Lib.hid hrd
      have hMn : M.n ≤ 1000000 := by omega
      have hMm : M.m ≤ 1000000 := by omega
      have Hsz := Lib.hid (show ∀ d ∈ N.cells, d.key.length ≤ 1000000 ∧ d.val.length ≤ 1000000 from fun d hd => by have := l3 d hd; omega)
      have hB4 := B3.out.alloc B3.out.size (.cells (ndC N.leaf M) 27)
      have Hrg := Lib.hid (rget_any A n c L (w3.alloc (.cells (ndC N.leaf M) 27)) ((Hr.out.below hB4 (Nat.le_refl _)).more hB4.size) hnc (by omega))
      have B4 := Lib.hid hB4
      have G4 := Lib.hid (Bk.new w3 27 (ndC N.leaf M))
      have H34 := Lib.hid ((Below.refl w3.heap.size w3).alloc (Nat.le_refl _) (.cells (ndC N.leaf M) 27))
      clear l1 l2 l3 e1 e2 hN hrd hB4
      unfold ndC at Hrg B4 G4 H34 ⊢
      go_wp2_with fail
      with_reducible refine Hrg.out.mono ?_
      rintro e w5 ⟨hq5, hb5⟩
      rcases hq5 with ⟨M2, N2, rfl, hN2, hrd2⟩ | ⟨rfl, hno⟩
      · obtain rfl := hN2.inj HN.out
        have G5 := Lib.hid (Bk.below G4.out hb5 G4.out.lt)
        have B5 := Lib.hid (B4.out.trans (hb5.mono B4.out.size))
        have H35 := Lib.hid (H34.out.trans (hb5.mono H34.out.size))
        have hsm := rsame_eq M M2 N2 (w5.alloc (.cells #[.bool N2.leaf, .slice M2.A M2.n M2.c, .slice M2.K M2.m M2.d, .bool true] 32)) (((Hrd.out.below H35.out (Nat.le_refl _)).more (by have := H35.out.size; omega)).alloc (Nat.le_refl _) _ |>.more (by simp)) ((hrd2.alloc (Nat.le_refl _) _).more (by simp)) hMn hMm Hsz.out
        unfold ndC at hsm
        have Hsm := Lib.hid hsm
        have B6 := Lib.hid (B5.out.alloc B5.out.size (.cells #[.bool N2.leaf, .slice M2.A M2.n M2.c, .slice M2.K M2.m M2.d, .bool true] 32))
        have G6 := Lib.hid (G5.out.alloc (.cells #[.bool N2.leaf, .slice M2.A M2.n M2.c, .slice M2.K M2.m M2.d, .bool true] 32))
        have n0 : (w5.alloc (.cells #[.bool N2.leaf, .slice M2.A M2.n M2.c, .slice M2.K M2.m M2.d, .bool true] 32)).cell? ⟨w3.heap.size, 0, none⟩ = some (.bool N2.leaf) := G6.out.cell 0
        have n1 : (w5.alloc (.cells #[.bool N2.leaf, .slice M2.A M2.n M2.c, .slice M2.K M2.m M2.d, .bool true] 32)).cell? ⟨w3.heap.size, 1, none⟩ = some (.slice M.A M.n M.c) := G6.out.cell 1
        have n2 : (w5.alloc (.cells #[.bool N2.leaf, .slice M2.A M2.n M2.c, .slice M2.K M2.m M2.d, .bool true] 32)).cell? ⟨w3.heap.size, 2, none⟩ = some (.slice M.K M.m M.d) := G6.out.cell 2
        clear hb5 hN2 hrd2 hsm Hrg
        go_wp2_with fail
        with_reducible refine Hsm.out.mono ?_
        rintro e w7 ⟨rfl, hb7⟩
        have B7 := Lib.hid (B6.out.trans (hb7.mono B6.out.size))
        clear hb7
        go_wp2_with fail
        go_ret
        exact ⟨rfl, B7.out⟩
      · exact absurd HN.out (hno N)
    · have hB4 := B3.out.alloc B3.out.size (.cells #[.bool false, .slice none 0 0, .slice none 0 0] 27)
      have Hrg := Lib.hid (rget_any A n c L (w3.alloc (.cells #[.bool false, .slice none 0 0, .slice none 0 0] 27)) ((Hr.out.below hB4 (Nat.le_refl _)).more hB4.size) hnc (by omega))
      have B4 := Lib.hid hB4
      have G4 := Lib.hid (Bk.new w3 27 #[.bool false, .slice none 0 0, .slice none 0 0])
      have Hno := Lib.hid hno
      clear hno hB4
      go_wp2_with fail
      with_reducible refine Hrg.out.mono ?_
      rintro e w5 ⟨hq5, hb5⟩
      rcases hq5 with ⟨M2, N2, rfl, hN2, _⟩ | ⟨rfl, _⟩
      · exact absurd hN2 (Hno.out N2)
      · have G5 := Lib.hid (Bk.below G4.out hb5 G4.out.lt)
        have B5 := Lib.hid (B4.out.trans (hb5.mono B4.out.size))
        have hsm := rsame_eq ⟨none, 0, 0, none, 0, 0⟩ ⟨none, 0, 0, none, 0, 0⟩ (nd0 false) (w5.alloc (.cells #[.bool false, .slice none 0 0, .slice none 0 0, .bool false] 32)) (rdn0 _ _ _) (rdn0 _ _ _) (by decide) (by decide) (fun d hd => by cases hd)
        unfold ndC at hsm
        have Hsm := Lib.hid (show Calls Tryd.prog 11 #[.agg #[.bool false, .slice none 0 0, .slice none 0 0], .agg #[.bool false, .slice none 0 0, .slice none 0 0]] (w5.alloc (.cells #[.bool false, .slice none 0 0, .slice none 0 0, .bool false] 32)) fun e w' => e = .returned (.bool true) ∧ Below (w5.alloc (.cells #[.bool false, .slice none 0 0, .slice none 0 0, .bool false] 32)).heap.size (w5.alloc (.cells #[.bool false, .slice none 0 0, .slice none 0 0, .bool false] 32)) w' from hsm)
        have B6 := Lib.hid (B5.out.alloc B5.out.size (.cells #[.bool false, .slice none 0 0, .slice none 0 0, .bool false] 32))
        have G6 := Lib.hid (G5.out.alloc (.cells #[.bool false, .slice none 0 0, .slice none 0 0, .bool false] 32))
        have n0 : (w5.alloc (.cells #[.bool false, .slice none 0 0, .slice none 0 0, .bool false] 32)).cell? ⟨w3.heap.size, 0, none⟩ = some (.bool false) := G6.out.cell 0
        have n1 : (w5.alloc (.cells #[.bool false, .slice none 0 0, .slice none 0 0, .bool false] 32)).cell? ⟨w3.heap.size, 1, none⟩ = some (.slice none 0 0) := G6.out.cell 1
        have n2 : (w5.alloc (.cells #[.bool false, .slice none 0 0, .slice none 0 0, .bool false] 32)).cell? ⟨w3.heap.size, 2, none⟩ = some (.slice none 0 0) := G6.out.cell 2
        clear hb5 hsm Hrg
        go_wp2_with fail
        with_reducible refine Hsm.out.mono ?_
        rintro e w7 ⟨rfl, hb7⟩
        have B7 := Lib.hid (B6.out.trans (hb7.mono B6.out.size))
        clear hb7
        go_wp2_with fail
        go_ret
        exact ⟨rfl, B7.out⟩
end Go.Proofs.YtelaliokmmaopaaDoor
