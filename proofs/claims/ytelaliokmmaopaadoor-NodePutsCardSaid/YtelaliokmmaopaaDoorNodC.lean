/- Package node: wakes; sizes of parts. -/
import Derived.Test.YtelaliokmmaopaaDoorNodB
import Derived.Test.YtelaliokmmaopaaDoorNod6
import Derived.Test.YtelaliokmmaopaaDoorConv
namespace Go.Proofs.YtelaliokmmaopaaDoor
open Go.RowKit
attribute [local go_sem ↓] Go.wp_at_zero Go.wp_at_succ

set_option maxRecDepth 100000 in
set_option maxHeartbeats 1000000 in
theorem nodwakes_any (w : World) : Calls Tryd.prog 8 #[] w fun e w' => e = .returned (.bool true) ∧ Below w.heap.size w w' := by
  have hp := put0_any w
  unfold ndC at hp
  simp only at hp
  have Hp := Lib.hid hp
  clear hp
  go_enter Tryd.func8, Tryd.ntmps8
  go_wp2_with fail
  refine Hp.out.mono ?_
  rintro e w1 ⟨A, c, rfl, hb1⟩
  have hlit : Rd (w1.alloc (.cells #[.int .u8 3, .int .u8 0, .int .u8 0] 5)) (w1.heap.size + 1) 1 (some ⟨w1.heap.size, 0, none⟩) 3 (bys gl0) := Rd.lits w1 5 (bys gl0).toArray rfl
  have Hg := Lib.hid (get0_any (w1.alloc (.cells #[.int .u8 3, .int .u8 0, .int .u8 0] 5)) (some ⟨w1.heap.size, 0, none⟩) (hlit.more (by simp)))
  have Hb := Lib.hid (hb1.alloc hb1.size (.cells #[.int .u8 3, .int .u8 0, .int .u8 0] 5))
  clear hlit hb1 Hp
  go_wp2_with fail
  refine Hg.out.mono ?_
  rintro e w2 ⟨rfl, hb2⟩
  have Hb2 := Lib.hid (Hb.out.trans (hb2.mono Hb.out.size))
  clear Hb Hg hb2
  go_wp2_with fail
  go_ret
  exact ⟨rfl, Hb2.out.alloc Hb2.out.size _⟩
/-- A leaf's cells by themselves. -/
def cellsB (cs : List CellP) : List UInt8 := cs.flatMap (packC true 0)
theorem packC_leaf (k : Int) (c : CellP) : packC true k c = packC true 0 c := by unfold packC; simp
theorem packTo_leaf (cs : List CellP) : ∀ j, j ≤ cs.length → packTo ⟨true, cs, []⟩ j = packH ⟨true, cs, []⟩ ++ cellsB (cs.take j)
  | 0, _ => by simp [packTo, cellsB]
  | j + 1, h => by
    have hc : cs[j]? = some cs[j] := List.getElem?_eq_getElem (by omega)
    have ht : cs.take (j + 1) = cs.take j ++ [cs[j]] := by rw [List.take_add_one, hc]; rfl
    rw [packTo, packTo_leaf cs j (by omega), packC_leaf, hc, ht]
    unfold cellsB
    rw [List.flatMap_append, List.flatMap_cons, List.flatMap_nil, List.append_nil, List.append_assoc]
    rfl
theorem packN_leaf (cs : List CellP) : (packN ⟨true, cs, []⟩).length = 3 + (cellsB cs).length := by
  rw [packN, packTo_leaf _ _ (Nat.le_refl _), List.take_length, List.length_append]
  simp [packH, leB_length]
/-- Each part of a leaf is a leaf. -/
theorem cells_part {cs ds : List CellP} (k : Nat) (h : CellsTo true cs cs.length) (hd : ∀ i c, ds[i]? = some c → cs[i + k]? = some c) : CellsTo true ds ds.length :=
  ⟨fun i c _ hc => h.1 (i + k) c (List.getElem?_eq_some_iff.1 (hd i c hc)).1 (hd i c hc), fun i c d _ hc he => by
    have h2 := hd (i + 1) d he
    rw [show i + 1 + k = i + k + 1 by omega] at h2
    exact h.2 (i + k) c d (List.getElem?_eq_some_iff.1 h2).1 (hd i c hc) h2⟩
theorem right_take {cs : List CellP} (h : RightP ⟨true, cs, []⟩) (k : Nat) : RightP ⟨true, cs.take k, []⟩ := by
  obtain ⟨⟨_, _, h1⟩, h2, _⟩ := h
  refine ⟨⟨fun _ => rfl, fun h => (by cases h), ?_⟩, cells_part 0 h2 (fun i c hi => ?_), fun k hk => (by cases hk)⟩
  · show (cs.take k).length < 65536
    rw [List.length_take]; simp only at h1; omega
  · rw [List.getElem?_take] at hi
    split at hi
    · exact hi
    · cases hi
theorem right_drop {cs : List CellP} (h : RightP ⟨true, cs, []⟩) (k : Nat) : RightP ⟨true, cs.drop k, []⟩ := by
  obtain ⟨⟨_, _, h1⟩, h2, _⟩ := h
  refine ⟨⟨fun _ => rfl, fun h => (by cases h), ?_⟩, cells_part k h2 (fun i c hi => ?_), fun k hk => (by cases hk)⟩
  · show (cs.drop k).length < 65536
    rw [List.length_drop]; simp only at h1; omega
  · rw [List.getElem?_drop, Nat.add_comm] at hi
    exact hi
/-- The parts' bytes. -/
theorem parts_len (cs : List CellP) (k : Nat) : (packN ⟨true, cs.take k, []⟩).length + (packN ⟨true, cs.drop k, []⟩).length = (packN ⟨true, cs, []⟩).length + 3 := by
  rw [packN_leaf, packN_leaf, packN_leaf]
  have : cellsB cs = cellsB (cs.take k) ++ cellsB (cs.drop k) := by
    unfold cellsB
    rw [← List.flatMap_append, List.take_append_drop]
  rw [this, List.length_append]
  omega
/-- The parts in memory. -/
theorem RdCs.take {w : World} {B n : Nat} {A : Option Addr} {cs : List CellP} (h : RdCs w B A n cs) {k : Nat} (hk : k ≤ n) : RdCs w B A k (cs.take k) := by
  refine ⟨by rw [List.length_take, h.1]; omega, fun hn => ?_⟩
  obtain ⟨b, o, e, hb, hc⟩ := h.2 (by omega)
  refine ⟨b, o, e, hb, fun i c hi => hc i c ?_⟩
  rw [List.getElem?_take] at hi
  split at hi
  · exact hi
  · cases hi
theorem RdCs.drop {w : World} {B n b o : Nat} {cs : List CellP} (h : RdCs w B (some ⟨b, o, none⟩) n cs) {k : Nat} (hk : k ≤ n) : RdCs w B (some ⟨b, o + k * 4, none⟩) (n - k) (cs.drop k) := by
  refine ⟨by rw [List.length_drop, h.1], fun hn => ?_⟩
  obtain ⟨b', o', e, hb, hc⟩ := h.2 (by omega)
  injection e with e
  injection e with e1 e2 _
  subst e1 e2
  refine ⟨b, o + k * 4, rfl, hb, fun i c hi => ?_⟩
  rw [List.getElem?_drop] at hi
  obtain h2 := hc (k + i) c hi
  rw [show o + (k + i) * 4 = o + k * 4 + i * 4 by omega] at h2
  exact h2
end Go.Proofs.YtelaliokmmaopaaDoor
