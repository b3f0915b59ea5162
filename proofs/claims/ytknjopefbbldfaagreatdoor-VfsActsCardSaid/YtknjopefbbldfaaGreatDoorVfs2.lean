/- Contracts of package vfs: grow. -/
import Derived.Test.YtknjopefbbldfaaGreatDoorVfs1
import Derived.Great.BuildSlice
import Derived.BigQuiet
namespace Go.Proofs.YtknjopefbbldfaaGreatDoor
open Go.RowKit
attribute [local go_sem ↓] Go.wp_at_zero Go.wp_at_succ

/-- A sector of zeros. -/
def zsl : Array Value := (List.replicate 128 (Value.int .u8 0) ++ [Value.bool false]).toArray
def zc (r : Nat) : Value := if r < 128 then .int .u8 0 else .bool false
theorem zsl_size : zsl.size = 129 := by unfold zsl; rw [List.size_toArray, List.length_append, List.length_replicate]; rfl
theorem zsl_len : zsl.toList.length = 129 := by rw [Array.length_toList]; exact zsl_size
theorem zsl_get (r : Nat) (h : r < 129) : zsl[r]? = some (zc r) := by
  unfold zsl zc
  rw [List.getElem?_toArray]
  by_cases h1 : r < 128
  · rw [if_pos h1, List.getElem?_append_left (by rw [List.length_replicate]; exact h1), List.getElem?_replicate, if_pos h1]
  · obtain rfl : r = 128 := by omega
    rw [if_neg (by omega), List.getElem?_append_right (by rw [List.length_replicate]; omega), List.length_replicate]
    rfl
theorem zsl_getL (r : Nat) (h : r < 129) : zsl.toList[r]? = some (zc r) := by rw [Array.getElem?_toList]; exact zsl_get r h
theorem zsl_one : ∀ u ∈ zsl.toList, u.oneCell' = true := by
  intro u hu
  simp only [zsl, List.mem_append, List.mem_replicate, List.mem_singleton] at hu
  rcases hu with ⟨_, rfl⟩ | rfl <;> rfl
theorem infoSl : (Tryz.prog.info? 81).map (fun i => (i.zero, i.size, i.bytes)) = some (some (.agg zsl), 129, 129) := by kernel_rfl
theorem infoSl' : ∃ i, Tryz.prog.info? 81 = some i ∧ i.zero = some (.agg zsl) ∧ i.size = 129 ∧ i.bytes = 129 := by
  have := infoSl
  cases h : Tryz.prog.info? 81 with
  | none => rw [h] at this; cases this
  | some i => rw [h] at this; simp only [Option.map_some, Option.some.injEq, Prod.mk.injEq] at this; exact ⟨i, rfl, this.1, this.2.1, this.2.2⟩
theorem zsl_built : Tryz.prog.built 81 [] = some zsl := by kernel_rfl
theorem run_zsl (w : World) : (Instr.build 81 #[]).run Tryz.prog w = .ok (.agg zsl) w := run_build w 81 #[] zsl zsl_built
theorem zsl_fill : Instr.fill (fun i => some (i * 129, 129)) ((Array.range (1 * 129)).map (zsl[· % zsl.size]!)) [(0, .agg zsl)] = some zsl := by kernel_rfl
theorem run_lit_zsl (w : World) : (Instr.buildSlice 71 1 #[(0, .agg zsl)]).run Tryz.prog w = .ok (.slice (some ⟨w.heap.size, 0, none⟩) 1 1) (w.alloc (.cells zsl 81)) := by
  obtain ⟨i, hi, hz, hs, _⟩ := infoSl'
  refine run_buildSlice w _ _ 1 _ zsl i (.agg zsl) Tryz.underlying71 hi hz (by rw [hs]; omega) (by rw [hs]; omega) ?_
  rw [hs]; exact zsl_fill
theorem toList_take_le {cs : Array Value} {n : Nat} : (cs.toList.take n).length = min n cs.size := by simp
theorem run_append_slot (w : World) (ty : TypeId) (sv : Value) (g L : Nat) (f : Nat → Nat → Value) (h : SlQ w sv g L f) (hL : L ≤ 100000) (b : Nat) (hb : Bk w b 81 zsl) :
    ∃ sv' g' w', (Builtin.append_ #[71, 71] ty #[sv, .slice (some ⟨b, 0, none⟩) 1 1]).run Tryz.prog w = .ok sv' w' ∧ SlQ w' sv' g' (L + 1) (fun k r => if k < L then f k r else zc r) ∧
      ((0 < L ∧ g' = g) ∨ w.heap.size ≤ g') ∧ Ch (fun i => 0 < L ∧ i = g) w w' := by
  obtain ⟨i, hi, hz, hs, hby⟩ := infoSl'
  have hu := Tryz.underlying71
  have hnews : ∀ j u, zsl.toList[j]? = some u → w.cell? ((⟨b, 0, none⟩ : Addr).add j) = some u := fun j u hj => by
    rw [addLit, hb.cell, Nat.zero_add]; simpa using hj
  have hl : zsl.toList.length = 1 * i.size := by rw [hs]; exact zsl_len
  have h129 : zsl.toList.length = 129 := zsl_len
  have hzl : (Value.agg zsl).cells.size = i.size := by rw [hs]; exact zsl_size
  obtain ⟨A, c, rfl, h1, h2, h3⟩ := h
  rcases h3 with ⟨rfl, rfl⟩ | ⟨h0, rfl, cs, hcs, h4, h5⟩
  · have hge := grownCap_ge w 1 0 81
    have hcm : grownCap w 1 0 81 ≤ maxLen := grownCap_le_maxLen w 1 0 81 (by unfold maxLen; omega)
    have key : SlQ (w.drew.alloc (.cells (zsl.toList.toArray ++ Builtin.zeroCells (Value.agg zsl).cells (grownCap w 1 0 81 - 1)) 81)) (.slice (some ⟨w.heap.size, 0, none⟩) 1 (grownCap w 1 0 81)) w.heap.size 1 (fun k r => if k < 0 then f k r else zc r) := by
      refine ⟨_, _, rfl, hge, hcm, .inr ⟨by omega, rfl, _, Bk.new w.drew _ _, ?_, fun k hk r hr => ?_⟩⟩
      · simp only [Array.size_append, List.size_toArray, h129, size_zeroCells, hzl, hs]
        omega
      · obtain rfl : k = 0 := by omega
        show _ = some (if 0 < 0 then f 0 r else zc r)
        rw [if_neg (by omega), Nat.zero_mul, Nat.zero_add, Array.getElem?_append_left (by simp only [List.size_toArray, h129]; omega), List.getElem?_toArray]
        exact zsl_getL r hr
    rcases A with _ | a
    · have hrun := run_append_nil (P := Tryz.prog) w 71 ty _ i _ hu hi hz ⟨b, 0, none⟩ 1 1 zsl.toList hl hnews (by omega) (by omega) (by rw [hby]; decide)
      exact ⟨_, w.heap.size, _, hrun, key, .inr (Nat.le_refl _), (Ch.refl _ _).drew.alloc _⟩
    · have hrun := run_append_grow (P := Tryz.prog) w 71 ty _ i _ hu hi hz a 0 0 [] (by simp) (fun j u hj => by simp at hj) ⟨b, 0, none⟩ 1 1 zsl.toList hl hnews (by omega) (by omega) (growslice_fits (by omega) (by rw [hby]; omega))
      rw [show ([] : List Value).toArray ++ zsl.toList.toArray = zsl.toList.toArray from Array.empty_append] at hrun
      exact ⟨_, w.heap.size, _, hrun, key, .inr (Nat.le_refl _), (Ch.refl _ _).drew.alloc _⟩
  · have hxs : ∀ k, k < L → ∀ r, r < 129 → (cs.toList.take (L * 129))[k * 129 + r]? = some (f k r) := fun k hk r hr => by
      rw [List.getElem?_take_of_lt (by omega), Array.getElem?_toList, h5 k hk r hr]
    have hlen : (cs.toList.take (L * 129)).length = L * 129 := by rw [toList_take_le]; omega
    by_cases hroom : L + 1 ≤ c
    · have hrun := run_append_room (P := Tryz.prog) w 71 ty _ i hu hi g L c cs hcs ⟨b, 0, none⟩ 1 1 zsl.toList hl hnews zsl_one hroom (by rw [hs, h129]; omega)
      refine ⟨_, g, _, hrun, ⟨_, _, rfl, hroom, h2, .inr ⟨by omega, rfl, _, hcs.setRow _, ?_, fun k hk r hr => ?_⟩⟩, .inl ⟨h0, rfl⟩, ⟨rfl, rfl, rfl, by simp, fun k hk hne => setRow_other w g k _ (fun e => hne ⟨h0, e⟩)⟩⟩
      · simp only [List.size_toArray, List.length_append, List.length_take, List.length_drop, Array.length_toList, hs, zsl_size]
        omega
      · rw [hs]
        simp only [List.getElem?_toArray]
        by_cases hkL : k < L
        · rw [if_pos hkL, List.append_assoc, List.getElem?_append_left (by rw [hlen]; omega)]
          exact hxs k hkL r hr
        · obtain rfl : k = L := by omega
          rw [if_neg hkL, List.append_assoc, List.getElem?_append_right (by rw [hlen]; omega), hlen, Nat.add_sub_cancel_left, List.getElem?_append_left (by rw [h129]; exact hr)]
          exact zsl_getL r hr
    · have hrun := run_append_grow (P := Tryz.prog) w 71 ty _ i _ hu hi hz ⟨g, 0, none⟩ L c (cs.toList.take (L * 129)) (by rw [hlen, hs]) (fun j u hj => by
        rw [addLit, hcs.cell, Nat.zero_add]
        have hj' : j < L * 129 := by rw [← hlen]; exact (List.getElem?_eq_some_iff.1 hj).1
        rw [List.getElem?_take_of_lt hj', Array.getElem?_toList] at hj
        exact hj) ⟨b, 0, none⟩ 1 1 zsl.toList hl hnews (by omega) (by omega) (growslice_fits (by omega) (by rw [hby]; omega))
      have hge := grownCap_ge w (L + 1) c 81
      have hcm : grownCap w (L + 1) c 81 ≤ maxLen := grownCap_le_maxLen w (L + 1) c 81 (by unfold maxLen; omega)
      refine ⟨_, w.heap.size, _, hrun, ⟨_, _, rfl, hge, hcm, .inr ⟨by omega, rfl, _, Bk.new w.drew _ _, ?_, fun k hk r hr => ?_⟩⟩, .inr (Nat.le_refl _), (Ch.refl _ _).drew.alloc _⟩
      · simp only [Array.size_append, List.size_toArray, hlen, h129, size_zeroCells, hzl, hs]
        omega
      · by_cases hkL : k < L
        · show _ = some (if k < L then f k r else zc r)
          rw [if_pos hkL, Array.append_assoc, Array.getElem?_append_left (by simp only [List.size_toArray, hlen]; omega), List.getElem?_toArray]
          exact hxs k hkL r hr
        · obtain rfl : k = L := by omega
          show _ = some (if k < k then f k r else zc r)
          rw [if_neg hkL, Array.append_assoc, Array.getElem?_append_right (by simp only [List.size_toArray, hlen]; omega)]
          simp only [List.size_toArray, hlen]
          rw [Nat.add_sub_cancel_left, Array.getElem?_append_left (by rw [List.size_toArray, h129]; exact hr), List.getElem?_toArray]
          exact zsl_getL r hr
end Go.Proofs.YtknjopefbbldfaaGreatDoor
