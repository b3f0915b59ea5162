/- Contracts of package vfs: at, burn, changed, need, New. -/
import Derived.Test.YtoadamkmabkldaaGreatDoorJn01
import Derived.Deep.RegionHeld3
import Derived.Deep.DrawnRows
import Derived.Great.BuildSlice
import Derived.BigQuiet
import Derived.Deep.QuietTactic
set_option linter.unusedVariables false
set_option linter.unusedSimpArgs false
namespace Go.Proofs.YtoadamkmabkldaaGreatDoor
open Go.RowKit
attribute [local go_sem ↓] Go.wp_at_zero Go.wp_at_succ

/-- What 'at' tells. -/
def atV (S : FsP) (bl : List UInt8 → Nat) (n : List UInt8) : Value :=
  if S.down then .tuple #[.pointer none, .int .i64 9] else match findP S n with
  | none => .tuple #[.pointer none, .int .i64 6]
  | some _ => .tuple #[.pointer (some ⟨bl n, 0, none⟩), .int .i64 0]
theorem at_nil (s : ByteArray) (w : World) : Calls Tryz.prog 85 #[.pointer none, .string s] w fun e w' => e = .returned (.tuple #[.pointer none, .int .i64 2]) ∧ w' = w := by
  go_enter Tryz.func85, Tryz.ntmps85
  go_wp2
  go_ret2
  exact ⟨rfl, by first | rfl | trivial⟩
set_option maxHeartbeats 4000000 in
set_option maxRecDepth 100000 in
theorem at_any (f m : Nat) (bl gl : List UInt8 → Nat) (sv : List UInt8 → Value) (S : FsP) (s : ByteArray) (w : World) (h : FsM w f m bl gl sv S) (hs : s.size ≤ maxLen) :
    Calls Tryz.prog 85 #[.pointer (some ⟨f, 0, none⟩), .string s] w fun e w' => e = .returned (atV S bl s.data.toList) ∧ w' = w := by
  have c3 : w.cell? ⟨f, 3, none⟩ = some (.bool S.down) := h.hd.cell 3
  have c4 : w.cell? ⟨f, 4, none⟩ = some (.map (some m)) := h.hd.cell 4
  have hl := h.mp.look hs
  unfold atV
  clear h hs
  cases hd : S.down with
  | true =>
    rw [hd] at c3
    clear hd hl
    go_enter Tryz.func85, Tryz.ntmps85
    go_wp2
    go_ret2
    exact ⟨rfl, by first | rfl | trivial⟩
  | false =>
    rw [hd] at c3
    clear hd
    cases hf : findP S s.data.toList with
    | none =>
      simp only [hf, Option.map_none] at hl
      clear hf
      go_enter Tryz.func85, Tryz.ntmps85
      go_wp2
      go_ret2
      exact ⟨rfl, by first | rfl | trivial⟩
    | some x =>
      simp only [hf, Option.map_some] at hl
      clear hf
      generalize bl s.data.toList = b at *
      go_enter Tryz.func85, Tryz.ntmps85
      go_wp2
      go_ret2
      exact ⟨rfl, by first | rfl | trivial⟩
section
variable (f m : Nat) (bl gl : List UInt8 → Nat) (sv : List UInt8 → Value) (S : FsP) (s : ByteArray) (w : World) (h : FsM w f m bl gl sv S) (hs : s.size ≤ maxLen)
include h hs
theorem at_down (hd : S.down = true) : Calls Tryz.prog 85 #[.pointer (some ⟨f, 0, none⟩), .string s] w fun e w' => e = .returned (.tuple #[.pointer none, .int .i64 9]) ∧ w' = w := by
  have := at_any f m bl gl sv S s w h hs
  unfold atV at this
  rwa [hd] at this
theorem at_none (hd : S.down = false) (hf : findP S s.data.toList = none) : Calls Tryz.prog 85 #[.pointer (some ⟨f, 0, none⟩), .string s] w fun e w' => e = .returned (.tuple #[.pointer none, .int .i64 6]) ∧ w' = w := by
  have := at_any f m bl gl sv S s w h hs
  unfold atV at this
  rwa [hd, hf] at this
theorem at_some (hd : S.down = false) {x : FlP} (hf : findP S s.data.toList = some x) : Calls Tryz.prog 85 #[.pointer (some ⟨f, 0, none⟩), .string s] w fun e w' => e = .returned (.tuple #[.pointer (some ⟨bl s.data.toList, 0, none⟩), .int .i64 0]) ∧ w' = w := by
  have := at_any f m bl gl sv S s w h hs
  unfold atV at this
  rwa [hd, hf] at this
end
/-- burn, on the store's block. -/
def burnt (fu : Int) (d : Bool) : Int × Bool := if fu = 0 then (0, true) else if 0 < fu then (fu - 1, d) else (fu, d)
set_option maxHeartbeats 4000000 in
theorem burn_any (f : Nat) (a0 a1 a4 : Value) (fu : Int) (d : Bool) (w : World) (h : Bk w f 61 #[a0, a1, .int .i64 fu, .bool d, a4]) (h1 : -1 ≤ fu) (h2 : fu ≤ 9223372036854775807) :
    Calls Tryz.prog 87 #[.pointer (some ⟨f, 0, none⟩)] w fun e w' => e = .returned (.bool (fu != 0)) ∧ Bk w' f 61 #[a0, a1, .int .i64 (burnt fu d).1, .bool (burnt fu d).2, a4] ∧ Ch (fun i => i = f) w w' := by
  have c2 : w.cell? ⟨f, 2, none⟩ = some (.int .i64 fu) := h.cell 2
  have c3 : w.cell? ⟨f, 3, none⟩ = some (.bool d) := h.cell 3
  have f2 := h.free 2
  have f3 := h.free 3
  have H := Lib.hid h
  clear h
  unfold burnt
  by_cases h0 : fu = 0
  · subst h0
    have H2 := Lib.hid (H.out.set 3 (.bool true))
    have HC := Lib.hid ((Ch.refl (fun i => i = f) w).set (p := ⟨f, 3, none⟩) (.inl rfl) (.bool true))
    clear h1 h2
    go_enter Tryz.func87, Tryz.ntmps87
    go_wp2
    go_ret
    exact ⟨rfl, H2.out, HC.out⟩
  · by_cases hp : 0 < fu
    · have H2 := Lib.hid (H.out.set 2 (.int .i64 (fu - 1)))
      have HC := Lib.hid ((Ch.refl (fun i => i = f) w).set (p := ⟨f, 2, none⟩) (.inl rfl) (.int .i64 (fu - 1)))
      have e1 : (fu == 0) = false := by simpa using h0
      have e2 : IntKind.i64.wrap (fu - 1) = fu - 1 := IntWalk.i64_in _ (by omega)
      have e3 : (fu != 0) = true := by simpa using h0
      rw [if_neg h0, if_pos hp, e3]
      clear h0 e3 h1 h2
      go_enter Tryz.func87, Tryz.ntmps87
      go_wp2
      go_ret
      exact ⟨rfl, H2.out, HC.out⟩
    · have e1 : (fu == 0) = false := by simpa using h0
      have e3 : (fu != 0) = true := by simpa using h0
      rw [if_neg h0, if_neg hp, e3]
      clear h0 e3 h1 h2
      go_enter Tryz.func87, Tryz.ntmps87
      go_wp2
      go_ret
      exact ⟨rfl, H.out, Ch.refl _ _⟩
set_option maxHeartbeats 4000000 in
/-- changed: the store's stamp, and the file's. -/
theorem changed_any (f b st : Nat) (a0 a2 a3 a4 c0 c1 c2 : Value) (w : World) (h : Bk w f 61 #[a0, .int .i64 (st : Int), a2, a3, a4]) (hb : Bk w b 87 #[c0, c1, c2]) (hst : st ≤ 1000000) :
    Calls Tryz.prog 88 #[.pointer (some ⟨f, 0, none⟩), .pointer (some ⟨b, 0, none⟩)] w fun e w' =>
      e = .returned (.int .i64 0) ∧ Bk w' f 61 #[a0, .int .i64 ((st + 1 : Nat) : Int), a2, a3, a4] ∧ Bk w' b 87 #[c0, c1, .int .i64 ((st + 1 : Nat) : Int)] ∧ Ch (fun i => i = f ∨ i = b) w w' := by
  have hne : f ≠ b := Bk.ne h hb (by decide)
  have d1 : w.cell? ⟨f, 1, none⟩ = some (.int .i64 (st : Int)) := h.cell 1
  have f1 := h.free 1
  have g2 : (w.setCell ⟨f, 1, none⟩ (.int .i64 ((st + 1 : Nat) : Int))).cell? ⟨b, 2, none⟩ = some c2 := (hb.far (p := ⟨f, 1, none⟩) (Ne.symm hne) _).cell 2
  have g3 := (hb.far (p := ⟨f, 1, none⟩) (Ne.symm hne) (.int .i64 ((st + 1 : Nat) : Int))).free 2
  have d1' : (w.setCell ⟨f, 1, none⟩ (.int .i64 ((st + 1 : Nat) : Int))).cell? ⟨f, 1, none⟩ = some (.int .i64 ((st + 1 : Nat) : Int)) := (h.set 1 _).cell 1
  have H1 := Lib.hid ((h.set 1 (.int .i64 ((st + 1 : Nat) : Int))).far (p := ⟨b, 2, none⟩) hne (.int .i64 ((st + 1 : Nat) : Int)))
  have H2 := Lib.hid ((hb.far (p := ⟨f, 1, none⟩) (Ne.symm hne) (.int .i64 ((st + 1 : Nat) : Int))).set 2 (.int .i64 ((st + 1 : Nat) : Int)))
  have HC := Lib.hid (((Ch.refl (fun i => i = f ∨ i = b) w).set (p := ⟨f, 1, none⟩) (.inl (.inl rfl)) (.int .i64 ((st + 1 : Nat) : Int))).set (p := ⟨b, 2, none⟩) (.inl (.inr rfl)) (.int .i64 ((st + 1 : Nat) : Int)))
  have e1 : IntKind.i64.wrap ((st : Int) + 1) = ((st + 1 : Nat) : Int) := by rw [IntWalk.i64_in _ (by omega)]; omega
  clear h hb hst hne
  generalize hs1 : ((st + 1 : Nat) : Int) = s1 at *
  clear hs1
  go_enter Tryz.func88, Tryz.ntmps88
  go_wp2
  go_ret
  exact ⟨rfl, H1.out, H2.out, HC.out⟩
theorem need_any (n : Nat) (w : World) (hn : n ≤ 100000000) : Calls Tryz.prog 91 #[.int .i64 (n : Int)] w fun e w' => e = .returned (.int .i64 (needN n : Int)) ∧ w' = w := by
  have e1 : IntKind.i64.wrap ((n : Int) + 64) = ((n + 64 : Nat) : Int) := by rw [IntWalk.i64_in _ (by omega)]; omega
  have e2 : IntKind.i64.wrap (((n + 64 : Nat) : Int) - 1) = ((n + 63 : Nat) : Int) := by rw [IntWalk.i64_in _ (by omega)]; omega
  have e3 : IntKind.i64.wrap (Int.tdiv ((n + 63 : Nat) : Int) 64) = (needN n : Int) := by
    rw [show (64 : Int) = ((64 : Nat) : Int) by rfl, Int.tdiv_eq_ediv_of_nonneg (by omega)]
    rw [IntWalk.i64_in _ (by omega)]; unfold needN; omega
  clear hn
  generalize hs1 : ((n + 64 : Nat) : Int) = s1 at *
  generalize hs2 : ((n + 63 : Nat) : Int) = s2 at *
  clear hs1 hs2
  go_enter Tryz.func91, Tryz.ntmps91
  go_wp2
  go_ret
  exact ⟨by first | rfl | trivial, by first | rfl | trivial⟩
end Go.Proofs.YtoadamkmabkldaaGreatDoor
/- Contracts of package vfs: grow. -/
namespace Go.Proofs.YtoadamkmabkldaaGreatDoor
open Go.RowKit
attribute [local go_sem ↓] Go.wp_at_zero Go.wp_at_succ

/-- A sector of zeros. -/
def zsl : Array Value := (List.replicate 128 (Value.int .u8 0) ++ [Value.bool false]).toArray
def zc (r : Nat) : Value := if r < 128 then .int .u8 0 else .bool false
theorem zsl_size : zsl.size = 129 := by unfold zsl; rw [List.size_toArray, List.length_append, List.length_replicate]; rfl
theorem zsl_len : zsl.toList.length = 129 := by rw [Array.length_toList]; exact zsl_size
theorem zsl_get (r : Nat) (h : r < 129) : zsl[r]? = some (zc r) := by
  unfold zsl zc
  rw [List.getElem?_toArray]
  by_cases h1 : r < 128
  · rw [if_pos h1, List.getElem?_append_left (by rw [List.length_replicate]; exact h1), List.getElem?_replicate, if_pos h1]
  · obtain rfl : r = 128 := by omega
    rw [if_neg (by omega), List.getElem?_append_right (by rw [List.length_replicate]; omega), List.length_replicate]
    rfl
theorem zsl_getL (r : Nat) (h : r < 129) : zsl.toList[r]? = some (zc r) := by rw [Array.getElem?_toList]; exact zsl_get r h
theorem zsl_one : ∀ u ∈ zsl.toList, u.oneCell' = true := by
  intro u hu
  simp only [zsl, List.mem_append, List.mem_replicate, List.mem_singleton] at hu
  rcases hu with ⟨_, rfl⟩ | rfl <;> rfl
theorem infoSl : (Tryz.prog.info? 92).map (fun i => (i.zero, i.size, i.bytes)) = some (some (.agg zsl), 129, 129) := by kernel_rfl
theorem infoSl' : ∃ i, Tryz.prog.info? 92 = some i ∧ i.zero = some (.agg zsl) ∧ i.size = 129 ∧ i.bytes = 129 := by
  have := infoSl
  cases h : Tryz.prog.info? 92 with
  | none => rw [h] at this; cases this
  | some i => rw [h] at this; simp only [Option.map_some, Option.some.injEq, Prod.mk.injEq] at this; exact ⟨i, rfl, this.1, this.2.1, this.2.2⟩
theorem zsl_built : Tryz.prog.built 92 [] = some zsl := by kernel_rfl
theorem run_zsl (w : World) : (Instr.build 92 #[]).run Tryz.prog w = .ok (.agg zsl) w := run_build w 92 #[] zsl zsl_built
theorem zsl_fill : Instr.fill (fun i => some (i * 129, 129)) ((Array.range (1 * 129)).map (zsl[· % zsl.size]!)) [(0, .agg zsl)] = some zsl := by kernel_rfl
theorem run_lit_zsl (w : World) : (Instr.buildSlice 85 1 #[(0, .agg zsl)]).run Tryz.prog w = .ok (.slice (some ⟨w.heap.size, 0, none⟩) 1 1) (w.alloc (.cells zsl 92)) := by
  obtain ⟨i, hi, hz, hs, _⟩ := infoSl'
  refine run_buildSlice w _ _ 1 _ zsl i (.agg zsl) Tryz.underlying85 hi hz (by rw [hs]; omega) (by rw [hs]; omega) ?_
  rw [hs]; exact zsl_fill
theorem toList_take_le {cs : Array Value} {n : Nat} : (cs.toList.take n).length = min n cs.size := by simp
theorem run_append_slot (w : World) (ty : TypeId) (sv : Value) (g L : Nat) (f : Nat → Nat → Value) (h : SlQ w sv g L f) (hL : L ≤ 100000) (b : Nat) (hb : Bk w b 92 zsl) :
    ∃ sv' g' w', (Builtin.append_ #[85, 85] ty #[sv, .slice (some ⟨b, 0, none⟩) 1 1]).run Tryz.prog w = .ok sv' w' ∧ SlQ w' sv' g' (L + 1) (fun k r => if k < L then f k r else zc r) ∧
      ((0 < L ∧ g' = g) ∨ w.heap.size ≤ g') ∧ Ch (fun i => 0 < L ∧ i = g) w w' := by
  obtain ⟨i, hi, hz, hs, hby⟩ := infoSl'
  have hu := Tryz.underlying85
  have hnews : ∀ j u, zsl.toList[j]? = some u → w.cell? ((⟨b, 0, none⟩ : Addr).add j) = some u := fun j u hj => by
    rw [addLit, hb.cell, Nat.zero_add]; simpa using hj
  have hl : zsl.toList.length = 1 * i.size := by rw [hs]; exact zsl_len
  have h129 : zsl.toList.length = 129 := zsl_len
  have hzl : (Value.agg zsl).cells.size = i.size := by rw [hs]; exact zsl_size
  obtain ⟨A, c, rfl, h1, h2, h3⟩ := h
  rcases h3 with ⟨rfl, rfl⟩ | ⟨h0, rfl, cs, hcs, h4, h5⟩
  · have hge := grownCap_ge w 1 0 92
    have hcm : grownCap w 1 0 92 ≤ maxLen := grownCap_le_maxLen w 1 0 92 (by unfold maxLen; omega)
    have key : SlQ (w.drew.alloc (.cells (zsl.toList.toArray ++ Builtin.zeroCells (Value.agg zsl).cells (grownCap w 1 0 92 - 1)) 92)) (.slice (some ⟨w.heap.size, 0, none⟩) 1 (grownCap w 1 0 92)) w.heap.size 1 (fun k r => if k < 0 then f k r else zc r) := by
      refine ⟨_, _, rfl, hge, hcm, .inr ⟨by omega, rfl, _, Bk.new w.drew _ _, ?_, fun k hk r hr => ?_⟩⟩
      · simp only [Array.size_append, List.size_toArray, h129, size_zeroCells, hzl, hs]
        omega
      · obtain rfl : k = 0 := by omega
        show _ = some (if 0 < 0 then f 0 r else zc r)
        rw [if_neg (by omega), Nat.zero_mul, Nat.zero_add, Array.getElem?_append_left (by simp only [List.size_toArray, h129]; omega), List.getElem?_toArray]
        exact zsl_getL r hr
    rcases A with _ | a
    · have hrun := run_append_nil (P := Tryz.prog) w 85 ty _ i _ hu hi hz ⟨b, 0, none⟩ 1 1 zsl.toList hl hnews (by omega) (by omega) (by rw [hby]; decide)
      exact ⟨_, w.heap.size, _, hrun, key, .inr (Nat.le_refl _), (Ch.refl _ _).drew.alloc _⟩
    · have hrun := run_append_grow (P := Tryz.prog) w 85 ty _ i _ hu hi hz a 0 0 [] (by simp) (fun j u hj => by simp at hj) ⟨b, 0, none⟩ 1 1 zsl.toList hl hnews (by omega) (by omega) (growslice_fits (by omega) (by rw [hby]; omega))
      rw [show ([] : List Value).toArray ++ zsl.toList.toArray = zsl.toList.toArray from Array.empty_append] at hrun
      exact ⟨_, w.heap.size, _, hrun, key, .inr (Nat.le_refl _), (Ch.refl _ _).drew.alloc _⟩
  · have hxs : ∀ k, k < L → ∀ r, r < 129 → (cs.toList.take (L * 129))[k * 129 + r]? = some (f k r) := fun k hk r hr => by
      rw [List.getElem?_take_of_lt (by omega), Array.getElem?_toList, h5 k hk r hr]
    have hlen : (cs.toList.take (L * 129)).length = L * 129 := by rw [toList_take_le]; omega
    by_cases hroom : L + 1 ≤ c
    · have hrun := run_append_room (P := Tryz.prog) w 85 ty _ i hu hi g L c cs hcs ⟨b, 0, none⟩ 1 1 zsl.toList hl hnews zsl_one hroom (by rw [hs, h129]; omega)
      refine ⟨_, g, _, hrun, ⟨_, _, rfl, hroom, h2, .inr ⟨by omega, rfl, _, hcs.setRow _, ?_, fun k hk r hr => ?_⟩⟩, .inl ⟨h0, rfl⟩, ⟨rfl, rfl, rfl, by simp, fun k hk hne => setRow_other w g k _ (fun e => hne ⟨h0, e⟩)⟩⟩
      · simp only [List.size_toArray, List.length_append, List.length_take, List.length_drop, Array.length_toList, hs, zsl_size]
        omega
      · rw [hs]
        simp only [List.getElem?_toArray]
        by_cases hkL : k < L
        · rw [if_pos hkL, List.append_assoc, List.getElem?_append_left (by rw [hlen]; omega)]
          exact hxs k hkL r hr
        · obtain rfl : k = L := by omega
          rw [if_neg hkL, List.append_assoc, List.getElem?_append_right (by rw [hlen]; omega), hlen, Nat.add_sub_cancel_left, List.getElem?_append_left (by rw [h129]; exact hr)]
          exact zsl_getL r hr
    · have hrun := run_append_grow (P := Tryz.prog) w 85 ty _ i _ hu hi hz ⟨g, 0, none⟩ L c (cs.toList.take (L * 129)) (by rw [hlen, hs]) (fun j u hj => by
        rw [addLit, hcs.cell, Nat.zero_add]
        have hj' : j < L * 129 := by rw [← hlen]; exact (List.getElem?_eq_some_iff.1 hj).1
        rw [List.getElem?_take_of_lt hj', Array.getElem?_toList] at hj
        exact hj) ⟨b, 0, none⟩ 1 1 zsl.toList hl hnews (by omega) (by omega) (growslice_fits (by omega) (by rw [hby]; omega))
      have hge := grownCap_ge w (L + 1) c 92
      have hcm : grownCap w (L + 1) c 92 ≤ maxLen := grownCap_le_maxLen w (L + 1) c 92 (by unfold maxLen; omega)
      refine ⟨_, w.heap.size, _, hrun, ⟨_, _, rfl, hge, hcm, .inr ⟨by omega, rfl, _, Bk.new w.drew _ _, ?_, fun k hk r hr => ?_⟩⟩, .inr (Nat.le_refl _), (Ch.refl _ _).drew.alloc _⟩
      · simp only [Array.size_append, List.size_toArray, hlen, h129, size_zeroCells, hzl, hs]
        omega
      · by_cases hkL : k < L
        · show _ = some (if k < L then f k r else zc r)
          rw [if_pos hkL, Array.append_assoc, Array.getElem?_append_left (by simp only [List.size_toArray, hlen]; omega), List.getElem?_toArray]
          exact hxs k hkL r hr
        · obtain rfl : k = L := by omega
          show _ = some (if k < k then f k r else zc r)
          rw [if_neg hkL, Array.append_assoc, Array.getElem?_append_right (by simp only [List.size_toArray, hlen]; omega)]
          simp only [List.size_toArray, hlen]
          rw [Nat.add_sub_cancel_left, Array.getElem?_append_left (by rw [List.size_toArray, h129]; exact hr), List.getElem?_toArray]
          exact zsl_getL r hr
end Go.Proofs.YtoadamkmabkldaaGreatDoor
/- Contracts of package vfs: grow. -/
namespace Go.Proofs.YtoadamkmabkldaaGreatDoor
open Go.RowKit
attribute [local go_sem ↓] Go.wp_at_zero Go.wp_at_succ

theorem byP_zeros (l : List UInt8) (m i : Nat) : byP (l ++ List.replicate m 0) i = byP l i := by
  unfold byP
  rw [List.getElem?_append]
  by_cases h : i < l.length
  · rw [if_pos h]
  · rw [if_neg h, List.getElem?_replicate, List.getElem?_eq_none (by omega : l.length ≤ i)]
    by_cases h2 : i - l.length < m
    · rw [if_pos h2]; rfl
    · rw [if_neg h2]
theorem byP_end {l : List UInt8} {i : Nat} (h : l.length ≤ i) : byP l i = 0 := by unfold byP; rw [List.getElem?_eq_none h]; rfl
theorem getD_falses (l : List Bool) (m i : Nat) : (l ++ List.replicate m false)[i]?.getD false = l[i]?.getD false := by
  rw [List.getElem?_append]
  by_cases h : i < l.length
  · rw [if_pos h]
  · rw [if_neg h, List.getElem?_replicate, List.getElem?_eq_none (by omega : l.length ≤ i)]
    by_cases h2 : i - l.length < m
    · rw [if_pos h2]; rfl
    · rw [if_neg h2]
theorem needN_le {n m : Nat} (h : n ≤ m) : needN n ≤ needN m := by unfold needN; omega
theorem needN_ge (n : Nat) : n ≤ 64 * needN n := by unfold needN; omega
theorem growP_len {x : FlP} (h : x.WF) {n : Nat} (hn : x.B.length ≤ n) : (growP x n).W.length = needN n ∧ (growP x n).B.length = n := by
  have := needN_le hn
  rw [← h.w] at this
  unfold growP
  simp only [List.length_append, List.length_replicate]
  omega
theorem growP_wf {x : FlP} (h : x.WF) {n : Nat} (hn : x.B.length ≤ n) : (growP x n).WF := by
  obtain ⟨h1, h2⟩ := growP_len h hn
  refine ⟨by rw [h1, h2], ?_⟩
  rw [h1]
  have := needN_le hn
  rw [← h.w] at this
  have := h.o
  unfold growP
  simp only [List.length_append, List.length_replicate]
  omega
theorem cellK_grow (x : FlP) (n k r : Nat) : cellK (growP x n) k r = cellK x k r := by
  unfold cellK growP
  simp only [byP_zeros, getD_falses]
/-- Behind the last sector all is zeros. -/
theorem cellK_end {x : FlP} (h : x.WF) {k r : Nat} (hk : x.W.length ≤ k) (hr : r < 129) : cellK x k r = zc r := by
  have h1 := needN_ge x.B.length
  rw [← h.w] at h1
  have h2 := h.o
  unfold cellK zc
  by_cases h3 : r < 64
  · rw [if_pos h3, if_pos (by omega), byP_end (by omega)]; rfl
  · by_cases h4 : r < 128
    · rw [if_neg h3, if_pos h4, if_pos h4, byP_end (by omega)]; rfl
    · rw [if_neg h3, if_neg h4, if_neg h4, List.getElem?_eq_none hk]; rfl
/-- A slice of one slot{}, at the operation. -/
theorem zsl_eq : Tryz.zeroCells92 = zsl := by kernel_rfl
theorem at_bld {P : Program} {w : World} {ops : Array Oper} {rest : List Oper} {a : Act} {Q : Exit → Act → World → Prop} {d : Option Tmp} {ty t : TypeId} {pos : String} {af : Array Edge} {g : Option (Nat × Bool)} {ps : Array (Nat × Operand)}
    (h : wpList P ops Q ({ dst := d, op := .build t ps, type := ty, pos := pos, after := af, guard := g } :: rest) a w) : wpList P ops Q ({ dst := d, op := .build t ps, type := ty, pos := pos, after := af, guard := g } :: rest) a w := h
theorem op_zsl {w : World} {ops : Array Oper} {rest : List Oper} {a : Act} {Q : Exit → Act → World → Prop} {d : Option Tmp} {ty : TypeId} {pos : String} {af : Array Edge} {g : Option (Nat × Bool)}
    (hw : Region.wanted { dst := d, op := .build 92 #[], type := ty, pos := pos, after := af, guard := g } (yielded ops a.tmps) = true)
    (h : wpList Tryz.prog ops Q rest (a.put d (.agg zsl)) w) : wpList Tryz.prog ops Q ({ dst := d, op := .build 92 #[], type := ty, pos := pos, after := af, guard := g } :: rest) a w :=
  BigFrame.wpList_want hw fun _ hK' => by
    unfold Oper.wp execOp
    simp only [List.map_toArray, List.map_nil, Sem.run_bind, run_zsl, Result.andThen_ok]
    exact hK' _ _ h
theorem at_lit {P : Program} {w : World} {ops : Array Oper} {rest : List Oper} {a : Act} {Q : Exit → Act → World → Prop} {d : Option Tmp} {ty t : TypeId} {pos : String} {af : Array Edge} {g : Option (Nat × Bool)} {n : Nat} {ps : Array (Nat × Operand)}
    (h : wpList P ops Q ({ dst := d, op := .buildSlice t n ps, type := ty, pos := pos, after := af, guard := g } :: rest) a w) : wpList P ops Q ({ dst := d, op := .buildSlice t n ps, type := ty, pos := pos, after := af, guard := g } :: rest) a w := h
theorem op_lit {w : World} {ops : Array Oper} {rest : List Oper} {a : Act} {Q : Exit → Act → World → Prop} {d : Option Tmp} {ty : TypeId} {pos : String} {af : Array Edge} {g : Option (Nat × Bool)} {x : Operand} (hx : a.eval x = .agg zsl)
    (hw : Region.wanted { dst := d, op := .buildSlice 85 1 #[(0, x)], type := ty, pos := pos, after := af, guard := g } (yielded ops a.tmps) = true)
    (h : wpList Tryz.prog ops Q rest (a.put d (.slice (some ⟨w.heap.size, 0, none⟩) 1 1)) (w.alloc (.cells zsl 92))) : wpList Tryz.prog ops Q ({ dst := d, op := .buildSlice 85 1 #[(0, x)], type := ty, pos := pos, after := af, guard := g } :: rest) a w :=
  BigFrame.wpList_want hw fun _ hK' => by
    unfold Oper.wp execOp
    simp only [List.map_toArray, List.map_cons, List.map_nil, hx, Sem.run_bind, run_lit_zsl, Result.andThen_ok]
    exact hK' _ _ h
/-- append(l, slot{}), at the operation. -/
theorem ap_slot {w : World} {ops : Array Oper} {rest : List Oper} {a : Act} {Q : Exit → Act → World → Prop} {d : Option Tmp} {ty : TypeId} {pos : String} {af : Array Edge} {g0 : Option (Nat × Bool)} {s x : Operand}
    {sv : Value} {g L : Nat} {f : Nat → Nat → Value} (h : SlQ w sv g L f) (hL : L ≤ 100000) {b : Nat} (hb : Bk w b 92 zsl) (hs : a.eval s = sv) (hx : a.eval x = .slice (some ⟨b, 0, none⟩) 1 1)
    (hw : Region.wanted { dst := d, op := .call { callee := .builtin .append, args := #[s, x], argTypes := #[85, 85] }, type := ty, pos := pos, after := af, guard := g0 } (yielded ops a.tmps) = true)
    (hK : ∀ sv' g' w', SlQ w' sv' g' (L + 1) (fun k r => if k < L then f k r else zc r) → ((0 < L ∧ g' = g) ∨ w.heap.size ≤ g') → Ch (fun i => 0 < L ∧ i = g) w w' → (∀ b' t cs, t ≠ 92 → Bk w b' t cs → Bk w' b' t cs) → wpList Tryz.prog ops Q rest (a.put d sv') w') :
    wpList Tryz.prog ops Q ({ dst := d, op := .call { callee := .builtin .append, args := #[s, x], argTypes := #[85, 85] }, type := ty, pos := pos, after := af, guard := g0 } :: rest) a w :=
  BigFrame.wpList_want hw fun _ hK' => by
    obtain ⟨sv', g', w', hrun, h1, h2, h3⟩ := run_append_slot w ty sv g L f h hL b hb
    unfold Oper.wp execOp
    simp only [resolve, invoke, builtin, Sem.run_bind, Sem.run_pure, Result.andThen_ok, List.map_toArray, List.map_cons, List.map_nil, hs, hx, hrun]
    exact hK' _ _ (hK sv' g' w' h1 h2 h3 (fun b' t cs ht hb' => hb'.ch h3 (by rintro ⟨e1, e2⟩; exact h.ne e1 hb' (Ne.symm ht) e2.symm)))
/-- How long a slice is. -/
def lenS : Value → Nat | .slice _ n _ => n | _ => 0
/-- How long the slice at the head of a block is. -/
def lenAt (w : World) (b : Nat) : Nat := match w.cell? ⟨b, 0, none⟩ with | some (.slice _ n _) => n | _ => 0
theorem lenAt_eq {w : World} {b n c : Nat} {A : Option Addr} (h : w.cell? ⟨b, 0, none⟩ = some (.slice A n c)) : lenAt w b = n := by unfold lenAt; rw [h]
theorem run_max (ats : Array TypeId) (ty : TypeId) (a b c : Int) (h : c = if a < b then b else a) (w : World) : (Builtin.max_ ats ty #[.int .i64 a, .int .i64 b]).run Tryz.prog w = .ok (.int .i64 c) w := by
  subst h
  by_cases h1 : a < b
  · simp [Builtin.max_, Builtin.max2, h1]
  · simp [Builtin.max_, Builtin.max2, h1]
theorem run_min (ats : Array TypeId) (ty : TypeId) (a b c : Int) (h : c = if b < a then b else a) (w : World) : (Builtin.min_ ats ty #[.int .i64 a, .int .i64 b]).run Tryz.prog w = .ok (.int .i64 c) w := by
  subst h
  by_cases h1 : b < a
  · simp [Builtin.min_, Builtin.min2, h1]
  · simp [Builtin.min_, Builtin.min2, h1]
set_option maxHeartbeats 4000000 in
set_option maxRecDepth 100000 in
theorem grow_any (b g : Nat) (sv : Value) (x : FlP) (n : Nat) (w : World) (h : FlM w b g sv x) (hw : x.WF) (hn : n ≤ 5000000) (hB : x.B.length ≤ 5000000) :
    Calls Tryz.prog 98 #[.pointer (some ⟨b, 0, none⟩), .int .i64 (n : Int)] w fun e w' => e = .returned (.tuple #[]) ∧
      ∃ sv' g', FlM w' b g' sv' (growP x (max x.B.length n)) ∧ (0 < needN (max x.B.length n) → (0 < x.W.length ∧ g' = g) ∨ w.heap.size ≤ g') ∧ Ch (fun i => i = b ∨ (0 < x.W.length ∧ i = g)) w w' := by
  have c1 : w.cell? ⟨b, 1, none⟩ = some (.int .i64 (x.B.length : Int)) := h.hd.cell 1
  have f1 := h.hd.free 1
  generalize hM : max x.B.length n = M at *
  have hMB : x.B.length ≤ M := by omega
  have hMn : M ≤ 5000000 := by omega
  have em := fun ats ty => run_max ats ty (x.B.length : Int) (n : Int) (M : Int) (by split <;> omega)
  have hLM : x.W.length ≤ needN M := by rw [hw.w]; exact needN_le hMB
  have hb1 := h.hd.set 1 (.int .i64 (M : Int))
  have hs1 : SlQ (w.setCell ⟨b, 1, none⟩ (.int .i64 (M : Int))) sv g x.W.length (cellK x) := h.sl.heap (fun h0 => Below.heap_setCell w _ _ g (h.ne h0))
  have H0 := Lib.hid (And.intro hb1 (And.intro hs1 ((Ch.refl (fun i => i = b ∨ (0 < x.W.length ∧ i = g)) w).set (p := ⟨b, 1, none⟩) (.inl (.inl rfl)) (.int .i64 (M : Int)))))
  have HW := Lib.hid hw
  have HB := Lib.hid h.hd.lt
  clear h hw hb1 hs1 hM
  go_enter Tryz.func98, Tryz.ntmps98
  go_wp2_with fail
  generalize w.setCell ⟨b, 1, none⟩ (.int .i64 (M : Int)) = w1 at *
  have HQ := Lib.hid (show ∃ sv' g' q, Bk w1 b 87 #[sv', .int .i64 (M : Int), .int .i64 (x.stamp : Int)] ∧ SlQ w1 sv' g' q (cellK x) ∧ x.W.length ≤ q ∧ q ≤ needN M ∧ (0 < q → (0 < x.W.length ∧ g' = g) ∨ w.heap.size ≤ g') ∧ Ch (fun i => i = b ∨ (0 < x.W.length ∧ i = g)) w w1 from
    ⟨sv, g, x.W.length, H0.out.1, H0.out.2.1, Nat.le_refl _, hLM, fun h0 => .inl ⟨h0, rfl⟩, H0.out.2.2⟩)
  clear H0 c1 f1
  go_loopw [] (fun wr => Hid (∃ sv' g' q, Bk wr b 87 #[sv', .int .i64 (M : Int), .int .i64 (x.stamp : Int)] ∧ SlQ wr sv' g' q (cellK x) ∧ x.W.length ≤ q ∧ q ≤ needN M ∧ (0 < q → (0 < x.W.length ∧ g' = g) ∨ w.heap.size ≤ g') ∧ Ch (fun i => i = b ∨ (0 < x.W.length ∧ i = g)) w wr)) (fun wr => needN M - lenAt wr b)
  case atStart => exact HQ
  case round =>
    obtain ⟨sv', g', q, r1, r2, r3, r4, r5, r6⟩ := hrel.out
    obtain ⟨A, c, rfl, _, _⟩ := r2.form
    have d0 : wr.cell? ⟨b, 0, none⟩ = some (.slice A q c) := r1.cell 0
    have d1 : wr.cell? ⟨b, 1, none⟩ = some (.int .i64 (M : Int)) := r1.cell 1
    have hneed := Lib.hid (fun W => need_any M W (by omega))
    have hm := Lib.hid (lenAt_eq d0)
    clear hrel
    by_cases hlt : q < needN M
    · have R := Lib.hid (And.intro r1 (And.intro r2 (And.intro r3 (And.intro r5 r6))))
      have hq : q ≤ 100000 := by unfold needN at hlt; omega
      have hz0 := Lib.hid (show w.heap.size ≤ wr.heap.size from r6.size)
      clear r1 r2 r3 r4 r5 r6
      go_wp2_with fail
      go_quiet ((go_at_call 91; exact Calls.quiet_of_same (hneed.out _)))
      go_wp2_with (first
        | (with_reducible refine at_bld ?_; refine op_zsl (by kernel_rfl) ?_; go_frame)
        | (with_reducible refine at_lit ?_; refine op_lit (by kernel_rfl) (by kernel_rfl) ?_; go_frame)
        | (with_reducible refine at_append ?_; refine ap_slot (R.out.2.1.lit _ _) hq (Bk.new _ _ _) (by kernel_rfl) (by kernel_rfl) (by kernel_rfl) ?_; intro sv2 g2 w2 s1 s2 s3 s4; obtain ⟨A2, c2, rfl, _, _⟩ := s1.form; have hb2 := s4 _ _ _ (by decide) ((R.out.1.drewN _).alloc _); have k0 := hb2.cell 0; have k0f := hb2.free 0; have hb3 := Lib.hid (hb2.set 0 (.slice A2 (q + 1) c2)); have k1 := Lib.hid hb2; clear hb2; replace s1 := Lib.hid s1; replace s3 := Lib.hid s3; replace s2 := Lib.hid s2; clear s4; go_frame))
      go_roundw
      case rel =>
        have hA : Ch (fun i => i = b ∨ (0 < x.W.length ∧ i = g)) w w2 := ((R.out.2.2.2.2.drewN _).alloc _).trans s3.out (by
          rintro i ⟨e1, rfl⟩
          rcases R.out.2.2.2.1 e1 with ⟨e2, rfl⟩ | e2
          · exact .inl (.inr ⟨e2, rfl⟩)
          · exact .inr e2)
        refine Lib.hid ⟨_, g2, q + 1, hb3.out, ?_, by have := R.out.2.2.1; omega, by omega, fun _ => ?_, hA.set (p := ⟨b, 0, none⟩) (.inl (.inl rfl)) _⟩
        · refine (s1.out.congr rfl (fun k hk r hr => ?_)).heap (fun h0 => Below.heap_setCell w2 _ _ g2 (s1.out.ne h0 k1.out (by decide)))
          by_cases hkq : k < q
          · rw [if_pos hkq]
          · rw [if_neg hkq]; exact (cellK_end HW.out (by have := R.out.2.2.1; omega) hr).symm
        · rcases s2.out with ⟨e1, rfl⟩ | e1
          · exact R.out.2.2.2.1 e1
          · refine .inr ?_
            have := hz0.out
            simp at e1
            omega
      case measure =>
        have e1 := lenAt_eq (hb3.out.cell 0)
        rw [e1, hm.out]
        omega
    · have : q = needN M := by omega
      subst this
      have R := Lib.hid (And.intro r1 (And.intro r2 (And.intro r5 r6)))
      clear r1 r2 r3 r4 r5 r6
      go_wp2_with fail
      go_quiet ((go_at_call 91; exact Calls.quiet_of_same (hneed.out _)))
      go_wp2_with fail
      go_end0
      refine ⟨rfl, .slice A (needN M) c, g', ⟨?_, ?_⟩, fun h0 => R.out.2.2.1 h0, R.out.2.2.2.drewN _⟩
      · rw [(growP_len HW.out hMB).2]; exact R.out.1.drewN _
      · exact (R.out.2.1.congr (growP_len HW.out hMB).1.symm (fun k hk r hr => (cellK_grow x M k r).symm)).heap (fun _ => rfl)
end Go.Proofs.YtoadamkmabkldaaGreatDoor
