/- Contracts of package vfs: a sector lasts, or does not. -/
import Derived.Test.YtoadamkmabkldaaGreatDoorJn06
import Derived.Lib.SliceRun
set_option linter.unusedVariables false
set_option linter.unusedSimpArgs false
namespace Go.Proofs.YtoadamkmabkldaaGreatDoor
open Go.RowKit
attribute [local go_sem ↓] Go.wp_at_zero Go.wp_at_succ

/-! ### plain -/
theorem byP_map (l : List UInt8) (f : Nat → UInt8 → UInt8) (i : Nat) : byP (l.mapIdx f) i = if i < l.length then f i (byP l i) else 0 := by
  unfold byP
  rw [List.getElem?_mapIdx]
  by_cases h : i < l.length
  · rw [if_pos h, List.getElem?_eq_getElem h]; rfl
  · rw [if_neg h, List.getElem?_eq_none (by omega)]; rfl
theorem lastP_wf {x : FlP} (h : x.WF) (k : Nat) : (lastP x k).WF := ⟨by simp [lastP]; exact h.w, by simp [lastP]; exact h.o⟩
theorem backP_wf {x : FlP} (h : x.WF) (k : Nat) : (backP x k).WF := ⟨by simp [backP]; exact h.w, by simp [backP]; exact h.o⟩
/-- What a file keeps while its sectors last. -/
structure SameF (x y : FlP) : Prop where
  b : y.B.length = x.B.length
  w : y.W.length = x.W.length
  s : y.stamp = x.stamp
  wf : y.WF
theorem SameF.refl {x : FlP} (h : x.WF) : SameF x x := ⟨rfl, rfl, rfl, h⟩
theorem SameF.trans {x y z : FlP} (h : SameF x y) (k : SameF y z) : SameF x z := ⟨k.b.trans h.b, k.w.trans h.w, k.s.trans h.s, k.wf⟩
theorem same_last {x : FlP} (h : x.WF) (k : Nat) : SameF x (lastP x k) := ⟨rfl, by simp [lastP], rfl, lastP_wf h k⟩
theorem same_back {x : FlP} (h : x.WF) (k : Nat) : SameF x (backP x k) := ⟨by simp [backP], rfl, rfl, backP_wf h k⟩
theorem same_crS {s : Nat × FlP} (h : s.2.WF) (keep : UInt64) (k : Nat) : SameF s.2 (crS keep k s).2 := by
  unfold crS
  split
  · dsimp only
    split
    · exact same_last h k
    · exact (same_back h k).trans (same_last (backP_wf h k) k)
  · exact SameF.refl h
theorem same_crN {s : Nat × FlP} (h : s.2.WF) (keep : UInt64) : ∀ k, SameF s.2 (crN keep s k).2
  | 0 => SameF.refl h
  | k + 1 => (same_crN h keep k).trans (same_crS (same_crN h keep k).wf keep k)
/-- The sector that lasts: its cells. -/
def lastV (x : FlP) (kept : Bool) (k r : Nat) : UInt8 := if 64 * k + r < x.B.length then (if kept then byP x.B (64 * k + r) else byP x.O (64 * k + r)) else 0
theorem cell_last {x : FlP} (h : x.WF) (kept : Bool) {k : Nat} (hk : k < x.W.length) (j r : Nat) (hj : j < x.W.length) (hr : r < 129) :
    cellK (lastP (if kept then x else backP x k) k) j r = if j = k then (if r < 64 then .int .u8 ((lastV x kept k r).toNat : Int) else if r < 128 then .int .u8 ((lastV x kept k (r - 64)).toNat : Int) else .bool false) else cellK x j r := by
  have hB : ∀ i, byP (if kept then x else backP x k).B i = if i / 64 = k ∧ i < x.B.length ∧ kept = false then byP x.O i else byP x.B i := by
    intro i
    cases kept with
    | true => simp
    | false =>
      simp only [backP, Bool.false_eq_true, if_false]
      rw [byP_map]
      by_cases h1 : i < x.B.length
      · rw [if_pos h1]
        by_cases h2 : i / 64 = k
        · rw [if_pos h2, if_pos ⟨h2, h1, trivial⟩]
        · rw [if_neg h2, if_neg (fun e => h2 e.1)]
      · rw [if_neg h1, if_neg (fun e => h1 e.2.1), byP_end (by omega)]
  have hO : (if kept then x else backP x k).O = x.O := by cases kept <;> rfl
  have hW : (if kept then x else backP x k).W = x.W := by cases kept <;> rfl
  have hv : ∀ r, r < 64 → byP (if kept then x else backP x k).B (64 * k + r) = lastV x kept k r := by
    intro r hr
    rw [hB]
    unfold lastV
    have e : (64 * k + r) / 64 = k := by omega
    by_cases h1 : 64 * k + r < x.B.length
    · rw [if_pos h1]
      cases kept with
      | true => rw [if_neg (by simp)]; rfl
      | false => rw [if_pos ⟨e, h1, rfl⟩]; rfl
    · rw [if_neg h1, if_neg (fun e => h1 e.2.1), byP_end (by omega)]
  unfold cellK lastP
  dsimp only
  by_cases hjk : j = k
  · subst hjk
    rw [if_pos rfl]
    by_cases h1 : r < 64
    · rw [if_pos h1, if_pos h1, hv r h1]
    · by_cases h2 : r < 128
      · rw [if_neg h1, if_pos h2, if_neg h1, if_pos h2, byP_map, hO, if_pos (by have := h.o; omega), if_pos (by omega), hv _ (by omega)]
      · rw [if_neg h1, if_neg h2, if_neg h1, if_neg h2, hW, List.getElem?_set_self (by exact hj)]; rfl
  · rw [if_neg hjk]
    by_cases h1 : r < 64
    · rw [if_pos h1, if_pos h1, hB, if_neg (by omega)]
    · by_cases h2 : r < 128
      · rw [if_neg h1, if_pos h2, if_neg h1, if_pos h2, byP_map, hO]
        by_cases h3 : 64 * j + (r - 64) < x.O.length
        · rw [if_pos h3, if_neg (by omega)]
        · rw [if_neg h3, byP_end (by omega)]
      · rw [if_neg h1, if_neg h2, if_neg h1, if_neg h2, hW, List.getElem?_set_ne (by omega)]
theorem crS_le (keep : UInt64) (k : Nat) (s : Nat × FlP) : (crS keep k s).1 ≤ s.1 + 1 := by unfold crS; split <;> simp
theorem crN_le (keep : UInt64) (s : Nat × FlP) : ∀ k, (crN keep s k).1 ≤ s.1 + k
  | 0 => Nat.le_refl _
  | k + 1 => by have := crN_le keep s k; have := crS_le keep k (crN keep s k); show (crS keep k (crN keep s k)).1 ≤ _; omega
theorem crI_le (keep : UInt64) : ∀ (l : List (List UInt8 × FlP)) (i : Nat), crI keep i l ≤ i + useP l
  | [], i => Nat.le_add_right _ _
  | (n, x) :: r, i => by
    have h1 := crI_le keep r (crF keep i x).1
    have h2 := crN_le keep (i, x) x.W.length
    show crI keep (crF keep i x).1 r ≤ _
    unfold crF at h1 ⊢
    unfold useP at h1 ⊢
    simp only [List.map_cons, List.sum_cons] at h1 h2 ⊢
    omega
theorem crF_same {x : FlP} (h : x.WF) (keep : UInt64) (i : Nat) : SameF x (crF keep i x).2 := same_crN (s := (i, x)) h keep _
/-! ### operations -/
theorem secI : (Tryz.prog.info? 90).map (·.size) = some 64 := by kernel_rfl
theorem secU' : Tryz.prog.underlying 90 = some (.array 64 5) := by kernel_rfl
theorem ld_sec {w : World} {ops : Array Oper} {rest : List Oper} {a : Act} {Q : Exit → Act → World → Prop} {d : Option Tmp} {ty : TypeId} {pos : String} {af : Array Edge} {x : Operand}
    {g o : Nat} {l : List UInt8} (hl : l.length = 64) (hc : w.rangeAt g o (bys l)) (hx : a.eval x = .pointer (some ⟨g, o, none⟩))
    (h : wpList Tryz.prog ops Q rest (a.put d (.agg (bys l).toArray)) w) :
    wpList Tryz.prog ops Q ({ dst := d, op := .load 90 x, type := ty, pos := pos, after := af, guard := none } :: rest) a w :=
  wpList_load_mid rfl _ x rfl g o hx (bys l) _ hc secU' rfl (by rw [secI, bys_len, hl]) h
theorem st_sec {w : World} {ops : Array Oper} {rest : List Oper} {a : Act} {Q : Exit → Act → World → Prop} {d : Option Tmp} {ty : TypeId} {pos : String} {af : Array Edge} {x y : Operand}
    {g o : Nat} {l : List UInt8} (hl : l.length = 64) (ht : w.there g o 64) (hx : a.eval x = .pointer (some ⟨g, o, none⟩)) (hy : a.eval y = .agg (bys l).toArray)
    (h : wpList Tryz.prog ops Q rest (a.put d undef) (w.setCells g o (bys l))) :
    wpList Tryz.prog ops Q ({ dst := d, op := .store 90 x y, type := ty, pos := pos, after := af, guard := none } :: rest) a w :=
  wpList_store_mid rfl _ x y rfl g o _ hx hy (by rw [List.size_toArray, bys_len, hl]; exact ht) (by rw [secI, List.size_toArray, bys_len, hl]) (all_oneCell_toArray (bys_one _)) h
/-- A sector from a place on, the end too. -/
theorem slice_sec2 {w : World} {ops : Array Oper} {rest : List Oper} {a : Act} {Q : Exit → Act → World → Prop} {d : Option Tmp} {ty : TypeId} {pos : String} {af : Array Edge} {g0 : Option (Nat × Bool)} {s lo : Operand}
    {g o : Nat} {kl : IntKind} {xl : Int} (r : Nat) (hr : r ≤ 64) (hs : a.eval s = .pointer (some ⟨g, o, none⟩)) (hl : a.eval lo = .int kl xl) (el : xl = (r : Int))
    (hw : Region.wanted { dst := d, op := .slice 90 s (some lo) none none, type := ty, pos := pos, after := af, guard := g0 } (yielded ops a.tmps) = true)
    (h : ∀ A, (r < 64 → A = some ⟨g, o + r, none⟩) → wpList Tryz.prog ops Q rest (a.put d (.slice A (64 - r) (64 - r))) w) :
    wpList Tryz.prog ops Q ({ dst := d, op := .slice 90 s (some lo) none none, type := ty, pos := pos, after := af, guard := g0 } :: rest) a w :=
  BigFrame.wpList_want hw fun _ hK => by
    subst el
    have hrun := run_sliceAt_array_l (P := Tryz.prog) w 90 ⟨g, o, none⟩ secU kl (r : Int) (by omega) (by rw [secL]; omega)
    rw [secE, secL, Tryz.sizeOf5 w] at hrun
    simp only [Result.andThen_ok, slicedAt, Int.toNat_natCast, addLit, Nat.mul_one] at hrun
    unfold Oper.wp execOp
    simp only [Option.map_some, Option.map_none, hs, hl, Sem.run_bind, hrun, Sem.run_pure, Result.andThen_ok, Oper.upon_value]
    exact hK _ _ (h _ (fun hlt => by rw [if_neg (by omega)]))
theorem at_clear {P : Program} {w : World} {ops : Array Oper} {rest : List Oper} {a : Act} {Q : Exit → Act → World → Prop} {d : Option Tmp} {ty : TypeId} {pos : String} {af : Array Edge} {g : Option (Nat × Bool)} {xs : Array Operand} {ts : Array TypeId}
    (h : wpList P ops Q ({ dst := d, op := .call { callee := .builtin .clear, args := xs, argTypes := ts }, type := ty, pos := pos, after := af, guard := g } :: rest) a w) : wpList P ops Q ({ dst := d, op := .call { callee := .builtin .clear, args := xs, argTypes := ts }, type := ty, pos := pos, after := af, guard := g } :: rest) a w := h
theorem zeroB (w : World) : (zeroValue 5).run Tryz.prog w = .ok (.int .u8 0) w := by kernel_rfl
/-- clear(s), s bytes in the middle of a block. -/
theorem cl_any {w : World} {ops : Array Oper} {rest : List Oper} {a : Act} {Q : Exit → Act → World → Prop} {d : Option Tmp} {ty : TypeId} {pos : String} {af : Array Edge} {g0 : Option (Nat × Bool)} {x : Operand}
    {g o n c : Nat} {A : Option Addr} {t : TypeId} {cs : Array Value} (hb : Bk w g t cs) (hfit : o + n ≤ cs.size) (hA : 0 < n → A = some ⟨g, o, none⟩)
    (hx : a.eval x = .slice A n c)
    (hw : Region.wanted { dst := d, op := .call { callee := .builtin .clear, args := #[x], argTypes := #[22] }, type := ty, pos := pos, after := af, guard := g0 } (yielded ops a.tmps) = true)
    (h : wpList Tryz.prog ops Q rest (a.put d (.tuple #[])) (w.setCells g o (List.replicate n (.int .u8 0)))) :
    wpList Tryz.prog ops Q ({ dst := d, op := .call { callee := .builtin .clear, args := #[x], argTypes := #[22] }, type := ty, pos := pos, after := af, guard := g0 } :: rest) a w :=
  BigFrame.wpList_want hw fun _ hK' => by
    have hrun : (Builtin.clear_ #[22] ty #[.slice A n c]).run Tryz.prog w = .ok (.tuple #[]) (w.setCells g o (List.replicate n (.int .u8 0))) := by
      rcases Nat.eq_zero_or_pos n with h0 | h0
      · subst h0
        cases A <;> simp [Builtin.clear_, run_underlying Tryz.underlying22, World.setCells, zeroB, Builtin.zeroCells, storeCells]
      · rw [hA h0]
        exact Go.Lib.run_clear_slice (P := Tryz.prog) w _ _ ty _ Tryz.underlying22 zeroB rfl rfl g o n c h0 (fun j hj => hb.isSome (by omega)) (fun j _ => hb.free _)
    unfold Oper.wp execOp
    simp only [resolve, invoke, builtin, Sem.run_bind, Sem.run_pure, Result.andThen_ok, List.map_toArray, List.map_cons, List.map_nil, hx, hrun]
    exact hK' _ _ h
end Go.Proofs.YtoadamkmabkldaaGreatDoor
/- Crashes, in plain words. -/
namespace Go.Proofs.YtoadamkmabkldaaGreatDoor
open Go.RowKit

theorem lookup_split {n : List UInt8} {x y : FlP} {l2 : List (List UInt8 × FlP)} (s : List UInt8) : ∀ {l1 : List (List UInt8 × FlP)}, (∀ p ∈ l1, p.1 ≠ n) → (l1 ++ (n, y) :: l2).lookup s = if s = n then some y else (l1 ++ (n, x) :: l2).lookup s
  | [], _ => by
    simp only [List.nil_append, List.lookup_cons]
    by_cases h : s = n
    · subst h; simp
    · rw [if_neg h, show (s == n) = false by simpa using h]
  | (m, z) :: r, h => by
    have hm : m ≠ n := h (m, z) (List.mem_cons_self ..)
    simp only [List.cons_append, List.lookup_cons]
    by_cases e : s = m
    · subst e; simp [hm]
    · rw [show (s == m) = false by simpa using e]
      exact lookup_split s (fun p hp => h p (List.mem_cons_of_mem _ hp))
theorem crashL_use (keep : UInt64) : ∀ (l : List (List UInt8 × FlP)) (i : Nat), (∀ p ∈ l, p.2.WF) → useP (crashL keep i l) = useP l
  | [], _, _ => rfl
  | (n, x) :: r, i, h => by
    have h1 := crashL_use keep r (crF keep i x).1 (fun p hp => h p (List.mem_cons_of_mem _ hp))
    have h2 := (crF_same (h _ (List.mem_cons_self ..)) keep i).w
    unfold useP at h1 ⊢
    unfold crashL
    simp only [List.map_cons, List.sum_cons] at h1 h2 ⊢
    omega
theorem crashL_wf (keep : UInt64) : ∀ (l : List (List UInt8 × FlP)) (i : Nat), (∀ p ∈ l, p.2.WF) → ∀ p ∈ crashL keep i l, p.2.WF
  | [], _, _, p, hp => by cases hp
  | (n, x) :: r, i, h, p, hp => by
    unfold crashL at hp
    rcases List.mem_cons.1 hp with rfl | hp
    · exact (crF_same (h _ (List.mem_cons_self ..)) keep i).wf
    · exact crashL_wf keep r _ (fun p hp => h p (List.mem_cons_of_mem _ hp)) p hp
theorem use_app (a b : List (List UInt8 × FlP)) : useP (a ++ b) = useP a + useP b := by simp [useP]
/-- What is there when so many files have been gone through. -/
def crT (keep : UInt64) (S : FsP) (j : Nat) : FsP := { S with fs := crashL keep 0 (S.fs.take j) ++ S.fs.drop j }
theorem crT_zero (keep : UInt64) (S : FsP) : crT keep S 0 = S := by cases S; rfl
theorem crT_names (keep : UInt64) (S : FsP) (j : Nat) : (crT keep S j).fs.map (·.1) = S.fs.map (·.1) := by
  unfold crT
  simp only [List.map_append, crashL_names]
  rw [← List.map_append, List.take_append_drop]
theorem crT_wf {S : FsP} (h : S.WF) (keep : UInt64) (j : Nat) : (crT keep S j).WF := by
  have hw : ∀ p ∈ S.fs.take j, p.2.WF := fun p hp => h.files p (List.mem_of_mem_take hp)
  refine ⟨h.most1, h.most2, h.fuse1, h.fuse2, fun p hp => ?_, ?_, ?_, fun p hp => ?_⟩
  · unfold crT at hp
    rcases List.mem_append.1 hp with hp | hp
    · exact crashL_wf keep _ _ hw p hp
    · exact h.files p (List.mem_of_mem_drop hp)
  · rw [sorted_names, crT_names, ← sorted_names]; exact h.order
  · show useP (crashL keep 0 (S.fs.take j) ++ S.fs.drop j) ≤ S.most
    rw [use_app, crashL_use _ _ _ hw, ← use_app, List.take_append_drop]
    exact h.room
  · have hm : p.1 ∈ (crT keep S j).fs.map (·.1) := List.mem_map_of_mem hp
    rw [crT_names] at hm
    obtain ⟨q, hq, e⟩ := List.mem_map.1 hm
    rw [← e]; exact h.names q hq
theorem crT_split {S : FsP} {j : Nat} {n : List UInt8} {x : FlP} (keep : UInt64) (hj : S.fs[j]? = some (n, x)) :
    (crT keep S j).fs = crashL keep 0 (S.fs.take j) ++ (n, x) :: S.fs.drop (j + 1) ∧ (crT keep S (j + 1)).fs = crashL keep 0 (S.fs.take j) ++ (n, (crF keep (crI keep 0 (S.fs.take j)) x).2) :: S.fs.drop (j + 1) := by
  obtain ⟨hlt, he⟩ := List.getElem?_eq_some_iff.1 hj
  unfold crT
  simp only
  constructor
  · rw [List.drop_eq_getElem_cons hlt, he]
  · rw [take_step hj, crashL_app, List.append_assoc]; rfl
theorem crT_find {S : FsP} {j : Nat} {n : List UInt8} {x : FlP} (h : S.WF) (keep : UInt64) (hj : S.fs[j]? = some (n, x)) (s : List UInt8) :
    findP (crT keep S (j + 1)) s = if s = n then some (crF keep (crI keep 0 (S.fs.take j)) x).2 else findP (crT keep S j) s := by
  obtain ⟨e1, e2⟩ := crT_split keep hj
  unfold findP
  rw [e1, e2]
  refine lookup_split s (fun p hp e => ?_)
  have ho := (crT_wf h keep j).order
  rw [e1] at ho
  have := (List.pairwise_append.1 ho).2.2 p hp (n, x) (List.mem_cons_self ..)
  simp only at this
  exact lt_irr _ (e ▸ this)
theorem crT_at {S : FsP} {j : Nat} {n : List UInt8} {x : FlP} (h : S.WF) (keep : UInt64) (hj : S.fs[j]? = some (n, x)) : findP (crT keep S j) n = some x := by
  obtain ⟨e1, e2⟩ := crT_split keep hj
  exact find_mem (crT_wf h keep j) (p := (n, x)) (by rw [e1]; simp)
theorem crT_all (keep : UInt64) (S : FsP) : crT keep S S.fs.length = { S with fs := crashL keep 0 S.fs } := by
  unfold crT
  rw [List.take_length, List.drop_length, List.append_nil]
theorem crashP_wf {S : FsP} (h : S.WF) (keep : UInt64) : (crashP S keep).WF := by
  have := crT_wf h keep S.fs.length
  rw [crT_all] at this
  exact ⟨this.most1, this.most2, by simp [crashP], by simp [crashP], this.files, this.order, this.room, this.names⟩
theorem crT_inv {S : FsP} (h : S.WF) (keep : UInt64) : ∀ (j : Nat) {n : List UInt8} {z : FlP}, findP (crT keep S j) n = some z → ∃ x, findP S n = some x ∧ SameF x z
  | 0, n, z, hz => by
    rw [crT_zero] at hz
    exact ⟨z, hz, SameF.refl (h.files _ (lookup_mem hz))⟩
  | j + 1, n, z, hz => by
    by_cases hj : j < S.fs.length
    · obtain ⟨n0, x, hjx⟩ : ∃ n x, S.fs[j]? = some (n, x) := ⟨_, _, List.getElem?_eq_getElem hj⟩
      rw [crT_find h keep hjx] at hz
      by_cases e : n = n0
      · rw [if_pos e] at hz
        have hx : findP S n0 = some x := find_mem h (p := (n0, x)) (List.mem_of_getElem? hjx)
        have hw := h.files _ (lookup_mem hx)
        rw [e, ← Option.some.inj hz]
        exact ⟨x, hx, crF_same hw keep _⟩
      · rw [if_neg e] at hz
        exact crT_inv h keep j hz
    · have e : crT keep S (j + 1) = crT keep S j := by
        unfold crT
        rw [List.take_of_length_le (by omega), List.take_of_length_le (by omega), List.drop_of_length_le (by omega), List.drop_of_length_le (by omega)]
      rw [e] at hz
      exact crT_inv h keep j hz
theorem crI_use {S : FsP} (h : S.WF) (keep : UInt64) (j : Nat) : crI keep 0 (S.fs.take j) ≤ 65536 := by
  have h1 := crI_le keep (S.fs.take j) 0
  have h2 : useP (S.fs.take j) ≤ useP S.fs := by
    rw [← List.take_append_drop j S.fs, use_app, List.take_append_drop]; exact Nat.le_add_right _ _
  have := h.room
  have := h.most2
  omega
end Go.Proofs.YtoadamkmabkldaaGreatDoor
/- Contracts of package vfs: Delete. -/
namespace Go.Proofs.YtoadamkmabkldaaGreatDoor
open Go.RowKit
attribute [local go_sem ↓] Go.wp_at_zero Go.wp_at_succ

/-- The files of a store have other names, or are gone. -/
theorem FsM.re {W W' : World} {f m : Nat} {bl gl : List UInt8 → Nat} {sv : List UInt8 → Value} {S S' : FsP} (h : FsM W f m bl gl sv S) (src : List UInt8 → List UInt8)
    (hS : ∀ s z, findP S' s = some z → ∃ x, findP S (src s) = some x ∧ z.W.length = x.W.length ∧ FlM W' (bl (src s)) (gl (src s)) (sv (src s)) z)
    (inj : ∀ s z s' z', findP S' s = some z → findP S' s' = some z' → src s = src s' → s = s')
    (hd : Bk W' f 61 #[.int .i64 (S'.most : Int), .int .i64 (S'.stamp : Int), .int .i64 S'.fuse, .bool S'.down, .map (some m)])
    (mp : MapS W' m S'.stamp (fun n => (findP S' n).map fun _ => bl (src n))) (wf : S'.WF) :
    FsM W' f m (fun n => bl (src n)) (fun n => gl (src n)) (fun n => sv (src n)) S' ∧ ∀ i, FsO f m (fun n => bl (src n)) (fun n => gl (src n)) S' i → FsO f m bl gl S i := by
  refine ⟨⟨hd, mp, fun s z hz => ?_, fun s z s' z' hz hz' he => ?_, fun s z s' z' hz hz' h0 h0' he => ?_, wf⟩, fun i hi => ?_⟩
  · obtain ⟨x, _, _, h3⟩ := hS s z hz; exact h3
  · obtain ⟨x, h1, _, _⟩ := hS s z hz
    obtain ⟨x', h1', _, _⟩ := hS s' z' hz'
    exact inj s z s' z' hz hz' (h.bi _ _ _ _ h1 h1' he)
  · obtain ⟨x, h1, h2, _⟩ := hS s z hz
    obtain ⟨x', h1', h2', _⟩ := hS s' z' hz'
    exact inj s z s' z' hz hz' (h.si _ _ _ _ h1 h1' (by omega) (by omega) he)
  · rcases hi with rfl | rfl | ⟨s, z, hz, hi⟩
    · exact .inl rfl
    · exact .inr (.inl rfl)
    · obtain ⟨x, h1, h2, _⟩ := hS s z hz
      refine .inr (.inr ⟨_, x, h1, ?_⟩)
      rw [h2] at hi
      exact hi
theorem at_delete {P : Program} {w : World} {ops : Array Oper} {rest : List Oper} {a : Act} {Q : Exit → Act → World → Prop} {d : Option Tmp} {ty : TypeId} {pos : String} {af : Array Edge} {g : Option (Nat × Bool)} {xs : Array Operand} {ts : Array TypeId}
    (h : wpList P ops Q ({ dst := d, op := .call { callee := .builtin .delete, args := xs, argTypes := ts }, type := ty, pos := pos, after := af, guard := g } :: rest) a w) : wpList P ops Q ({ dst := d, op := .call { callee := .builtin .delete, args := xs, argTypes := ts }, type := ty, pos := pos, after := af, guard := g } :: rest) a w := h
/-- delete(m, s), at the operation. -/
theorem op_del {w : World} {ops : Array Oper} {rest : List Oper} {a : Act} {Q : Exit → Act → World → Prop} {d : Option Tmp} {ty : TypeId} {pos : String} {af : Array Edge} {g : Option (Nat × Bool)} {x y : Operand}
    {m n : Nat} {f : List UInt8 → Option Nat} {s : ByteArray} (h : MapS w m n f) (hsz : s.size ≤ maxLen) (hm : a.eval x = .map (some m)) (hs : a.eval y = .string s)
    (hw : Region.wanted { dst := d, op := .call { callee := .builtin .delete, args := #[x, y], argTypes := #[59, 9] }, type := ty, pos := pos, after := af, guard := g } (yielded ops a.tmps) = true)
    (hK : ∀ w', MapS w' m n (fun t => if t = s.data.toList then none else f t) → w.grownBy w' (some m) → wpList Tryz.prog ops Q rest (a.put d (.tuple #[])) w') :
    wpList Tryz.prog ops Q ({ dst := d, op := .call { callee := .builtin .delete, args := #[x, y], argTypes := #[59, 9] }, type := ty, pos := pos, after := af, guard := g } :: rest) a w :=
  BigFrame.wpList_want hw fun _ hK' => by
    obtain ⟨w', hrun, h1, h2⟩ := h.del hsz ty
    unfold Oper.wp execOp
    simp only [resolve, invoke, builtin, Sem.run_bind, Sem.run_pure, Result.andThen_ok, List.map_toArray, List.map_cons, List.map_nil, hm, hs, hrun]
    exact hK' _ _ (hK w' h1 h2)
theorem goneF_wf {S : FsP} {n : List UInt8} (h : S.WF) : (goneF S n).WF := by
  have hb := burntP_wf h
  obtain ⟨e1, e2, e3, e4, _⟩ := burntP_parts S
  unfold goneF
  refine ⟨hb.most1, hb.most2, hb.fuse1, hb.fuse2, fun p hp => h.files p (drop_mem.1 hp).1, drop_sorted h.order, ?_, fun p hp => h.names p (drop_mem.1 hp).1⟩
  have := use_drop (n := n) (l := S.fs)
  have := h.room
  show useP (dropP n S.fs) ≤ (burntP S).most
  rw [e1]; omega
theorem find_gone {S : FsP} {n : List UInt8} (s : List UInt8) : findP (goneF S n) s = if s = n then none else findP S s := lookup_drop s
end Go.Proofs.YtoadamkmabkldaaGreatDoor
/- Contracts of package vfs: Rename. -/
namespace Go.Proofs.YtoadamkmabkldaaGreatDoor
open Go.RowKit
attribute [local go_sem ↓] Go.wp_at_zero Go.wp_at_succ

theorem use_dropped {n : List UInt8} {x : FlP} {l : List (List UInt8 × FlP)} (h : l.Pairwise fun p q => p.1 < q.1) (hx : l.lookup n = some x) : useP (dropP n l) + x.W.length = useP l := by
  unfold dropP
  induction l with
  | nil => cases hx
  | cons q r ih =>
    obtain ⟨m, z⟩ := q
    obtain ⟨h1, h2⟩ := List.pairwise_cons.1 h
    rw [List.lookup_cons] at hx
    by_cases hm : m = n
    · subst hm
      simp only [beq_self_eq_true, Option.some.injEq] at hx
      subst hx
      rw [List.filter_cons_of_neg (by simp), List.filter_eq_self.2 (fun p hp => by
        have := h1 p hp
        simp only [bne_iff_ne, ne_eq]
        rintro e
        exact lt_irr _ (e ▸ this))]
      simp only [useP, List.map_cons, List.sum_cons]
      omega
    · rw [show (n == m) = false by simpa using Ne.symm hm] at hx
      have := ih h2 hx
      rw [List.filter_cons_of_pos (by simpa using hm)]
      simp only [useP, List.map_cons, List.sum_cons] at this ⊢
      omega
theorem movedF_wf {S : FsP} {n k : List UInt8} {x : FlP} (h : S.WF) (hx : findP S n = some x) (hk : k.length ≤ 100) : (movedF S n k x).WF := by
  have hb := burntP_wf h
  obtain ⟨e1, e2, e3, e4, _⟩ := burntP_parts S
  have hxw := h.files _ (lookup_mem hx)
  have hd : (dropP n S.fs).Pairwise fun p q => p.1 < q.1 := drop_sorted h.order
  have hd2 : (dropP k (dropP n S.fs)).Pairwise fun p q => p.1 < q.1 := drop_sorted hd
  have huse : useP (dropP n S.fs) + x.W.length = useP S.fs := use_dropped h.order hx
  unfold movedF
  refine ⟨hb.most1, hb.most2, hb.fuse1, hb.fuse2, fun p hp => ?_, ins_sorted hd2 (fun p hp => (drop_mem.1 hp).2), ?_, fun p hp => ?_⟩
  · rcases ins_mem.1 hp with rfl | hp
    · exact ⟨hxw.w, hxw.o⟩
    · exact h.files p (drop_mem.1 (drop_mem.1 hp).1).1
  · have h1 := use_drop (n := k) (l := dropP n S.fs)
    have h2 := h.room
    show useP (insP k _ (dropP k (dropP n S.fs))) ≤ (burntP S).most
    rw [use_ins, e1]
    simp only
    omega
  · rcases ins_mem.1 hp with rfl | hp
    · exact hk
    · exact h.names p (drop_mem.1 (drop_mem.1 hp).1).1
theorem find_moved {S : FsP} {n k : List UInt8} {x : FlP} (s : List UInt8) : findP (movedF S n k x) s = if s = k then some { x with stamp := S.stamp + 1 } else if s = n then none else findP S s := by
  have h1 : findP (movedF S n k x) s = _ := lookup_ins (n := k) (x := { x with stamp := S.stamp + 1 }) (l := dropP k (dropP n S.fs)) (fun p hp => (drop_mem.1 hp).2) s
  rw [h1, lookup_drop, lookup_drop]
  by_cases e : s = k
  · rw [if_pos e, if_pos e]
  · rw [if_neg e, if_neg e, if_neg e]; rfl
end Go.Proofs.YtoadamkmabkldaaGreatDoor
/- A sector in a crash, cell by cell. -/
namespace Go.Proofs.YtoadamkmabkldaaGreatDoor
open Go.RowKit

/-- What lasts of a sector; what it is behind the crash. -/
def oldL (x : FlP) (k : Nat) : List UInt8 := (List.range 64).map fun r => byP x.O (64 * k + r)
def nowL (x : FlP) (kept : Bool) (k : Nat) : List UInt8 := (List.range 64).map fun r => lastV x kept k r
theorem oldL_len (x : FlP) (k : Nat) : (oldL x k).length = 64 := by simp [oldL]
theorem nowL_len (x : FlP) (kept : Bool) (k : Nat) : (nowL x kept k).length = 64 := by simp [nowL]
theorem bys_oldL {x : FlP} {k r : Nat} (hr : r < 64) : (bys (oldL x k))[r]? = some (.int .u8 ((byP x.O (64 * k + r)).toNat : Int)) := by simp [bys, oldL, hr]
theorem bys_nowL {x : FlP} {kept : Bool} {k r : Nat} (hr : r < 64) : (bys (nowL x kept k))[r]? = some (.int .u8 ((lastV x kept k r).toNat : Int)) := by simp [bys, nowL, hr]
def csA (cs : Array Value) (x : FlP) (kept : Bool) (k : Nat) : Array Value := if kept then cs else putA cs (k * 129) (bys (oldL x k))
def csB (cs : Array Value) (x : FlP) (kept : Bool) (k r0 : Nat) : Array Value := putA (csA cs x kept k) (k * 129 + r0) (List.replicate (64 - r0) (.int .u8 0))
def csC (cs : Array Value) (x : FlP) (kept : Bool) (k r0 : Nat) : Array Value := putA (csB cs x kept k r0) (k * 129 + 64) (bys (nowL x kept k))
def csD (cs : Array Value) (x : FlP) (kept : Bool) (k r0 : Nat) : Array Value := (csC cs x kept k r0).setIfInBounds (k * 129 + 128) (.bool false)
section
variable {cs : Array Value} {x : FlP} {kept : Bool} {k r0 : Nat}
theorem csA_size : (csA cs x kept k).size = cs.size := by unfold csA; split <;> simp [putA_size]
theorem csB_size : (csB cs x kept k r0).size = cs.size := by unfold csB; rw [putA_size, csA_size]
theorem csC_size : (csC cs x kept k r0).size = cs.size := by unfold csC; rw [putA_size, csB_size]
theorem csD_size : (csD cs x kept k r0).size = cs.size := by unfold csD; rw [Array.size_setIfInBounds, csC_size]
variable (hc : ∀ j, j < x.W.length → ∀ r, r < 129 → cs[j * 129 + r]? = some (cellK x j r)) (hk : k < x.W.length) (hsz : x.W.length * 129 ≤ cs.size)
include hk hsz in
theorem fitK : k * 129 + 129 ≤ cs.size := by omega
include hc hk in
theorem cs_old : ∀ r, r < 64 → cs[k * 129 + (64 + r)]? = (bys (oldL x k))[r]? := fun r hr => by
  rw [hc k hk (64 + r) (by omega), bys_oldL hr]
  unfold cellK
  rw [if_neg (by omega), if_pos (by omega), show 64 * k + (64 + r - 64) = 64 * k + r by omega]
include hc hk hsz in
theorem csA_now {r : Nat} (hr : r < 64) : (csA cs x kept k)[k * 129 + r]? = some (.int .u8 ((if kept then byP x.B (64 * k + r) else byP x.O (64 * k + r)).toNat : Int)) := by
  unfold csA
  cases kept with
  | true =>
    simp only [if_true]
    rw [hc k hk r (by omega)]
    unfold cellK
    rw [if_pos hr]
  | false =>
    simp only [Bool.false_eq_true, if_false]
    rw [putA_in (by omega) (by rw [bys_len, oldL_len]; omega) (by rw [bys_len, oldL_len]; omega), Nat.add_sub_cancel_left, bys_oldL hr]
theorem csA_out {i : Nat} (hi : i < k * 129 ∨ k * 129 + 64 ≤ i) : (csA cs x kept k)[i]? = cs[i]? := by
  unfold csA
  split
  · rfl
  · exact putA_out (by rw [bys_len, oldL_len]; omega)
include hc hk hsz in
theorem csB_now (hr0 : r0 = min (x.B.length - 64 * k) 64) {r : Nat} (hr : r < 64) : (csB cs x kept k r0)[k * 129 + r]? = some (.int .u8 ((lastV x kept k r).toNat : Int)) := by
  have hsA : (csA cs x kept k).size = cs.size := csA_size
  unfold csB lastV
  by_cases h : r < r0
  · rw [putA_out (by omega), csA_now hc hk hsz hr, if_pos (show 64 * k + r < x.B.length by omega)]
  · rw [putA_in (by omega) (by rw [List.length_replicate]; omega) (by rw [List.length_replicate]; omega), if_neg (show ¬ 64 * k + r < x.B.length by omega), List.getElem?_replicate, if_pos (by omega)]
    rfl
theorem csB_out (hr0 : r0 ≤ 64) {i : Nat} (hi : i < k * 129 ∨ k * 129 + 64 ≤ i) : (csB cs x kept k r0)[i]? = cs[i]? := by
  unfold csB
  rw [putA_out (by rw [List.length_replicate]; omega), csA_out hi]
include hc hk hsz in
theorem csD_all (hw : x.WF) (hr0 : r0 = min (x.B.length - 64 * k) 64) (j : Nat) (hj : j < x.W.length) (r : Nat) (hr : r < 129) :
    (csD cs x kept k r0)[j * 129 + r]? = some (cellK (lastP (if kept then x else backP x k) k) j r) := by
  rw [cell_last hw kept hk j r hj hr]
  unfold csD
  by_cases hjk : j = k
  · subst hjk
    rw [if_pos rfl]
    by_cases h1 : r < 64
    · rw [if_pos h1, Array.getElem?_setIfInBounds_ne (by omega)]
      unfold csC
      rw [putA_out (by omega), csB_now hc hk hsz hr0 h1]
    · by_cases h2 : r < 128
      · rw [if_neg h1, if_pos h2, Array.getElem?_setIfInBounds_ne (by omega)]
        unfold csC
        rw [putA_in (by omega) (by rw [bys_len, nowL_len]; omega) (by rw [bys_len, nowL_len, csB_size]; omega), show j * 129 + r - (j * 129 + 64) = r - 64 by omega, bys_nowL (by omega)]
      · obtain rfl : r = 128 := by omega
        rw [if_neg h1, if_neg h2, Array.getElem?_setIfInBounds_self, csC_size, if_pos (by omega)]
  · rw [if_neg hjk, Array.getElem?_setIfInBounds_ne (by omega)]
    unfold csC
    rw [putA_out (by rw [bys_len, nowL_len]; omega), csB_out (by omega) (by omega), hc j hj r hr]
end
theorem lastV_kept {x : FlP} {k r : Nat} : lastV x true k r = byP x.B (64 * k + r) := by
  unfold lastV
  by_cases h : 64 * k + r < x.B.length
  · rw [if_pos h]; rfl
  · rw [if_neg h, byP_end (by omega)]
end Go.Proofs.YtoadamkmabkldaaGreatDoor
