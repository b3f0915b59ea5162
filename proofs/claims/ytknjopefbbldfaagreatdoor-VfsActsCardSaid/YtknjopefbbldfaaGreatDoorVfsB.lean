/- Contracts of package vfs: a sector lasts, or does not. -/
import Derived.Test.YtknjopefbbldfaaGreatDoorVfsA
import Derived.Lib.SliceRun
namespace Go.Proofs.YtknjopefbbldfaaGreatDoor
open Go.RowKit
attribute [local go_sem ↓] Go.wp_at_zero Go.wp_at_succ

/-! ### plain -/
theorem byP_map (l : List UInt8) (f : Nat → UInt8 → UInt8) (i : Nat) : byP (l.mapIdx f) i = if i < l.length then f i (byP l i) else 0 := by
  unfold byP
  rw [List.getElem?_mapIdx]
  by_cases h : i < l.length
  · rw [if_pos h, List.getElem?_eq_getElem h]; rfl
  · rw [if_neg h, List.getElem?_eq_none (by omega)]; rfl
theorem lastP_wf {x : FlP} (h : x.WF) (k : Nat) : (lastP x k).WF := ⟨by simp [lastP]; exact h.w, by simp [lastP]; exact h.o⟩
theorem backP_wf {x : FlP} (h : x.WF) (k : Nat) : (backP x k).WF := ⟨by simp [backP]; exact h.w, by simp [backP]; exact h.o⟩
/-- What a file keeps while its sectors last. -/
structure SameF (x y : FlP) : Prop where
  b : y.B.length = x.B.length
  w : y.W.length = x.W.length
  s : y.stamp = x.stamp
  wf : y.WF
theorem SameF.refl {x : FlP} (h : x.WF) : SameF x x := ⟨rfl, rfl, rfl, h⟩
theorem SameF.trans {x y z : FlP} (h : SameF x y) (k : SameF y z) : SameF x z := ⟨k.b.trans h.b, k.w.trans h.w, k.s.trans h.s, k.wf⟩
theorem same_last {x : FlP} (h : x.WF) (k : Nat) : SameF x (lastP x k) := ⟨rfl, by simp [lastP], rfl, lastP_wf h k⟩
theorem same_back {x : FlP} (h : x.WF) (k : Nat) : SameF x (backP x k) := ⟨by simp [backP], rfl, rfl, backP_wf h k⟩
theorem same_crS {s : Nat × FlP} (h : s.2.WF) (keep : UInt64) (k : Nat) : SameF s.2 (crS keep k s).2 := by
  unfold crS
  split
  · dsimp only
    split
    · exact same_last h k
    · exact (same_back h k).trans (same_last (backP_wf h k) k)
  · exact SameF.refl h
theorem same_crN {s : Nat × FlP} (h : s.2.WF) (keep : UInt64) : ∀ k, SameF s.2 (crN keep s k).2
  | 0 => SameF.refl h
  | k + 1 => (same_crN h keep k).trans (same_crS (same_crN h keep k).wf keep k)
/-- The sector that lasts: its cells. -/
def lastV (x : FlP) (kept : Bool) (k r : Nat) : UInt8 := if 64 * k + r < x.B.length then (if kept then byP x.B (64 * k + r) else byP x.O (64 * k + r)) else 0
theorem cell_last {x : FlP} (h : x.WF) (kept : Bool) {k : Nat} (hk : k < x.W.length) (j r : Nat) (hj : j < x.W.length) (hr : r < 129) :
    cellK (lastP (if kept then x else backP x k) k) j r = if j = k then (if r < 64 then .int .u8 ((lastV x kept k r).toNat : Int) else if r < 128 then .int .u8 ((lastV x kept k (r - 64)).toNat : Int) else .bool false) else cellK x j r := by
  have hB : ∀ i, byP (if kept then x else backP x k).B i = if i / 64 = k ∧ i < x.B.length ∧ kept = false then byP x.O i else byP x.B i := by
    intro i
    cases kept with
    | true => simp
    | false =>
      simp only [backP, Bool.false_eq_true, if_false]
      rw [byP_map]
      by_cases h1 : i < x.B.length
      · rw [if_pos h1]
        by_cases h2 : i / 64 = k
        · rw [if_pos h2, if_pos ⟨h2, h1, trivial⟩]
        · rw [if_neg h2, if_neg (fun e => h2 e.1)]
      · rw [if_neg h1, if_neg (fun e => h1 e.2.1), byP_end (by omega)]
  have hO : (if kept then x else backP x k).O = x.O := by cases kept <;> rfl
  have hW : (if kept then x else backP x k).W = x.W := by cases kept <;> rfl
  have hv : ∀ r, r < 64 → byP (if kept then x else backP x k).B (64 * k + r) = lastV x kept k r := by
    intro r hr
    rw [hB]
    unfold lastV
    have e : (64 * k + r) / 64 = k := by omega
    by_cases h1 : 64 * k + r < x.B.length
    · rw [if_pos h1]
      cases kept with
      | true => rw [if_neg (by simp)]; rfl
      | false => rw [if_pos ⟨e, h1, rfl⟩]; rfl
    · rw [if_neg h1, if_neg (fun e => h1 e.2.1), byP_end (by omega)]
  unfold cellK lastP
  dsimp only
  by_cases hjk : j = k
  · subst hjk
    rw [if_pos rfl]
    by_cases h1 : r < 64
    · rw [if_pos h1, if_pos h1, hv r h1]
    · by_cases h2 : r < 128
      · rw [if_neg h1, if_pos h2, if_neg h1, if_pos h2, byP_map, hO, if_pos (by have := h.o; omega), if_pos (by omega), hv _ (by omega)]
      · rw [if_neg h1, if_neg h2, if_neg h1, if_neg h2, hW, List.getElem?_set_self (by exact hj)]; rfl
  · rw [if_neg hjk]
    by_cases h1 : r < 64
    · rw [if_pos h1, if_pos h1, hB, if_neg (by omega)]
    · by_cases h2 : r < 128
      · rw [if_neg h1, if_pos h2, if_neg h1, if_pos h2, byP_map, hO]
        by_cases h3 : 64 * j + (r - 64) < x.O.length
        · rw [if_pos h3, if_neg (by omega)]
        · rw [if_neg h3, byP_end (by omega)]
      · rw [if_neg h1, if_neg h2, if_neg h1, if_neg h2, hW, List.getElem?_set_ne (by omega)]
theorem crS_le (keep : UInt64) (k : Nat) (s : Nat × FlP) : (crS keep k s).1 ≤ s.1 + 1 := by unfold crS; split <;> simp
theorem crN_le (keep : UInt64) (s : Nat × FlP) : ∀ k, (crN keep s k).1 ≤ s.1 + k
  | 0 => Nat.le_refl _
  | k + 1 => by have := crN_le keep s k; have := crS_le keep k (crN keep s k); show (crS keep k (crN keep s k)).1 ≤ _; omega
theorem crI_le (keep : UInt64) : ∀ (l : List (List UInt8 × FlP)) (i : Nat), crI keep i l ≤ i + useP l
  | [], i => Nat.le_add_right _ _
  | (n, x) :: r, i => by
    have h1 := crI_le keep r (crF keep i x).1
    have h2 := crN_le keep (i, x) x.W.length
    show crI keep (crF keep i x).1 r ≤ _
    unfold crF at h1 ⊢
    unfold useP at h1 ⊢
    simp only [List.map_cons, List.sum_cons] at h1 h2 ⊢
    omega
theorem crF_same {x : FlP} (h : x.WF) (keep : UInt64) (i : Nat) : SameF x (crF keep i x).2 := same_crN (s := (i, x)) h keep _
/-! ### operations -/
theorem secI : (Tryz.prog.info? 79).map (·.size) = some 64 := by kernel_rfl
theorem secU' : Tryz.prog.underlying 79 = some (.array 64 5) := by kernel_rfl
theorem ld_sec {w : World} {ops : Array Oper} {rest : List Oper} {a : Act} {Q : Exit → Act → World → Prop} {d : Option Tmp} {ty : TypeId} {pos : String} {af : Array Edge} {x : Operand}
    {g o : Nat} {l : List UInt8} (hl : l.length = 64) (hc : w.rangeAt g o (bys l)) (hx : a.eval x = .pointer (some ⟨g, o, none⟩))
    (h : wpList Tryz.prog ops Q rest (a.put d (.agg (bys l).toArray)) w) :
    wpList Tryz.prog ops Q ({ dst := d, op := .load 79 x, type := ty, pos := pos, after := af, guard := none } :: rest) a w :=
  wpList_load_mid rfl _ x rfl g o hx (bys l) _ hc secU' rfl (by rw [secI, bys_len, hl]) h
theorem st_sec {w : World} {ops : Array Oper} {rest : List Oper} {a : Act} {Q : Exit → Act → World → Prop} {d : Option Tmp} {ty : TypeId} {pos : String} {af : Array Edge} {x y : Operand}
    {g o : Nat} {l : List UInt8} (hl : l.length = 64) (ht : w.there g o 64) (hx : a.eval x = .pointer (some ⟨g, o, none⟩)) (hy : a.eval y = .agg (bys l).toArray)
    (h : wpList Tryz.prog ops Q rest (a.put d undef) (w.setCells g o (bys l))) :
    wpList Tryz.prog ops Q ({ dst := d, op := .store 79 x y, type := ty, pos := pos, after := af, guard := none } :: rest) a w :=
  wpList_store_mid rfl _ x y rfl g o _ hx hy (by rw [List.size_toArray, bys_len, hl]; exact ht) (by rw [secI, List.size_toArray, bys_len, hl]) (all_oneCell_toArray (bys_one _)) h
/-- A sector from a place on, the end too. -/
theorem slice_sec2 {w : World} {ops : Array Oper} {rest : List Oper} {a : Act} {Q : Exit → Act → World → Prop} {d : Option Tmp} {ty : TypeId} {pos : String} {af : Array Edge} {g0 : Option (Nat × Bool)} {s lo : Operand}
    {g o : Nat} {kl : IntKind} {xl : Int} (r : Nat) (hr : r ≤ 64) (hs : a.eval s = .pointer (some ⟨g, o, none⟩)) (hl : a.eval lo = .int kl xl) (el : xl = (r : Int))
    (hw : Region.wanted { dst := d, op := .slice 79 s (some lo) none none, type := ty, pos := pos, after := af, guard := g0 } (yielded ops a.tmps) = true)
    (h : ∀ A, (r < 64 → A = some ⟨g, o + r, none⟩) → wpList Tryz.prog ops Q rest (a.put d (.slice A (64 - r) (64 - r))) w) :
    wpList Tryz.prog ops Q ({ dst := d, op := .slice 79 s (some lo) none none, type := ty, pos := pos, after := af, guard := g0 } :: rest) a w :=
  BigFrame.wpList_want hw fun _ hK => by
    subst el
    have hrun := run_sliceAt_array_l (P := Tryz.prog) w 79 ⟨g, o, none⟩ secU kl (r : Int) (by omega) (by rw [secL]; omega)
    rw [secE, secL, Tryz.sizeOf5 w] at hrun
    simp only [Result.andThen_ok, slicedAt, Int.toNat_natCast, addLit, Nat.mul_one] at hrun
    unfold Oper.wp execOp
    simp only [Option.map_some, Option.map_none, hs, hl, Sem.run_bind, hrun, Sem.run_pure, Result.andThen_ok, Oper.upon_value]
    exact hK _ _ (h _ (fun hlt => by rw [if_neg (by omega)]))
theorem at_clear {P : Program} {w : World} {ops : Array Oper} {rest : List Oper} {a : Act} {Q : Exit → Act → World → Prop} {d : Option Tmp} {ty : TypeId} {pos : String} {af : Array Edge} {g : Option (Nat × Bool)} {xs : Array Operand} {ts : Array TypeId}
    (h : wpList P ops Q ({ dst := d, op := .call { callee := .builtin .clear, args := xs, argTypes := ts }, type := ty, pos := pos, after := af, guard := g } :: rest) a w) : wpList P ops Q ({ dst := d, op := .call { callee := .builtin .clear, args := xs, argTypes := ts }, type := ty, pos := pos, after := af, guard := g } :: rest) a w := h
theorem zeroB (w : World) : (zeroValue 5).run Tryz.prog w = .ok (.int .u8 0) w := by kernel_rfl
/-- clear(s), s bytes in the middle of a block. -/
theorem cl_any {w : World} {ops : Array Oper} {rest : List Oper} {a : Act} {Q : Exit → Act → World → Prop} {d : Option Tmp} {ty : TypeId} {pos : String} {af : Array Edge} {g0 : Option (Nat × Bool)} {x : Operand}
    {g o n c : Nat} {A : Option Addr} {t : TypeId} {cs : Array Value} (hb : Bk w g t cs) (hfit : o + n ≤ cs.size) (hA : 0 < n → A = some ⟨g, o, none⟩)
    (hx : a.eval x = .slice A n c)
    (hw : Region.wanted { dst := d, op := .call { callee := .builtin .clear, args := #[x], argTypes := #[29] }, type := ty, pos := pos, after := af, guard := g0 } (yielded ops a.tmps) = true)
    (h : wpList Tryz.prog ops Q rest (a.put d (.tuple #[])) (w.setCells g o (List.replicate n (.int .u8 0)))) :
    wpList Tryz.prog ops Q ({ dst := d, op := .call { callee := .builtin .clear, args := #[x], argTypes := #[29] }, type := ty, pos := pos, after := af, guard := g0 } :: rest) a w :=
  BigFrame.wpList_want hw fun _ hK' => by
    have hrun : (Builtin.clear_ #[29] ty #[.slice A n c]).run Tryz.prog w = .ok (.tuple #[]) (w.setCells g o (List.replicate n (.int .u8 0))) := by
      rcases Nat.eq_zero_or_pos n with h0 | h0
      · subst h0
        cases A <;> simp [Builtin.clear_, run_underlying Tryz.underlying29, World.setCells, zeroB, Builtin.zeroCells, storeCells]
      · rw [hA h0]
        exact Go.Lib.run_clear_slice (P := Tryz.prog) w _ _ ty _ Tryz.underlying29 zeroB rfl rfl g o n c h0 (fun j hj => hb.isSome (by omega)) (fun j _ => hb.free _)
    unfold Oper.wp execOp
    simp only [resolve, invoke, builtin, Sem.run_bind, Sem.run_pure, Result.andThen_ok, List.map_toArray, List.map_cons, List.map_nil, hx, hrun]
    exact hK' _ _ h
end Go.Proofs.YtknjopefbbldfaaGreatDoor
