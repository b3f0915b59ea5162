/- Rows of []byte values of the call's own; words in another order. -/
import Derived.Test.YthfpdiaobkccbaaAhoS2
namespace Go.Proofs.Ythfpdiaobkccbaa
open Go.RowKit

theorem infoRB : (Try.prog.info? 23).map (fun i => (i.zero, i.size, i.bytes)) = some (some (.slice none 0 0), 1, 24) := by kernel_rfl
theorem RdB.one {w : World} {B : Nat} {v : Value} {l : List UInt8} (h : RdB w B v l) : v.oneCell' = true := by
  obtain ⟨A, n, c, rfl, _⟩ := h; rfl
theorem RdB.grown {w w' : World} {B : Nat} {v : Value} {l : List UInt8} {row : Option Nat} (h : RdB w B v l) (hg : w.grownBy w' row) (hB : B ≤ w.heap.size) (hr : ∀ g, row = some g → B ≤ g) : RdB w' B v l := by
  obtain ⟨A, n, c, rfl, h1, h2⟩ := h
  exact ⟨A, n, c, rfl, h1.grown hg hB hr, h2⟩
/-- An owned row of []byte values that lie below B. -/
def OwR (w : World) (base B : Nat) (v : Value) (n : Nat) (ls : List (List UInt8)) : Prop :=
  ∃ vs : List Value, w.ownsRow base 23 1 v n vs ∧ vs.length = ls.length ∧ ∀ (i : Nat) u l, vs[i]? = some u → ls[i]? = some l → RdB w B u l
theorem OwR.rows {w : World} {base B : Nat} {A : Option Addr} {n c : Nat} {ls : List (List UInt8)} (h : OwR w base B (.slice A n c) n ls) (hB : B ≤ w.heap.size) : RdRows w w.heap.size A n ls := by
  obtain ⟨vs, h1, h2, h3⟩ := h
  exact ⟨vs, Rd.of_own h1, h2, fun i u l hu hl => (h3 i u l hu hl).more hB⟩
theorem RdRows.cut {w : World} {B n : Nat} {A : Option Addr} {ls : List (List UInt8)} (h : RdRows w B A n ls) {k m : Nat} (hk : k + m ≤ n) {A' : Option Addr} (hA : 0 < m → A' = A.map (·.add k)) : RdRows w B A' m ((ls.drop k).take m) := by
  obtain ⟨vs, h1, h2, h3⟩ := h
  have := h1.cut (k := k) (m := m) hk (A' := A') (by simpa using hA)
  rw [Nat.mul_one, Nat.mul_one] at this
  refine ⟨_, this, by rw [List.length_take, List.length_take, List.length_drop, List.length_drop, h2], fun i u l hu hl => ?_⟩
  rw [List.getElem?_take] at hu hl
  split at hu
  · rename_i hi
    rw [if_pos hi, List.getElem?_drop] at hl
    rw [List.getElem?_drop] at hu
    exact h3 _ _ _ hu hl
  · cases hu
/-- append of []byte values, in a region that draws. -/
theorem ap_rows_step {w w0 : World} {ops : Array Oper} {a : Act} {K : Act → World → Prop} {Q : Exit → Act → World → Prop} {E : Prop} {d : Option Tmp} {ty : TypeId} {pos : String} {af : Array Edge} {s x : Operand} {base : Nat}
    {v : Value} {n : Nat} {ls ms : List (List UInt8)} {B : Nat} {A : Option Addr} {m c : Nat} (hown : OwR w base B v n ls) (hr : RdRows w B A m ms)
    (hb : Below base w0 w) (hbase : base ≤ w.heap.size) (hB : B ≤ base) (hbytes : n + m ≤ 1000000)
    (hs : a.eval s = v) (hx : a.eval x = .slice A m c)
    (h : ∀ v' w', OwR w' base B v' (n + m) (ls ++ ms) → Below base w0 w' → w.grownBy w' v.ownBlock → (v'.ownBlock = v.ownBlock ∨ v'.ownBlock = some w.heap.size) → K (a.put d v') w') :
    if Region.wanted { dst := d, op := .call { callee := .builtin .append, args := #[s, x], argTypes := #[22, 22] }, type := ty, pos := pos, after := af, guard := none } (yielded ops a.tmps) = true then
      Oper.wp Try.prog { dst := d, op := .call { callee := .builtin .append, args := #[s, x], argTypes := #[22, 22] }, type := ty, pos := pos, after := af, guard := none } a w K Q else E := by
  obtain ⟨i0, hi, hz0, hz1, hz2⟩ := info_parts infoRB
  obtain ⟨vs, o1, o2, o3⟩ := hown
  obtain ⟨us, r1, r2, r3⟩ := hr
  have hone : ∀ u ∈ us, u.oneCell' = true := fun u hu => by
    obtain ⟨i, hi⟩ := List.mem_iff_getElem?.1 hu
    have : i < ms.length := by rw [← r2]; exact (List.getElem?_eq_some_iff.1 hi).1
    exact (r3 i u _ hi (List.getElem?_eq_getElem this)).one
  rw [if_pos (by simp [Region.wanted])]
  obtain ⟨v', w', hrun, h2, h3, h4⟩ := run_append_rd (P := Try.prog) w base 22 ty 23 i0 (.slice none 0 0) 1 24 Try.underlying22 hi hz0 hz1 hz2 rfl (by decide) v n vs o1 B A m c us r1 hone (by unfold maxLen; omega) (by omega) hbase
  unfold Oper.wp execOp
  simp only [resolve, invoke, builtin, Sem.run_bind, Sem.run_pure, Result.andThen_ok, List.map_toArray, List.map_cons, List.map_nil, hs, hx, hrun]
  have hrow : ∀ g, v.ownBlock = some g → B ≤ g := fun g hg => Nat.le_trans hB (o1.lt g hg).1
  refine h v' w' ⟨vs ++ us, h2, by rw [List.length_append, List.length_append, o2, r2], fun i u l hu hl => ?_⟩ (hb.grown h3 hbase (fun k hk => (o1.lt k hk).1)) h3 h4
  by_cases hiv : i < vs.length
  · rw [List.getElem?_append_left hiv] at hu
    rw [List.getElem?_append_left (by omega)] at hl
    exact (o3 i u l hu hl).grown h3 (by omega) hrow
  · rw [List.getElem?_append_right (by omega)] at hu
    rw [List.getElem?_append_right (by omega), ← o2] at hl
    exact (r3 _ u l hu hl).grown h3 (by omega) hrow
/-- [][]byte{}. -/
theorem OwR.lit0 (w : World) (B : Nat) : OwR (w.alloc (.cells #[] 23)) w.heap.size B (.slice (some ⟨w.heap.size, 0, none⟩) 0 0) 0 [] :=
  ⟨[], own_lit0 w _, rfl, fun i u l hu => by cases hu⟩
theorem errW_rot (ws : List (List UInt8)) (k : Nat) : errW (ws.drop k ++ ws.take k) = errW ws := by
  have hl : (ws.drop k ++ ws.take k).length = ws.length := by rw [List.length_append, Nat.add_comm, ← List.length_append, List.take_append_drop]
  have ha : ∀ p : List UInt8 → Bool, (ws.drop k ++ ws.take k).any p = ws.any p := fun p => by rw [List.any_append, Bool.or_comm, ← List.any_append, List.take_append_drop]
  unfold errW empW
  rw [hl, ha, ha]
theorem cntF_rot (ws : List (List UInt8)) (k : Nat) (t : List UInt8) : cntF (firsts (ws.drop k ++ ws.take k) t) = cntF (firsts ws t) := by
  unfold cntF firsts
  rw [List.map_append, List.countP_append, Nat.add_comm, ← List.countP_append, ← List.map_append, List.take_append_drop]
theorem firsts_rot (ws : List (List UInt8)) (k i : Nat) (t : List UInt8) (hk : k < ws.length) (hi : i < ws.length) : (firsts (ws.drop k ++ ws.take k) t)[(i + ws.length - k) % ws.length]? = (firsts ws t)[i]? := by
  unfold firsts
  rw [List.getElem?_map, List.getElem?_map]
  congr 1
  by_cases h : k ≤ i
  · have e : (i + ws.length - k) % ws.length = i - k := by
      rw [show i + ws.length - k = (i - k) + ws.length by omega, Nat.add_mod_right, Nat.mod_eq_of_lt (by omega)]
    rw [e, List.getElem?_append_left (by rw [List.length_drop]; omega), List.getElem?_drop, show k + (i - k) = i by omega]
  · rw [Nat.mod_eq_of_lt (by omega), List.getElem?_append_right (by rw [List.length_drop]; omega), List.length_drop, List.getElem?_take, if_pos (by omega), show i + ws.length - k - (ws.length - k) = i by omega]
end Go.Proofs.Ythfpdiaobkccbaa
