/- Words looked for at once, in memory: the row of states that are still to be done; what keeps the words. -/
import Derived.Test.YthfpdiaobkccbaaAho3
import Derived.Test.YthfpdiaobkccbaaAhoQ
import Derived.ArgAppend
namespace Go.Proofs.Ythfpdiaobkccbaa
open Go.RowKit

theorem nIts_snoc (l : List Nat) (x : Nat) : nIts (l ++ [x]) = nIts l ++ [.int .i64 (x : Int)] := by simp [nIts, its]
theorem nIts_len (l : List Nat) : (nIts l).length = l.length := by simp [nIts, its]
/-- A row that is taken from its front. -/
def Qu (w : World) (base : Nat) (v : Value) (q : List Nat) : Prop :=
  ∃ A n c, v = .slice (some A) n c ∧ A.block < w.heap.size ∧ q.length = n ∧ n ≤ c ∧ c ≤ maxLen ∧ (c = 0 ∨ ∃ g o cs, A = ⟨g, o, none⟩ ∧ base ≤ g ∧ Bk w g 3 cs ∧ o + c = cs.size ∧ (cs.toList.drop o).take n = nIts q)
section
variable {w w' : World} {base : Nat} {v : Value} {q : List Nat}
theorem Qu.start (w : World) (hb : base ≤ w.heap.size) (x : Nat) : Qu (w.alloc (.cells #[.int .i64 (x : Int)] 3)) base (.slice (some ⟨w.heap.size, 0, none⟩) 1 1) [x] :=
  ⟨_, 1, 1, rfl, by simp, rfl, Nat.le_refl _, by unfold maxLen; omega, .inr ⟨_, 0, _, rfl, hb, Bk.new _ _ _, rfl, rfl⟩⟩
theorem Qu.heap (h : Qu w base v q) (hz : w.heap.size ≤ w'.heap.size) (hk : ∀ k, base ≤ k → k < w.heap.size → v.ownBlock = some k → w'.heap[k]? = w.heap[k]?) : Qu w' base v q := by
  obtain ⟨A, n, c, rfl, h5, h1, h2, h3, h4⟩ := h
  refine ⟨A, n, c, rfl, by omega, h1, h2, h3, ?_⟩
  rcases h4 with h4 | ⟨g, o, cs, rfl, hg, hb, r⟩
  · exact .inl h4
  · exact .inr ⟨g, o, cs, rfl, hg, hb.heap (hk g hg hb.lt rfl), r⟩
theorem Qu.lt (h : Qu w base v q) : ∀ b, v.ownBlock = some b → b < w.heap.size := by
  obtain ⟨A, n, c, rfl, h5, _⟩ := h
  intro b hb
  simp [Value.ownBlock] at hb
  omega
theorem Qu.front {h : Nat} {r : List Nat} (H : Qu w base v (h :: r)) : ∃ g o c, v = .slice (some ⟨g, o, none⟩) (r.length + 1) (c + 1) ∧ r.length ≤ c ∧ c + 1 ≤ maxLen ∧ base ≤ g ∧ w.cell? ⟨g, o, none⟩ = some (.int .i64 (h : Int)) ∧
    Qu w base (.slice (if c = 0 then some ⟨g, o, none⟩ else some ⟨g, o + 1, none⟩) r.length c) r := by
  obtain ⟨A, n, c, rfl, h5, h1, h2, h3, h4⟩ := H
  simp only [List.length_cons] at h1
  subst h1
  obtain ⟨d, rfl⟩ : ∃ d, c = d + 1 := ⟨c - 1, by omega⟩
  rcases h4 with h4 | ⟨g, o, cs, rfl, hg, hb, hs, ht⟩
  · omega
  · have hcell : ∀ j, j < r.length + 1 → cs[o + j]? = (nIts (h :: r))[j]? := by
      intro j hj
      rw [← ht, List.getElem?_take, if_pos hj, List.getElem?_drop, Array.getElem?_toList]
    refine ⟨g, o, d, rfl, by omega, h3, hg, ?_, ?_⟩
    · have := hcell 0 (by omega)
      rw [hb.cell]; exact this
    · by_cases hd : d = 0
      · rw [if_pos hd]
        exact ⟨_, _, _, rfl, h5, rfl, by omega, by omega, .inl hd⟩
      · rw [if_neg hd]
        refine ⟨_, _, _, rfl, h5, rfl, by omega, by omega, .inr ⟨g, o + 1, cs, rfl, hg, hb, by omega, ?_⟩⟩
        have e : cs.toList.drop (o + 1) = (cs.toList.drop o).tail := by rw [List.tail_drop]
        have e2 : ((cs.toList.drop o).tail).take r.length = ((cs.toList.drop o).take (r.length + 1)).tail := by
          cases cs.toList.drop o <;> simp
        rw [e, e2, ht]; rfl
/-- One more. -/
theorem run_append_qu (H : Qu w base v q) (x : Nat) (ad : Addr) (c1 : Nat) (ty : TypeId) (hx : w.cell? (ad.add 0) = some (.int .i64 (x : Int))) (hbase : base ≤ w.heap.size) (hq : q.length ≤ 1000000) :
    ∃ v' w', (Builtin.append_ #[33, 33] ty #[v, .slice (some ad) 1 c1]).run Try.prog w = .ok v' w' ∧ Qu w' base v' (q ++ [x]) ∧ Below base w w' ∧ (∃ row, w.grownBy w' row ∧ ∀ b, row = some b → v.ownBlock = some b ∧ ∃ cs, Bk w b 3 cs) ∧ (v'.ownBlock = v.ownBlock ∨ ∃ g, v'.ownBlock = some g ∧ w.heap.size ≤ g) := by
  obtain ⟨i0, hi, hz0, hz1, hz2⟩ := info_parts infoI
  obtain ⟨A, n, c, rfl, h5, h1, h2, h3, h4⟩ := H
  subst h1
  have hnews : ∀ (j : Nat) (u : Value), [Value.int .i64 (x : Int)][j]? = some u → w.cell? (ad.add j) = some u := by
    intro j u hu
    match j, hu with
    | 0, hu => simp at hu; subst hu; exact hx
    | j + 1, hu => simp at hu
  by_cases hroom : q.length + 1 ≤ c
  · rcases h4 with h4 | ⟨g, o, cs, rfl, hg, hb, hs, ht⟩
    · omega
    have hcl : o + q.length < cs.size := by omega
    have hrun := run_append_room_cells (P := Try.prog) w 33 ty 3 i0 Try.underlying33 hi g o q.length c ad 1 c1 [.int .i64 (x : Int)] (by rw [hz1]; rfl) hnews (by simp [Value.oneCell']) hroom
      (fun j hj => by simp at hj; subst hj; rw [hz1, hb.cell]; simp [hcl]) (fun j hj => hb.free _)
    rw [hz1, Nat.mul_one] at hrun
    refine ⟨_, _, hrun, ?_, (Below.refl _ _).setCell (p := ⟨g, o + q.length, none⟩) hg _, ?_, .inl rfl⟩
    · refine ⟨_, _, _, rfl, by simpa [World.setCells, World.setCell] using h5, by simp, hroom, h3, .inr ⟨g, o, _, rfl, hg, hb.set (o + q.length) (.int .i64 (x : Int)), by rw [Array.size_setIfInBounds]; exact hs, ?_⟩⟩
      have hlt : ((cs.toList.drop o).take q.length).length = q.length := by simp; omega
      rw [nIts_snoc, ← ht]
      apply List.ext_getElem?
      intro j
      rw [List.getElem?_take]
      by_cases hj : j < q.length + 1
      · rw [if_pos hj, List.getElem?_drop, Array.getElem?_toList]
        by_cases e : j = q.length
        · subst e
          rw [Array.getElem?_setIfInBounds_self_of_lt hcl, List.getElem?_append_right (by omega), hlt, Nat.sub_self]; rfl
        · rw [Array.getElem?_setIfInBounds_ne (by omega), List.getElem?_append_left (by omega), List.getElem?_take, if_pos (by omega), List.getElem?_drop, Array.getElem?_toList]
      · rw [if_neg hj, List.getElem?_eq_none]
        rw [List.length_append, hlt]; simp; omega
    · exact ⟨some g, gb_set (World.grownBy.refl _ _) (o + q.length) _, fun b hb' => by injection hb' with hb'; subst hb'; exact ⟨rfl, cs, hb⟩⟩
  · obtain ⟨v', w', hrun, ho, hgr⟩ := run_append_arg_grows (P := Try.prog) w 33 ty 3 i0 (.int .i64 0) 1 8 Try.underlying33 hi hz0 hz1 hz2 rfl (by decide) A q.length c (nIts q) (by rw [nIts_len]; omega)
      (fun j u hu => by
        rcases h4 with h4 | ⟨g, o, cs, rfl, hg, hb, hs, ht⟩
        · have : q = [] := List.eq_nil_of_length_eq_zero (by omega)
          subst this; simp [nIts, its] at hu
        · have hj : j < q.length := by
            rcases Nat.lt_or_ge j (nIts q).length with h | h
            · rwa [nIts_len] at h
            · rw [List.getElem?_eq_none h] at hu; cases hu
          rw [addLit, hb.cell, ← hu, ← ht, List.getElem?_take, if_pos hj, List.getElem?_drop, Array.getElem?_toList])
      ad 1 c1 [.int .i64 (x : Int)] rfl hnews (by omega) (by unfold maxLen; omega) (by omega)
    rcases ho.2 with ⟨_, h0⟩ | ⟨g, cap, cur, rfl, hbg, hcur, hnc, hcm, hcs, htk⟩
    · omega
    · refine ⟨_, _, hrun, ⟨_, _, _, rfl, (Array.getElem?_eq_some_iff.1 hcur).1, by simp, hnc, hcm, .inr ⟨g, 0, cur, rfl, by omega, hcur, by omega, ?_⟩⟩, (Below.refl _ _).grown hgr hbase (fun k hk => by cases hk), ⟨none, hgr, fun b hb => by cases hb⟩, ?_⟩
      · rw [List.drop_zero, nIts_snoc, ← htk, Nat.mul_one]
      · exact .inr ⟨g, rfl, hbg⟩
/-- .. at the operation. -/
theorem ap_qu {w0 : World} {ops : Array Oper} {rest : List Oper} {a : Act} {Q : Exit → Act → World → Prop} {d : Option Tmp} {ty : TypeId} {pos : String} {af : Array Edge} {g : Option (Nat × Bool)} {s x : Operand}
    (H : Qu w base v q) (y : Nat) (ad : Addr) (c1 : Nat) (hy : w.cell? (ad.add 0) = some (.int .i64 (y : Int))) (hbase : base ≤ w.heap.size) (hq : q.length ≤ 1000000) (hb : Below base w0 w)
    (hs : a.eval s = v) (hx : a.eval x = .slice (some ad) 1 c1)
    (hw : Region.wanted { dst := d, op := .call { callee := .builtin .append, args := #[s, x], argTypes := #[33, 33] }, type := ty, pos := pos, after := af, guard := g } (yielded ops a.tmps) = true)
    (h : ∀ v' w', Qu w' base v' (q ++ [y]) → Below base w0 w' → (∃ row, w.grownBy w' row ∧ ∀ b, row = some b → v.ownBlock = some b ∧ ∃ cs, Bk w b 3 cs) → (v'.ownBlock = v.ownBlock ∨ ∃ g, v'.ownBlock = some g ∧ w.heap.size ≤ g) → wpList Try.prog ops Q rest (a.put d v') w') :
    wpList Try.prog ops Q ({ dst := d, op := .call { callee := .builtin .append, args := #[s, x], argTypes := #[33, 33] }, type := ty, pos := pos, after := af, guard := g } :: rest) a w :=
  BigFrame.wpList_want hw fun _ hK => by
    obtain ⟨v', w', hrun, h2, hB, h3, h4⟩ := run_append_qu H y ad c1 ty hy hbase hq
    unfold Oper.wp execOp
    simp only [resolve, invoke, builtin, Sem.run_bind, Sem.run_pure, Result.andThen_ok, List.map_toArray, List.map_cons, List.map_nil, hs, hx, hrun]
    exact hK _ _ (h v' w' h2 (hb.trans hB) h3 h4)
end
end Go.Proofs.Ythfpdiaobkccbaa
