/- Contract of package aho: add. -/
import Derived.Test.YthfpdiaobkccbaaAho1
namespace Go.Proofs.Ythfpdiaobkccbaa
open Go.RowKit
attribute [local go_sem ↓] Go.wp_at_zero Go.wp_at_succ

theorem ap_its_step {w : World} {ops : Array Oper} {a : Act} {K : Act → World → Prop} {Q : Exit → Act → World → Prop} {E : Prop} {d : Option Tmp} {ty : TypeId} {pos : String} {af : Array Edge} {s x : Operand} {base : Nat}
    {v : Value} {n : Nat} {xs : List Int} {B : Nat} {A : Option Addr} {m c : Nat} {news : List Int} (hown : w.ownsRow base 3 1 v n (its xs)) (hr : Rd w B 1 A m (its news))
    (hbase : base ≤ w.heap.size) (hbytes : n + m ≤ 1000000)
    (hs : a.eval s = v) (hx : a.eval x = .slice A m c)
    (h : ∀ v' w', w'.ownsRow base 3 1 v' (n + m) (its (xs ++ news)) → Below base w w' → w.grownBy w' v.ownBlock → (v'.ownBlock = v.ownBlock ∨ v'.ownBlock = some w.heap.size) → K (a.put d v') w') :
    if Region.wanted { dst := d, op := .call { callee := .builtin .append, args := #[s, x], argTypes := #[33, 33] }, type := ty, pos := pos, after := af, guard := none } (yielded ops a.tmps) = true then
      Oper.wp Try.prog { dst := d, op := .call { callee := .builtin .append, args := #[s, x], argTypes := #[33, 33] }, type := ty, pos := pos, after := af, guard := none } a w K Q else E := by
  obtain ⟨i0, hi, hz0, hz1, hz2⟩ := info_parts infoI
  rw [if_pos (by simp [Region.wanted])]
  obtain ⟨v', w', hrun, h2, h3, h4⟩ := run_append_rd (P := Try.prog) w base 33 ty 3 i0 (.int .i64 0) 1 8 Try.underlying33 hi hz0 hz1 hz2 rfl (by decide) v n (its xs) hown B A m c (its news) hr (its_one _) (by unfold maxLen; omega) (by omega) hbase
  unfold Oper.wp execOp
  simp only [resolve, invoke, builtin, Sem.run_bind, Sem.run_pure, Result.andThen_ok, List.map_toArray, List.map_cons, List.map_nil, hs, hx, hrun]
  exact h v' w' (by rw [its_app]; exact h2) ((Below.refl _ _).grown h3 hbase (fun k hk => (hown.lt k hk).1)) h3 h4
theorem infoS : (Try.prog.info? 47).map (fun i => (i.zero, i.size, i.bytes)) = some (some (.agg #[.map none, .int .i64 0, .slice none 0 0]), 3, 40) := by kernel_rfl
/-- The j-th word. -/
def wdj (ws : List (List UInt8)) (j : Nat) : List UInt8 := ws[j]?.getD []
/-- While words are added: k are there, and q bytes of the next one. -/
structure SemA (T : Tt) (ws : List (List UInt8)) (k q : Nat) : Prop where
  tr : Trie T.S
  le : ∀ s ∈ T.S, s.length ≤ 64
  nn : T.S.length ≤ 1 + 64 * k + q
  wi : ∀ j, j < k → wdj ws j ∈ T.S
  en : ∀ i, i < T.S.length → ∀ j, j ∈ T.E i ↔ j < k ∧ wdj ws j = str T.S i
  el : ∀ i, i < T.S.length → (T.E i).length ≤ k
  bz : ∀ i, i < T.S.length → T.B i = 0
theorem SemA.more {T : Tt} {ws : List (List UInt8)} {k q q' : Nat} (h : SemA T ws k q) (hq : q ≤ q') : SemA T ws k q' := ⟨h.tr, h.le, by have := h.nn; omega, h.wi, h.en, h.el, h.bz⟩
theorem SemA.add {T : Tt} {ws : List (List UInt8)} {k q : Nat} (h : SemA T ws k q) {j : Nat} {c : UInt8} (hj : j < T.S.length) (hn : ¬ str T.S j ++ [c] ∈ T.S) (hl : (str T.S j).length < 64) (g1 c1 m : Nat) :
    SemA ⟨T.S ++ [str T.S j ++ [c]], g1, c1, upd T.M T.S.length m, upd T.B T.S.length 0, upd T.V T.S.length (.slice none 0 0), upd T.E T.S.length []⟩ ws k (q + 1) := by
  have hlen : (T.S ++ [str T.S j ++ [c]]).length = T.S.length + 1 := by simp
  refine ⟨h.tr.add hj hn, fun s hs => ?_, by dsimp only; rw [hlen]; have := h.nn; omega, fun i hi => List.mem_append_left _ (h.wi i hi), fun i hi x => ?_, fun i hi => ?_, fun i hi => ?_⟩
  · rcases List.mem_append.1 hs with h1 | h1
    · exact h.le s h1
    · simp only [List.mem_singleton] at h1; subst h1; simp; omega
  · dsimp only at hi ⊢
    rw [hlen] at hi
    by_cases e : i = T.S.length
    · subst e
      rw [upd_same, str_new]
      refine ⟨fun h1 => by simp at h1, fun ⟨h1, h2⟩ => absurd (h2 ▸ h.wi x h1) hn⟩
    · rw [upd_ne _ e, str_app (by omega)]; exact h.en i (by omega) x
  · dsimp only at hi ⊢
    rw [hlen] at hi
    by_cases e : i = T.S.length
    · subst e; rw [upd_same]; exact Nat.zero_le _
    · rw [upd_ne _ e]; exact h.el i (by omega)
  · dsimp only at hi ⊢
    rw [hlen] at hi
    by_cases e : i = T.S.length
    · subst e; rw [upd_same]
    · rw [upd_ne _ e]; exact h.bz i (by omega)
/-- The word is there: its number is told. -/
theorem SemA.told {T : Tt} {ws : List (List UInt8)} {k q : Nat} (h : SemA T ws k q) (hq : q ≤ 64) {a : Nat} (ha : a < T.S.length) (hw : str T.S a = wdj ws k) (v : Value) : SemA { T with V := upd T.V a v, E := upd T.E a (T.E a ++ [k]) } ws (k + 1) 0 := by
  refine ⟨h.tr, h.le, by have := h.nn; dsimp only; omega, fun j hj => ?_, fun i hi x => ?_, fun i hi => ?_, h.bz⟩
  · by_cases e : j = k
    · subst e; rw [← hw]; exact str_mem ha
    · exact h.wi j (by omega)
  · dsimp only at hi ⊢
    by_cases e : i = a
    · subst e
      rw [upd_same, List.mem_append, h.en i hi x, List.mem_singleton]
      refine ⟨fun h1 => ?_, fun ⟨h1, h2⟩ => ?_⟩
      · rcases h1 with ⟨h1, h2⟩ | rfl
        · exact ⟨by omega, h2⟩
        · exact ⟨by omega, hw.symm⟩
      · by_cases e2 : x = k
        · exact .inr e2
        · exact .inl ⟨by omega, h2⟩
    · rw [upd_ne _ e, h.en i hi x]
      refine ⟨fun ⟨h1, h2⟩ => ⟨by omega, h2⟩, fun ⟨h1, h2⟩ => ⟨?_, h2⟩⟩
      by_cases e2 : x = k
      · subst e2; exact absurd (str_inj h.tr.nd hi ha (by rw [← h2, hw])) e
      · omega
  · dsimp only at hi ⊢
    by_cases e : i = a
    · subst e; rw [upd_same, List.length_append]; have := h.el i hi; simp; omega
    · rw [upd_ne _ e]; have := h.el i hi; omega
end Go.Proofs.Ythfpdiaobkccbaa
