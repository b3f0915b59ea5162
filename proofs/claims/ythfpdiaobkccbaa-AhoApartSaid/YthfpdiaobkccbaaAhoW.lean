/- Rows of []byte values that are all of the call's own. -/
import Derived.Test.YthfpdiaobkccbaaAhoV
namespace Go.Proofs.Ythfpdiaobkccbaa
open Go.RowKit

/-- append of []byte values. -/
theorem ap_rows1 {w w0 : World} {ops : Array Oper} {rest : List Oper} {a : Act} {Q : Exit → Act → World → Prop} {d : Option Tmp} {ty : TypeId} {pos : String} {af : Array Edge} {g : Option (Nat × Bool)} {s x : Operand} {base : Nat}
    {v : Value} {n : Nat} {xs : List Value} (hown : w.ownsRow base 23 1 v n xs)
    {B : Nat} {A : Option Addr} {m c : Nat} {news : List Value} (hr : Rd w B 1 A m news) (h1 : ∀ u ∈ news, u.oneCell' = true)
    (hb : Below base w0 w) (hbase : base ≤ w.heap.size) (hbytes : n + m ≤ 1000000)
    (hs : a.eval s = v) (hx : a.eval x = .slice A m c)
    (hw : Region.wanted { dst := d, op := .call { callee := .builtin .append, args := #[s, x], argTypes := #[22, 22] }, type := ty, pos := pos, after := af, guard := g } (yielded ops a.tmps) = true)
    (h : ∀ v' w', w'.ownsRow base 23 1 v' (n + m) (xs ++ news) → Below base w0 w' → w.grownBy w' v.ownBlock → (v'.ownBlock = v.ownBlock ∨ v'.ownBlock = some w.heap.size) → wpList Try.prog ops Q rest (a.put d v') w') :
    wpList Try.prog ops Q ({ dst := d, op := .call { callee := .builtin .append, args := #[s, x], argTypes := #[22, 22] }, type := ty, pos := pos, after := af, guard := g } :: rest) a w := by
  obtain ⟨i0, hi, hz0, hz1, hz2⟩ := info_parts infoRB
  exact ap_any Try.underlying22 hi hz0 hz1 hz2 rfl (by decide) hown hr h1 hb hbase (by omega) hs hx hw h
def OwB (w : World) (base : Nat) (v : Value) (n : Nat) (ls : List (List UInt8)) : Prop :=
  ∃ vs : List Value, w.ownsRow base 23 1 v n vs ∧ vs.length = ls.length ∧ (∀ (i : Nat) u l, vs[i]? = some u → ls[i]? = some l → w.ownsRow base 5 1 u l.length (bys l)) ∧
    ∀ (i j : Nat) u u', i ≠ j → vs[i]? = some u → vs[j]? = some u' → ∀ b, u.ownBlock = some b → u'.ownBlock ≠ some b
theorem OwB.nil (w : World) (base : Nat) : OwB w base (.slice none 0 0) 0 [] := ⟨[], World.ownsRow_nil _ _ _ _, rfl, (fun i u l hu => by simp at hu), (fun i j u u' _ hu => by simp at hu)⟩
theorem OwB.len {w : World} {base n : Nat} {v : Value} {ls : List (List UInt8)} (h : OwB w base v n ls) : ls.length = n := by
  obtain ⟨vs, h1, h2, _⟩ := h; have := h1.1; omega
theorem OwB.below {w w' : World} {base n : Nat} {v : Value} {ls : List (List UInt8)} (h : OwB w base v n ls) (hb : Below w.heap.size w w') : OwB w' base v n ls := by
  obtain ⟨vs, h1, h2, h3, h4⟩ := h
  exact ⟨vs, own_below h1 hb (Nat.le_refl _), h2, fun i u l hu hl => own_below (h3 i u l hu hl) hb (Nat.le_refl _), h4⟩
theorem rdb_own {w : World} {base : Nat} {u : Value} {l : List UInt8} (h : w.ownsRow base 5 1 u l.length (bys l)) : RdB w w.heap.size u l := by
  obtain ⟨A, c, rfl, hnc, _⟩ := own_form h
  exact ⟨A, _, c, rfl, Rd.of_own h, hnc⟩
theorem OwB.rows {w : World} {base n c : Nat} {A : Option Addr} {ls : List (List UInt8)} (h : OwB w base (.slice A n c) n ls) : RdRows w w.heap.size A n ls := by
  obtain ⟨vs, h1, h2, h3, _⟩ := h
  exact ⟨vs, Rd.of_own h1, h2, fun i u l hu hl => rdb_own (h3 i u l hu hl)⟩
/-- A row more, whose bytes lie in new memory. -/
theorem OwB.snoc {w w2 w4 : World} {base n : Nat} {v v' u : Value} {ls : List (List UInt8)} {l : List UInt8} (h : OwB w base v n ls) (hbase : base ≤ w.heap.size) (hb : Below w.heap.size w w2) (hu : w2.ownsRow w.heap.size 5 1 u l.length (bys l))
    {o : Obj} {vs : List Value} (hvs : w.ownsRow base 23 1 v n vs) (hown : w4.ownsRow base 23 1 v' (n + 1) (vs ++ [u])) (hg : (w2.alloc o).grownBy w4 v.ownBlock) : OwB w4 base v' (n + 1) (ls ++ [l]) := by
  obtain ⟨vs', h1, h2, h3, h4⟩ := h
  have hve : vs' = vs := by
    rcases h1.2 with ⟨rfl, rfl⟩ | ⟨g, cap, cur, rfl, _, e1, _, _, _, e2⟩
    · have a1 := h1.1; have a2 := hvs.1
      exact (List.eq_nil_of_length_eq_zero (by simpa using a1)).trans (List.eq_nil_of_length_eq_zero (by simpa using a2)).symm
    · rcases hvs.2 with ⟨e, _⟩ | ⟨g', cap', cur', e, _, e1', _, _, _, e2'⟩
      · cases e
      · injection e with e _ _
        injection e with e
        injection e with e _
        subst e
        rw [e1] at e1'
        injection e1' with e1'
        injection e1' with e1'
        subst e1'
        rw [← e2, ← e2']
  subst hve
  have hvlt : ∀ b, v.ownBlock = some b → b < w.heap.size := fun b hb => (h1.lt b hb).2
  have hulo : ∀ b, u.ownBlock = some b → w.heap.size ≤ b ∧ b < w2.heap.size := fun b hb => hu.lt b hb
  have hz := hb.size
  have hu4 : w4.ownsRow base 5 1 u l.length (bys l) := by
    refine own_base ((hu.alloc o).kept hg ?_) hbase
    cases hub : u.ownBlock with
    | none => exact .inl rfl
    | some b => exact .inr (fun e => by have := hulo b hub; have := hvlt b e.symm; omega)
  have hold : ∀ (i : Nat) x y, vs'[i]? = some x → ls[i]? = some y → w4.ownsRow base 5 1 x y.length (bys y) := fun i x y hx hy => by
    have k1 := h3 i x y hx hy
    have k2 := own_below k1 (hb.alloc hz o) (Nat.le_refl _)
    refine k2.kept hg ?_
    cases hxb : x.ownBlock with
    | none => exact .inl rfl
    | some b =>
      refine .inr (fun e => ?_)
      rcases h1.2 with ⟨rfl, _⟩ | ⟨g, cap, cur, rfl, _, e1, _⟩
      · cases e
      · have hg2 : g = b := by simp [Value.ownBlock] at e; exact e.symm
        subst hg2
        exact own_ne k1 (show Bk w g 23 cur from e1) (by decide) hxb
  have hvl : vs'.length = n := by have := h1.1; omega
  refine ⟨_, hown, by rw [List.length_append, List.length_append, h2]; rfl, fun i x y hx hy => ?_, fun i j x x' hij hx hx' b hxb => ?_⟩
  · by_cases hi : i < vs'.length
    · rw [List.getElem?_append_left hi] at hx
      rw [List.getElem?_append_left (by omega)] at hy
      exact hold i x y hx hy
    · rw [List.getElem?_append_right (by omega)] at hx
      rw [List.getElem?_append_right (by omega), ← h2] at hy
      cases hk : i - vs'.length with
      | zero => rw [hk] at hx hy; simp at hx hy; subst hx hy; exact hu4
      | succ k => rw [hk] at hx; simp at hx
  · have old : ∀ (i : Nat) z, vs'[i]? = some z → ∀ b, z.ownBlock = some b → b < w.heap.size := fun i z hz b hb => by
      have hi : i < ls.length := by rw [← h2]; exact (List.getElem?_eq_some_iff.1 hz).1
      exact ((h3 i z _ hz (List.getElem?_eq_getElem hi)).lt b hb).2
    have new : ∀ (i : Nat) z, ¬ i < vs'.length → (vs' ++ [u])[i]? = some z → z = u ∧ i = vs'.length := fun i z hi hz => by
      rw [List.getElem?_append_right (by omega)] at hz
      cases hk : i - vs'.length with
      | zero => rw [hk] at hz; simp at hz; exact ⟨hz.symm, by omega⟩
      | succ k => rw [hk] at hz; simp at hz
    by_cases hi : i < vs'.length
    · have hx0 := hx
      rw [List.getElem?_append_left hi] at hx0
      by_cases hj : j < vs'.length
      · rw [List.getElem?_append_left hj] at hx'
        exact h4 i j x x' hij hx0 hx' b hxb
      · obtain ⟨rfl, _⟩ := new j x' hj hx'
        intro e
        have := hulo b e
        have := old i x hx0 b hxb
        omega
    · obtain ⟨rfl, hi2⟩ := new i x hi hx
      have hj : j < vs'.length := by
        rcases Nat.lt_or_ge j vs'.length with h | h
        · exact h
        · have := (new j x' (by omega) hx').2; omega
      rw [List.getElem?_append_left hj] at hx'
      intro e
      have := hulo b hxb
      have := old j x' hx' b e
      omega
/-- A byte of one of the rows is set. -/
theorem OwB.set {w : World} {base n i : Nat} {v : Value} {ls : List (List UInt8)} {l : List UInt8} (h : OwB w base v n ls) (hl : ls[i]? = some l) {k : Nat} (hk : k < l.length) :
    ∃ b o c G C, v = .slice (some ⟨b, 0, none⟩) n c ∧ o = i ∧ w.cell? ⟨b, i, none⟩ = some (.slice (some ⟨G, 0, none⟩) l.length C) ∧ l.length ≤ C ∧ w.cell? ⟨G, k, none⟩ = some (.int .u8 ((l[k]?.getD 0).toNat : Int)) ∧ w.frozen? ⟨G, k, none⟩ = false ∧ base ≤ G ∧ G < w.heap.size ∧
      w.ownsRow base 5 1 (.slice (some ⟨G, 0, none⟩) l.length C) l.length (bys l) ∧ ∀ x : UInt8, OwB (w.setCell ⟨G, k, none⟩ (.int .u8 (x.toNat : Int))) base v n (ls.set i (l.set k x)) ∧ w.grownBy (w.setCell ⟨G, k, none⟩ (.int .u8 (x.toNat : Int))) (some G) := by
  obtain ⟨vs, h1, h2, h3, h4⟩ := h
  have hi : i < vs.length := by rw [h2]; exact (List.getElem?_eq_some_iff.1 hl).1
  obtain ⟨u, hu⟩ : ∃ u, vs[i]? = some u := ⟨_, List.getElem?_eq_getElem hi⟩
  have ho := h3 i u l hu hl
  obtain ⟨G, C, rfl, hG1, hG2, hC⟩ := own_pos ho (by omega)
  have hn : i < n := by have := h1.1; omega
  obtain ⟨b, c, rfl, hb1, hb2, hbc⟩ := own_pos h1 (by omega)
  have hcell := h1.cells (g := b) rfl i _ hu
  rw [addLit, Nat.zero_add] at hcell
  have hbG : b ≠ G := by
    rcases h1.2 with ⟨e, _⟩ | ⟨g, cap, cur, e, _, e1, _⟩
    · cases e
    · injection e with e _ _
      injection e with e
      injection e with e _
      subst e
      intro e2
      exact own_ne ho (show Bk w b 23 cur from e1) (by decide) (by rw [← e2]; rfl)
  refine ⟨b, i, c, G, C, rfl, rfl, hcell, hC, own_byte ho hk, ?_, hG1, hG2, ho, fun x => ⟨⟨vs, ?_, by rw [List.length_set]; exact h2, fun j z y hz hy => ?_, h4⟩, (own_set ho k x).2⟩⟩
  · rcases ho.2 with ⟨e, _⟩ | ⟨g, cap, cur, e, _, e1, _⟩
    · cases e
    · injection e with e _ _
      injection e with e
      injection e with e _
      subst e
      exact Bk.free (show Bk w G 5 cur from e1) k
  · refine h1.kept (own_set ho k x).2 (.inr ?_)
    intro e
    exact hbG (by injection e)
  · by_cases hj : j = i
    · subst hj
      rw [hu] at hz
      injection hz with hz
      subst hz
      rw [List.getElem?_set_self (by rw [← h2]; exact hi)] at hy
      injection hy with hy
      subst hy
      rw [List.length_set]
      exact (own_set ho k x).1
    · rw [List.getElem?_set_ne (fun e => hj e.symm)] at hy
      refine (h3 j z y hz hy).kept (own_set ho k x).2 ?_
      cases hzb : z.ownBlock with
      | none => exact .inl rfl
      | some q => exact .inr (fun e => h4 i j _ z (fun e => hj e.symm) hu hz G rfl (by rw [hzb]; exact e))
end Go.Proofs.Ythfpdiaobkccbaa
