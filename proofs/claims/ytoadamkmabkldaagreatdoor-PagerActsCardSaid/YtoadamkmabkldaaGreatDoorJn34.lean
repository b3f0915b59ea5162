/- The document's pages in memory: Write, Alloc (written by wip/pgtm.py). -/
import Derived.Test.YtoadamkmabkldaaGreatDoorJn33
set_option linter.unusedVariables false
set_option linter.unusedSimpArgs false
namespace Go.Proofs.YtoadamkmabkldaaGreatDoor
open Go.RowKit Go.Shelf
attribute [local go_sem ↓] Go.wp_at_zero Go.wp_at_succ
/-- The document's pages in memory, but for one of them. -/
structure RfN (W : World) (s : Nat) (st : StP) (vL vF vR : Value) (cs : List Value) (t : Nat → SlT) (no : Nat) : Prop where
  hd : Bk W s 78 #[vL, vF, vR]
  L : W.ownsRow 0 22 1 vL st.L.length cs
  R : W.ownsRow 0 3 1 vR st.roots.length (its (natI st.roots))
  F : QuN W 0 vF st.free
  rows : ∀ k b, k ≠ no → 1 ≤ k → st.L[k]? = some b → cs[k]? = some (slV (t k)) ∧ PgB W (t k) b
  Fi : ∀ i, vF.ownBlock = some i → ∃ cs, Bk W i 3 cs
  one : ∀ u ∈ cs, u.oneCell' = true
theorem RfM.but {W : World} {s : Nat} {st : StP} {vL vF vR : Value} {cs : List Value} {t : Nat → SlT} (h : RfM W s st vL vF vR cs t) (no : Nat) : RfN W s st vL vF vR cs t no :=
  ⟨h.hd, h.L, h.R, h.F, fun k b _ h1 h2 => h.rows k b h1 h2, h.Fi, h.one⟩
theorem RfN.below {W W' : World} {s no : Nat} {st : StP} {vL vF vR : Value} {cs : List Value} {t : Nat → SlT} (h : RfN W s st vL vF vR cs t no) (hb : Below W.heap.size W W') : RfN W' s st vL vF vR cs t no :=
  ⟨h.hd.below hb h.hd.lt, own_same h.L (fun i hi => hb.block i (h.L.lt i hi).2), own_same h.R (fun i hi => hb.block i (h.R.lt i hi).2), h.F.heap hb.size (fun i _ hl => hb.block i hl), fun k b h0 h1 h2 => ⟨(h.rows k b h0 h1 h2).1, (h.rows k b h0 h1 h2).2.heap (hb.block _ (h.rows k b h0 h1 h2).2.lt)⟩, fun i hi => by
    obtain ⟨cs, hk⟩ := h.Fi i hi
    exact ⟨cs, hk.below hb hk.lt⟩, h.one⟩
theorem own_bk {W : World} {base n g : Nat} {e : TypeId} {v : Value} {xs : List Value} (h : W.ownsRow base e 1 v n xs) (hv : v.ownBlock = some g) : ∃ cs, Bk W g e cs := by
  rcases h.2 with ⟨h2, _⟩ | ⟨g', cap, cur, rfl, h3, h4, h5⟩
  · rw [h2] at hv; cases hv
  · have : g' = g := by simpa [Value.ownBlock] using hv
    subst this
    exact ⟨cur, h4⟩
theorem bk_ne {W : World} {g k : Nat} {e e2 : TypeId} {cs c2 : Array Value} (h : Bk W g e cs) (h2 : Bk W k e2 c2) (he : e ≠ e2) : k ≠ g := by
  rintro rfl
  exact he (bk_ty h h2)
/-- The page is put. -/
theorem RfN.put {W : World} {s no g n c : Nat} {st : StP} {vF vR : Value} {cs : List Value} {t : Nat → SlT} (h : RfN W s st (.slice (some ⟨g, 0, none⟩) n c) vF vR cs t no) {t' : SlT} {b : List UInt8} (hb : PgB W t' b) (hn : no < st.L.length) (hnn : n = st.L.length) :
    RfM (W.setCell ⟨g, no, none⟩ (slV t')) s { st with L := st.L.set no b } (.slice (some ⟨g, 0, none⟩) n c) vF vR (cs.set no (slV t')) (fun k => if k = no then t' else t k) := by
  obtain ⟨cg, hg⟩ := own_bk h.L (g := g) rfl
  have far : ∀ {k : Nat} {e : TypeId} {c2 : Array Value}, Bk W k e c2 → 22 ≠ e → (W.setCell ⟨g, no, none⟩ (slV t')).heap[k]? = W.heap[k]? := fun hk he => Below.heap_setCell W ⟨g, no, none⟩ _ _ (bk_ne hg hk he)
  have hcl : cs.length = st.L.length := by have := h.L.1; omega
  refine ⟨(far h.hd (by decide)).trans h.hd, ?_, own_same h.R (fun i hi => ?_), h.F.heap (by simp) (fun i hi _ => ?_), fun k b2 h1 h2 => ?_, fun i hi => ?_, fun u hu => ?_⟩
  · show World.ownsRow _ _ _ _ _ (st.L.set no b).length _
    rw [List.length_set]
    subst hnn
    exact (h.L.stored no (slV t')).1
  · obtain ⟨c2, hk⟩ := own_bk h.R hi
    exact far hk (by decide)
  · obtain ⟨c2, hk⟩ := h.Fi i hi
    exact far hk (by decide)
  · have h2 : (st.L.set no b)[k]? = some b2 := h2
    by_cases e : k = no
    · subst e
      rw [if_pos rfl, List.getElem?_set_self (by omega)]
      rw [List.getElem?_set_self hn] at h2
      injection h2 with h2
      subst h2
      obtain ⟨c2, hk, hk2⟩ := hb
      exact ⟨rfl, PgB.heap ⟨c2, hk, hk2⟩ (far hk (by decide))⟩
    · rw [if_neg e, List.getElem?_set_ne (fun e2 => e e2.symm)]
      rw [List.getElem?_set_ne (fun e2 => e e2.symm)] at h2
      obtain ⟨a1, c2, hk, hk2⟩ := h.rows k b2 e h1 h2
      exact ⟨a1, PgB.heap ⟨c2, hk, hk2⟩ (far hk (by decide))⟩
  · obtain ⟨c2, hk⟩ := h.Fi i hi
    exact ⟨c2, (far hk (by decide)).trans hk⟩
  · rcases List.mem_or_eq_of_mem_set hu with hu | hu
    · exact h.one u hu
    · rw [hu]; rfl
theorem drew_tr {W W6 : World} (h : Below W.drew.heap.size W.drew W6) : Below W.heap.size W W6 := (Below.refl W.heap.size W).drew.trans (show Below W.heap.size W.drew W6 from h)
/-- What the last statement of Write, and of Alloc, leaves. -/
theorem put_end_ {w W W6 : World} {O K : Nat → Prop} {s no g n c g6 k6 : Nat} {st st2 : StP} {vF vR : Value} {cs : List Value} {t : Nat → SlT} {b : List UInt8} (h : RfN W s st (.slice (some ⟨g, 0, none⟩) n c) vF vR cs t no) (hb : Below W.heap.size W W6) (hp : PgB W6 (g6, 508, k6) b) (hg6 : W.heap.size ≤ g6)
    (hn : no < st.L.length) (hnn : n = st.L.length) (hO : ∀ i, RfMut s (.slice (some ⟨g, 0, none⟩) n c) vR i → O i ∨ (w.heap.size ≤ i ∧ i < W.heap.size)) (hK : ∀ i, vF.ownBlock = some i ∨ (∃ k b, k ≠ no ∧ 1 ≤ k ∧ st.L[k]? = some b ∧ i = (t k).1) → K i) (hKl : ∀ i, K i → i < W.heap.size) (hOK : ∀ i, O i → ¬ K i)
    (hOW : ∀ i, O i → i < W.heap.size) (hKw : ∀ i, w.heap.size ≤ i → ¬ K i) (hc : Ch O w W) (he : st2 = { st with L := st.L.set no b }) : RfX w (W6.setCell ⟨g, no, none⟩ (.slice (some ⟨g6, 0, none⟩) 508 k6)) O K s st2 := by
  subst he
  have hz := hc.size
  have hz6 := hb.size
  have hM := (h.below hb).put hp hn hnn
  have hgO := hO g (.inr (.inl rfl))
  have hgl : g < W.heap.size := by
    obtain ⟨cg, hg⟩ := own_bk h.L (g := g) rfl
    exact hg.lt
  have hlt := hp.lt
  refine ⟨fun i => O i ∨ (w.heap.size ≤ i ∧ i < W.heap.size), fun i => K i ∨ i = g6, ⟨_, _, _, _, _, hM, hO, fun i hi => ?_⟩, fun i hi => ?_, fun i hi => ?_, fun i hi => .inl hi, fun i hi e => ?_, ?_⟩
  · rcases hi with e | ⟨k, b2, h1, h2, e⟩
    · exact .inl (hK i (.inl e))
    · by_cases hk : k = no
      · dsimp only at e
        rw [if_pos hk] at e
        exact .inr e
      · dsimp only at e
        rw [if_neg hk] at e
        have h2 : (st.L.set no b)[k]? = some b2 := h2
        rw [List.getElem?_set_ne (fun e2 => hk e2.symm)] at h2
        exact .inl (hK i (.inr ⟨k, b2, hk, h1, h2, e⟩))
  · rcases hi with e | e
    · exact .inl e
    · exact .inr ⟨e.1, by simp; omega⟩
  · rcases hi with e | rfl
    · exact .inl e
    · exact .inr ⟨by omega, by simpa using hlt⟩
  · rcases e with e | rfl
    · rcases hi with hi | hi
      · exact hOK i hi e
      · exact hKw i hi.1 e
    · rcases hi with hi | hi
      · have := hOW _ hi; omega
      · omega
  · have h1 : Ch O w W6 := hc.trans (Ch.of_below (S := fun _ => False) hb (Nat.le_refl _)) (fun i e => e.elim)
    refine h1.set (p := ⟨g, no, none⟩) ?_ _
    rcases hgO with e | e
    · exact .inl e
    · exact .inr e.1
/-- What the last statement's region wants of the memory. -/
theorem put_pre {W : World} {s no g n c : Nat} {st : StP} {vF vR : Value} {cs : List Value} {t : Nat → SlT} (h : RfN W s st (.slice (some ⟨g, 0, none⟩) n c) vF vR cs t no) (hn : no < st.L.length) :
    (∀ W2, Below W.heap.size W W2 → W2.cell? ⟨s, 0, none⟩ = some (.slice (some ⟨g, 0, none⟩) n c) ∧ (∃ u, W2.cell? ⟨g, no, none⟩ = some u) ∧ W2.frozen? ⟨g, no, none⟩ = false) ∧ ∀ W2 v, Below W.heap.size W W2 → (W2.setCell ⟨g, no, none⟩ v).cell? ⟨s, 0, none⟩ = some (.slice (some ⟨g, 0, none⟩) n c) := by
  obtain ⟨cg, hg⟩ := own_bk h.L (g := g) rfl
  have hcl : cs.length = st.L.length := by have := h.L.1; omega
  have hcell : ∃ u, W.cell? ⟨g, no, none⟩ = some u := by
    obtain ⟨u, hu⟩ : ∃ u, cs[no]? = some u := ⟨_, List.getElem?_eq_getElem (by omega)⟩
    have := h.L.cells (g := g) rfl no u hu
    rw [addLit, Nat.zero_add] at this
    exact ⟨u, this⟩
  refine ⟨fun W2 hb => ⟨(h.hd.below hb h.hd.lt).cell 0, ?_, (hg.below hb hg.lt).free no⟩, fun W2 v hb => ?_⟩
  · obtain ⟨u, hu⟩ := hcell
    exact ⟨u, ((hg.below hb hg.lt).cell no).trans ((hg.cell no).symm.trans hu)⟩
  · have hs := h.hd.below hb h.hd.lt
    have hne : s ≠ g := bk_ne hg h.hd (by decide)
    exact (hs.far (p := ⟨g, no, none⟩) hne v).cell 0
set_option maxHeartbeats 1000000 in
theorem write_any17 (s no : Nat) (A : Option Addr) (n c : Nat) (b : List UInt8) (st : StP) (O K : Nat → Prop) (w : World) (h : RfA w O K s st) (hr : Rd w w.heap.size 1 A n (bys b)) (hn : n ≤ 508) (h1 : 1 ≤ no) (h2 : no < st.L.length) (hL : st.L.length ≤ 1000000) (hOK : ∀ i, O i → ¬ K i) (hOl : ∀ i, O i ∨ K i → i < w.heap.size) :
    Calls Tryz.prog 54 #[.pointer (some ⟨s, 0, none⟩), .int .i64 (no : Int), .slice A n c] w fun e w' => e = .returned (.tuple #[]) ∧ RfX w w' O K s (writeS st no b) := by
  obtain ⟨vL, vF, vR, cs, t, hM, hO2, hK2⟩ := h
  obtain ⟨g, cL, rfl, _, _, _⟩ := own_pos hM.L (by omega)
  obtain ⟨nL, hnL⟩ : ∃ nL, nL = st.L.length := ⟨_, rfl⟩
  rw [← hnL] at hM hL h2
  have hin : (no : Int) < (nL : Int) := by omega
  have hin0 : (0 : Int) ≤ (no : Int) := by omega
  have HN := Lib.hid (hM.but no)
  have HPr := Lib.hid (put_pre (hM.but no) (by omega))
  have HFu := Lib.hid (full_any A n c b w.drew hr.drew hn)
  have HH := Lib.hid (And.intro hM (And.intro hO2 (And.intro hK2 (And.intro hnL (And.intro hOK (And.intro hOl (And.intro h1 h2)))))))
  clear hM hO2 hK2 hnL hOK hOl h1 h2 hr
  go_enter Tryz.func54, Tryz.ntmps54
  go_wp2_with fail
  have hS0 : w.drew.cell? ⟨s, 0, none⟩ = some (.slice (some ⟨g, 0, none⟩) nL cL) := (HPr.out.1 _ (Below.refl _ w).drew).1
  go_region_held3 (fun w' => w'.cell? ⟨s, 0, none⟩ = some (.slice (some ⟨g, 0, none⟩) nL cL)) (first | exact hS0 | exact hS6 | exact hS7 _ | go_keep)
    ((go_at_call 82; with_reducible refine HFu.out.mono ?_; rintro e w6 ⟨g6, k6, rfl, H6⟩; obtain ⟨hS6, ⟨u6, hc6⟩, hf6⟩ := HPr.out.1 w6 (drew_tr H6.out.2.2); have hS7 := fun v => HPr.out.2 w6 v (drew_tr H6.out.2.2)))
  clear hS0 hS6 hc6 hf6 hS7
  go_wp2_with fail
  refine (show bodyPost Tryz.prog _ _ .normal _ _ from ?_)
  refine bodyPost_end (results_none rfl _ _ _) rfl ?_
  obtain ⟨hM, hO2, hK2, hnL, hOK, hOl, h1, h2⟩ := HH.out
  exact ⟨rfl, put_end_ HN.out (drew_tr H6.out.2.2) H6.out.1 H6.out.2.1 (by omega) hnL (fun i hi => .inl (hO2 i hi)) (fun i hi => hK2 i (by
    rcases hi with e | ⟨k, b2, _, e1, e2, e3⟩
    · exact .inl e
    · exact .inr ⟨k, b2, e1, e2, e3⟩)) (fun i hi => hOl i (.inr hi)) hOK (fun i hi => hOl i (.inl hi)) (fun i hi hk => by have := hOl i (.inr hk); omega) (Ch.refl _ _) rfl⟩
/-- append of slices, at this program. -/
theorem ap_sl {w w0 : World} {ops : Array Oper} {rest : List Oper} {a : Act} {Q : Exit → Act → World → Prop} {d : Option Tmp} {ty : TypeId} {pos : String} {af : Array Edge} {g : Option (Nat × Bool)} {s x : Operand} {base : Nat}
    {v : Value} {n : Nat} {xs : List Value} (hown : w.ownsRow base 22 1 v n xs) {B : Nat} {A : Option Addr} {m c : Nat} {news : List Value} (hr : Rd w B 1 A m news) (h1 : ∀ u ∈ news, u.oneCell' = true)
    (hb : Below base w0 w) (hbase : base ≤ w.heap.size) (hbytes : n + m ≤ 1000000)
    (hs : a.eval s = v) (hx : a.eval x = .slice A m c)
    (hw : Region.wanted { dst := d, op := .call { callee := .builtin .append, args := #[s, x], argTypes := #[76, 76] }, type := ty, pos := pos, after := af, guard := g } (yielded ops a.tmps) = true)
    (h : ∀ v' w', w'.ownsRow base 22 1 v' (n + m) (xs ++ news) → Below base w0 w' → w.grownBy w' v.ownBlock → (v'.ownBlock = v.ownBlock ∨ v'.ownBlock = some w.heap.size) → wpList Tryz.prog ops Q rest (a.put d v') w') :
    wpList Tryz.prog ops Q ({ dst := d, op := .call { callee := .builtin .append, args := #[s, x], argTypes := #[76, 76] }, type := ty, pos := pos, after := af, guard := g } :: rest) a w := by
  obtain ⟨i0, hi, hz0, hz1, hz2⟩ := info_parts infoSS
  exact ap_any Tryz.underlying76 hi hz0 hz1 hz2 rfl (by decide) hown hr h1 hb hbase (by omega) hs hx hw h
/-- A page more, empty. -/
theorem RfM.more {w w2 : World} {s g nL cL g2 c2 : Nat} {st : StP} {vF vR : Value} {cs : List Value} {t : Nat → SlT} {o : Obj} (h : RfM w s st (.slice (some ⟨g, 0, none⟩) nL cL) vF vR cs t) (o2 : w2.ownsRow 0 22 1 (.slice (some ⟨g2, 0, none⟩) (nL + 1) c2) (nL + 1) (cs ++ [.slice none 0 0]))
    (hg : (w.alloc o).grownBy w2 (some g)) (hnL : nL = st.L.length) :
    RfN (w2.setCell ⟨s, 0, none⟩ (.slice (some ⟨g2, 0, none⟩) (nL + 1) c2)) s { st with L := st.L ++ [zerosP] } (.slice (some ⟨g2, 0, none⟩) (nL + 1) c2) vF vR (cs ++ [.slice none 0 0]) t nL ∧ Ch (fun i => i = s ∨ i = g) w (w2.setCell ⟨s, 0, none⟩ (.slice (some ⟨g2, 0, none⟩) (nL + 1) c2)) ∧ Bk w2 s 78 #[.slice (some ⟨g, 0, none⟩) nL cL, vF, vR] := by
  obtain ⟨cg, hgb⟩ := own_bk h.L (g := g) rfl
  have hsg : s ≠ g := bk_ne hgb h.hd (by decide)
  have hc : Ch (fun i => i = s ∨ i = g) w (w2.setCell ⟨s, 0, none⟩ (.slice (some ⟨g2, 0, none⟩) (nL + 1) c2)) := (((Ch.refl _ w).alloc o).grown hg (fun i e => by injection e with e; exact .inl (.inr e.symm))).set (p := ⟨s, 0, none⟩) (.inl (.inl rfl)) _
  have hb2 : Bk w2 s 78 #[.slice (some ⟨g, 0, none⟩) nL cL, vF, vR] := (h.hd.alloc o).grown hg (by intro e; injection e with e; exact hsg e)
  have far : ∀ {k : Nat} {e : TypeId} {c2 : Array Value}, Bk w k e c2 → 22 ≠ e → 78 ≠ e → _ := fun hk he he2 => hc.block _ hk.lt (by
    rintro (e | e)
    · exact bk_ne h.hd hk he2 e
    · exact bk_ne hgb hk he e)
  have hcl : cs.length = nL := by have := h.L.1; omega
  refine ⟨⟨by have := hb2.set 0 (.slice (some ⟨g2, 0, none⟩) (nL + 1) c2); exact this, ?_, own_same h.R (fun i hi => ?_), h.F.heap hc.size (fun i hi _ => ?_), fun k b h0 h1 h2 => ?_, fun i hi => ?_, fun u hu => ?_⟩, hc, hb2⟩
  · show World.ownsRow _ _ _ _ _ (st.L ++ [zerosP]).length _
    rw [List.length_append, List.length_singleton, ← hnL]
    exact own_put o2 hb2 (by decide)
  · obtain ⟨c2, hk⟩ := own_bk h.R hi
    exact far hk (by decide) (by decide)
  · obtain ⟨c2, hk⟩ := h.Fi i hi
    exact far hk (by decide) (by decide)
  · have h2 : (st.L ++ [zerosP])[k]? = some b := h2
    have hkl : k < nL := by
      have := (List.getElem?_eq_some_iff.1 h2).1
      rw [List.length_append, List.length_singleton] at this
      omega
    rw [List.getElem?_append_left (by omega)] at h2
    obtain ⟨a1, c3, hk, hk2⟩ := h.rows k b h1 h2
    exact ⟨by rw [List.getElem?_append_left (by omega)]; exact a1, PgB.heap ⟨c3, hk, hk2⟩ (far hk (by decide) (by decide))⟩
  · obtain ⟨c2, hk⟩ := h.Fi i hi
    exact ⟨c2, (far hk (by decide) (by decide)).trans hk⟩
  · rcases List.mem_append.1 hu with hu | hu
    · exact h.one u hu
    · simp at hu; subst hu; rfl
set_option maxHeartbeats 2000000 in
set_option maxRecDepth 100000 in
theorem alloc_any17 (s : Nat) (st : StP) (O K : Nat → Prop) (w : World) (h : RfA w O K s st) (hL1 : 1 ≤ st.L.length) (hL : st.L.length ≤ 100000) (hF : st.free.length ≤ 100000) (hfb : ∀ k ∈ st.free, 1 ≤ k ∧ k < st.L.length) (hOK : ∀ i, O i → ¬ K i) (hOl : ∀ i, O i ∨ K i → i < w.heap.size) :
    Calls Tryz.prog 52 #[.pointer (some ⟨s, 0, none⟩)] w fun e w' => e = .returned (.int .i64 ((allocS st).1 : Int)) ∧ RfX w w' O K s (allocS st).2 := by
  obtain ⟨vL, vF, vR, cs, t, hM, hO2, hK2⟩ := h
  obtain ⟨g, cL, rfl, _, _, _⟩ := own_pos hM.L (by omega)
  obtain ⟨nL, hnL⟩ : ∃ nL, nL = st.L.length := ⟨_, rfl⟩
  rw [← hnL] at hM hL hL1
  have c0 : w.cell? ⟨s, 0, none⟩ = some (.slice (some ⟨g, 0, none⟩) nL cL) := hM.hd.cell 0
  cases hst : st.free with
  | nil =>
    obtain ⟨AF, cF, rfl, hcF, _⟩ := hM.F.form
    rw [hst] at hM hK2
    rw [show ([] : List Nat).length = 0 from rfl] at hM hK2
    have c1 : w.cell? ⟨s, 1, none⟩ = some (.slice AF 0 cF) := hM.hd.cell 1
    have HH := Lib.hid (And.intro hM (And.intro hO2 (And.intro hK2 (And.intro hnL (And.intro hOK (And.intro hOl hst))))))
    have HL := Lib.hid (show (w.alloc (.cells #[.slice none 0 0] 22)).ownsRow 0 22 1 (.slice (some ⟨g, 0, none⟩) nL cL) nL cs from by have := hM.L; rw [← hnL] at this; exact this.alloc _)
    have HR := Lib.hid (show Rd (w.alloc (.cells #[.slice none 0 0] 22)) (w.heap.size + 1) 1 (some ⟨w.heap.size, 0, none⟩) 1 [.slice none 0 0] from Rd.lits w 22 #[.slice none 0 0] rfl)
    have HMr := Lib.hid (fun w2 g2 c2 o2 (hg : (w.alloc (.cells #[.slice none 0 0] 22)).grownBy w2 (Value.slice (some ⟨g, 0, none⟩) nL cL).ownBlock) => hM.more (w2 := w2) (g2 := g2) (c2 := c2) (o := .cells #[.slice none 0 0] 22) o2 hg hnL)
    have hone : ∀ u ∈ [Value.slice none 0 0], u.oneCell' = true := fun u hu => by
      simp at hu
      subst hu
      exact slice_one
    have hin : (nL : Int) < (nL : Int) + 1 := by omega
    have hin0 : (0 : Int) ≤ (nL : Int) := by omega
    clear hM hO2 hK2 hnL hOK hOl hcF hfb hst hF
    go_enter Tryz.func52, Tryz.ntmps52
    go_wp2_with (first
      | (with_reducible refine at_append ?_; go_loud ((apply ap_sl (c := 1) (base := 0) (w0 := w.alloc (.cells #[.slice none 0 0] 22)) HL.out HR.out hone (Below.refl _ _) (Nat.zero_le _) (by omega)); (case hs => kernel_rfl); (case hx => kernel_rfl); (case hw => kernel_rfl); intro v2 w2 o2 b2 g2 x2; obtain ⟨gg, cc, hv2, _, _, _⟩ := own_pos o2 (by omega); subst hv2; obtain ⟨m1, m2, m3⟩ := HMr.out w2 gg cc o2 g2; have k2 := m3.cell 0; have f2 := m3.free 0; simp at k2; replace m1 := Lib.hid m1; replace m2 := Lib.hid m2; have X2 := Lib.hid (And.intro o2 (And.intro x2 (And.intro g2 m3))); clear o2 b2 g2 x2 m3; try go_frame)))
    have X3 := Lib.hid (show ∀ i, RfMut s (.slice (some ⟨gg, 0, none⟩) (nL + 1) cc) vR i → O i ∨ (w.heap.size ≤ i ∧ i < (w2.setCell ⟨s, 0, none⟩ (.slice (some ⟨gg, 0, none⟩) (nL + 1) cc)).heap.size) from fun i hi => by
      rcases hi with e | e | e
      · exact .inl (HH.out.2.1 i (.inl e))
      · have hgi : gg = i := by simpa [Value.ownBlock] using e
        rcases X2.out.2.1 with e2 | e2
        · have : gg = g := by simpa [Value.ownBlock] using e2
          exact .inl (HH.out.2.1 i (.inr (.inl (by rw [← hgi, this]; rfl))))
        · have : gg = w.heap.size + 1 := by simpa [Value.ownBlock] using e2
          have h4 := (X2.out.1.lt gg rfl).2
          exact .inr ⟨by omega, by rw [← hgi]; simpa using h4⟩
      · exact .inl (HH.out.2.1 i (.inr (.inr e))))
    have X4 := Lib.hid (show Ch O w (w2.setCell ⟨s, 0, none⟩ (.slice (some ⟨gg, 0, none⟩) (nL + 1) cc)) from m2.out.mono (fun i hi => by
      rcases hi with rfl | rfl
      · exact HH.out.2.1 _ (.inl rfl)
      · exact HH.out.2.1 _ (.inr (.inl rfl))))
    clear k2 f2 X2 m2
    generalize w2.setCell ⟨s, 0, none⟩ (.slice (some ⟨gg, 0, none⟩) (nL + 1) cc) = W3 at *
    have hlen : nL < (st.L ++ [zerosP]).length := by rw [List.length_append, List.length_singleton, ← HH.out.2.2.2.1]; omega
    have HPr := Lib.hid (put_pre m1.out hlen)
    have HFu := Lib.hid (full_any none 0 0 [] W3.drew Rd.nil_ (by omega))
    have HLn := Lib.hid hlen
    clear hlen
    have hS0 : W3.drew.cell? ⟨s, 0, none⟩ = some (.slice (some ⟨gg, 0, none⟩) (nL + 1) cc) := (HPr.out.1 _ (Below.refl _ W3).drew).1
    go_region_held3 (fun w' => w'.cell? ⟨s, 0, none⟩ = some (.slice (some ⟨gg, 0, none⟩) (nL + 1) cc)) (first | exact hS0 | exact hS6 | exact hS7 _ | go_keep)
      ((go_at_call 82; with_reducible refine HFu.out.mono ?_; rintro e w6 ⟨g6, k6, rfl, H6⟩; obtain ⟨hS6, ⟨u6, hc6⟩, hf6⟩ := HPr.out.1 w6 (drew_tr H6.out.2.2); have hS7 := fun v => HPr.out.2 w6 v (drew_tr H6.out.2.2)))
    clear hS0 hS6 hc6 hf6 hS7
    go_wp2_with fail
    go_ret
    obtain ⟨hM, hO2, hK2, hnL, hOK, hOl, hst⟩ := HH.out
    have hz := X4.out.size
    have e1 : allocS st = (nL, { st with L := st.L ++ [zerosP] }) := by unfold allocS; rw [hst, hnL]
    rw [e1]
    refine ⟨rfl, put_end_ m1.out (drew_tr H6.out.2.2) (b := zerosP) H6.out.1 H6.out.2.1 HLn.out (by rw [List.length_append, List.length_singleton, ← hnL]) X3.out (fun i hi => hK2 i (by
      rcases hi with e | ⟨k, b2, e0, e1, e2, e3⟩
      · exact .inl e
      · refine .inr ⟨k, b2, e1, ?_, e3⟩
        have hkl := (List.getElem?_eq_some_iff.1 e2).1
        have e2 : (st.L ++ [zerosP])[k]? = some b2 := e2
        rw [List.length_append, List.length_singleton] at hkl
        rwa [List.getElem?_append_left (by omega)] at e2)) (fun i hi => by have := hOl i (.inr hi); omega) hOK (fun i hi => by have := hOl i (.inl hi); omega) (fun i hi hk => by have := hOl i (.inr hk); omega) X4.out ?_⟩
    show _ = ({ st with L := (st.L ++ [zerosP]).set nL zerosP } : StP)
    rw [List.set_append_right _ _ (by omega), hnL, Nat.sub_self]
    rfl
  | cons x r =>
    have hQ := hM.F
    rw [hst] at hQ
    rcases hQ with ⟨_, e⟩ | hQ
    · cases e
    obtain ⟨g4, o4, c4, rfl, hc4, hc5, _, hx4, hQ4⟩ := hQ.front
    have c1 : w.cell? ⟨s, 1, none⟩ = some (.slice (some ⟨g4, o4, none⟩) (r.length + 1) (c4 + 1)) := hM.hd.cell 1
    have f1 := hM.hd.free 1
    obtain ⟨nF, hnF⟩ : ∃ nF, nF = r.length := ⟨_, rfl⟩
    rw [← hnF] at c1 hQ4 hM hK2
    have hx := hfb x (by rw [hst]; exact List.mem_cons_self ..)
    have hin : (x : Int) < (nL : Int) := by omega
    have hin0 : (0 : Int) ≤ (x : Int) := by omega
    have h01 : (0 : Int) < (nF : Int) + 1 := by omega
    have HMf := Lib.hid (fun v2 (hv : v2 = Value.slice (some ⟨g4, o4, none⟩) nF c4 ∨ v2 = Value.slice (some ⟨g4, o4 + 1, none⟩) nF c4) (hq : QuN w 0 v2 r) => show RfM (w.setCell ⟨s, 1, none⟩ v2) s { st with free := r } (.slice (some ⟨g, 0, none⟩) nL cL) v2 vR cs t ∧ ∀ i, v2.ownBlock = some i → K i from by
      obtain ⟨cs4, hb4⟩ := hM.Fi g4 rfl
      have hne : g4 ≠ s := bk_ne hM.hd hb4 (by decide)
      have hvb : v2.ownBlock = some g4 := by rcases hv with rfl | rfl <;> rfl
      have hfar : (w.setCell ⟨s, 1, none⟩ v2).heap[g4]? = w.heap[g4]? := Below.heap_setCell w ⟨s, 1, none⟩ v2 g4 hne
      refine ⟨hM.refree ((Ch.refl (fun i => i = s) w).set (p := ⟨s, 1, none⟩) (.inl rfl) v2) (by have := hM.hd.set 1 v2; exact this) (hq.heap (by simp) (fun i hi _ => ?_)) (fun i hi => ?_), fun i hi => ?_⟩
      · rw [hvb] at hi
        injection hi with hi
        subst hi
        exact hfar
      · rw [hvb] at hi
        injection hi with hi
        subst hi
        exact ⟨cs4, hfar.trans hb4⟩
      · rw [hvb] at hi
        injection hi with hi
        subst hi
        exact hK2 _ (.inl rfl))
    have HH := Lib.hid (And.intro hM (And.intro hO2 (And.intro hK2 (And.intro hnL (And.intro hOK (And.intro hOl (And.intro hst (And.intro hx hQ4))))))))
    have HE : Hid (c4 = 0 → Hid (QuN w 0 (.slice (some ⟨g4, o4, none⟩) nF c4) r)) := Lib.hid (fun e => Lib.hid (.inr (by rw [if_pos e] at hQ4; exact hQ4)))
    have HE2 : Hid (¬ c4 = 0 → Hid (QuN w 0 (.slice (some ⟨g4, o4 + 1, none⟩) nF c4) r)) := Lib.hid (fun e => Lib.hid (.inr (by rw [if_neg e] at hQ4; exact hQ4)))
    clear hM hO2 hK2 hnL hOK hOl hfb hst hF hQ hQ4 hnF hx hc4 hc5
    by_cases h4 : c4 = 0
    · subst h4
      have HQ := HE.out rfl
      have HR := Lib.hid (HMf.out _ (.inl rfl) HQ.out)
      clear HE HE2 HMf
      go_enter Tryz.func52, Tryz.ntmps52
      go_wp2_with fail
      generalize hW3 : w.setCell ⟨s, 1, none⟩ (.slice (some ⟨g4, o4, none⟩) nF 0) = W3 at *
      have hc3 : Ch O w W3 := by
        rw [← hW3]
        exact ((Ch.refl (fun i => i = s) w).set (p := ⟨s, 1, none⟩) (.inl rfl) _).mono (fun i hi => by rw [hi]; exact HH.out.2.1 _ (.inl rfl))
      have X4 := Lib.hid hc3
      have m1 := Lib.hid (HR.out.1.but x)
      have hlen : x < st.L.length := HH.out.2.2.2.2.2.2.2.1.2
      have HPr := Lib.hid (put_pre m1.out hlen)
      have HFu := Lib.hid (full_any none 0 0 [] W3.drew Rd.nil_ (by omega))
      have HLn := Lib.hid hlen
      clear hlen hc3 hW3
      have hS0 : W3.drew.cell? ⟨s, 0, none⟩ = some (.slice (some ⟨g, 0, none⟩) nL cL) := (HPr.out.1 _ (Below.refl _ W3).drew).1
      go_region_held3 (fun w' => w'.cell? ⟨s, 0, none⟩ = some (.slice (some ⟨g, 0, none⟩) nL cL)) (first | exact hS0 | exact hS6 | exact hS7 _ | go_keep)
        ((go_at_call 82; with_reducible refine HFu.out.mono ?_; rintro e w6 ⟨g6, k6, rfl, H6⟩; obtain ⟨hS6, ⟨u6, hc6⟩, hf6⟩ := HPr.out.1 w6 (drew_tr H6.out.2.2); have hS7 := fun v => HPr.out.2 w6 v (drew_tr H6.out.2.2)))
      clear hS0 hS6 hc6 hf6 hS7
      go_wp2_with fail
      go_ret
      obtain ⟨hM, hO2, hK2, hnL, hOK, hOl, hst, hx, _⟩ := HH.out
      have hz := X4.out.size
      have e1 : allocS st = (x, { st with L := st.L.set x zerosP, free := r }) := by unfold allocS; rw [hst]
      rw [e1]
      exact ⟨rfl, put_end_ m1.out (drew_tr H6.out.2.2) (b := zerosP) H6.out.1 H6.out.2.1 HLn.out hnL (fun i hi => .inl (hO2 i hi)) (fun i hi => by
        rcases hi with e | ⟨k, b2, _, e1, e2, e3⟩
        · exact HR.out.2 i e
        · exact hK2 i (.inr ⟨k, b2, e1, e2, e3⟩)) (fun i hi => by have := hOl i (.inr hi); omega) hOK (fun i hi => by have := hOl i (.inl hi); omega) (fun i hi hk => by have := hOl i (.inr hk); omega) X4.out rfl⟩
    · have h4b : ¬ c4 + 1 = 1 := by omega
      have HQ := HE2.out h4
      have HR := Lib.hid (HMf.out _ (.inr rfl) HQ.out)
      clear HE HE2 HMf h4
      go_enter Tryz.func52, Tryz.ntmps52
      go_wp2_with fail
      generalize hW3 : w.setCell ⟨s, 1, none⟩ (.slice (some ⟨g4, o4 + 1, none⟩) nF c4) = W3 at *
      have hc3 : Ch O w W3 := by
        rw [← hW3]
        exact ((Ch.refl (fun i => i = s) w).set (p := ⟨s, 1, none⟩) (.inl rfl) _).mono (fun i hi => by rw [hi]; exact HH.out.2.1 _ (.inl rfl))
      have X4 := Lib.hid hc3
      have m1 := Lib.hid (HR.out.1.but x)
      have hlen : x < st.L.length := HH.out.2.2.2.2.2.2.2.1.2
      have HPr := Lib.hid (put_pre m1.out hlen)
      have HFu := Lib.hid (full_any none 0 0 [] W3.drew Rd.nil_ (by omega))
      have HLn := Lib.hid hlen
      clear hlen hc3 hW3
      have hS0 : W3.drew.cell? ⟨s, 0, none⟩ = some (.slice (some ⟨g, 0, none⟩) nL cL) := (HPr.out.1 _ (Below.refl _ W3).drew).1
      go_region_held3 (fun w' => w'.cell? ⟨s, 0, none⟩ = some (.slice (some ⟨g, 0, none⟩) nL cL)) (first | exact hS0 | exact hS6 | exact hS7 _ | go_keep)
        ((go_at_call 82; with_reducible refine HFu.out.mono ?_; rintro e w6 ⟨g6, k6, rfl, H6⟩; obtain ⟨hS6, ⟨u6, hc6⟩, hf6⟩ := HPr.out.1 w6 (drew_tr H6.out.2.2); have hS7 := fun v => HPr.out.2 w6 v (drew_tr H6.out.2.2)))
      clear hS0 hS6 hc6 hf6 hS7
      go_wp2_with fail
      go_ret
      obtain ⟨hM, hO2, hK2, hnL, hOK, hOl, hst, hx, _⟩ := HH.out
      have hz := X4.out.size
      have e1 : allocS st = (x, { st with L := st.L.set x zerosP, free := r }) := by unfold allocS; rw [hst]
      rw [e1]
      exact ⟨rfl, put_end_ m1.out (drew_tr H6.out.2.2) (b := zerosP) H6.out.1 H6.out.2.1 HLn.out hnL (fun i hi => .inl (hO2 i hi)) (fun i hi => by
        rcases hi with e | ⟨k, b2, _, e1, e2, e3⟩
        · exact HR.out.2 i e
        · exact hK2 i (.inr ⟨k, b2, e1, e2, e3⟩)) (fun i hi => by have := hOl i (.inr hi); omega) hOK (fun i hi => by have := hOl i (.inl hi); omega) (fun i hi hk => by have := hOl i (.inr hk); omega) X4.out rfl⟩
end Go.Proofs.YtoadamkmabkldaaGreatDoor
/- Law 17: used. -/
namespace Go.Proofs.YtoadamkmabkldaaGreatDoor
open Go.RowKit Go.Shelf
attribute [local go_sem ↓] Go.wp_at_zero Go.wp_at_succ
def usedTo (st : StP) (j : Nat) : List Nat := (List.range j).filter fun no => decide (1 ≤ no) && !decide (no ∈ st.free)
theorem usedTo_succ (st : StP) (j : Nat) (hj : 1 ≤ j) : usedTo st (j + 1) = usedTo st j ++ (if j ∈ st.free then [] else [j]) := by
  unfold usedTo
  rw [List.range_succ, List.filter_append]
  congr 1
  by_cases h : j ∈ st.free
  · simp [h]
  · simp [h]; omega
theorem usedTo_one (st : StP) : usedTo st 1 = [] := rfl
theorem usedTo_len (st : StP) (j : Nat) : (usedTo st j).length ≤ j := by
  have := List.length_filter_le (fun no => decide (1 ≤ no) && !decide (no ∈ st.free)) (List.range j)
  rw [List.length_range] at this
  exact this
set_option maxHeartbeats 2000000 in
set_option maxRecDepth 100000 in
theorem used_any (s : Nat) (n : Int) (st : StP) (O K : Nat → Prop) (w : World) (h : RfA w O K s st) (hL1 : 1 ≤ st.L.length) (hL : st.L.length ≤ 100000) (hF : st.free.length ≤ 100000) (hn : -9223372036854775808 ≤ n ∧ n ≤ 9223372036854775807) :
    Calls Tryz.prog 51 #[.pointer (some ⟨s, 0, none⟩), .int .i64 n] w fun e w' => e = .returned (.int .i64 (usedS st n : Int)) ∧ Below w.heap.size w w' := by
  obtain ⟨nL, hnL⟩ : ∃ nL, nL = st.L.length := ⟨_, rfl⟩
  have HLc := Lib.hid (show ∀ W, Below w.heap.size w W → ∃ A c, W.cell? ⟨s, 0, none⟩ = some (.slice A nL c) from fun W hb => by
    obtain ⟨vL, vF, vR, cs, t, hM, _, _⟩ := h
    obtain ⟨A, c, rfl, _, _⟩ := own_form hM.L
    rw [hnL]
    exact ⟨A, c, (hM.hd.below hb hM.hd.lt).cell 0⟩)
  have HIs := Lib.hid (show ∀ W (no : Nat), Below w.heap.size w W → Calls Tryz.prog 49 #[.pointer (some ⟨s, 0, none⟩), .int .i64 (no : Int)] W fun e w' => e = .returned (.bool (decide (no ∈ st.free))) ∧ w' = W from fun W no hb => is_any s no st O K W (h.below hb) (by omega))
  have HH := Lib.hid (And.intro hnL hn)
  rw [← hnL] at hL1 hL
  clear h hnL hF hn
  go_enter Tryz.func51, Tryz.ntmps51
  go_wp2_with fail
  go_loopw [5, 6] (fun s5 s6 wr => ∃ (j k : Nat) (A : Option Addr) (c : Nat), s6 = .int .i64 (j : Int) ∧ 1 ≤ j ∧ j ≤ nL ∧ s5 = .slice A k c ∧ Hid (wr.ownsRow w.heap.size 3 1 (.slice A k c) k (its (natI (usedTo st j))) ∧ Below w.heap.size w wr)) (fun _ s6 _ => nL - (intOf s6).toNat)
  case atStart => exact ⟨1, 0, none, 0, rfl, Nat.le_refl _, hL1, rfl, Lib.hid ⟨by rw [usedTo_one]; exact own_nilI _ _ _, Below.refl _ _⟩⟩
  case round =>
    obtain ⟨j, k, A, c, rfl, hj1, hjn, rfl, HI⟩ := hrel
    obtain ⟨AL, cL, hcL⟩ := HLc.out wr HI.out.2
    by_cases hlt : j < nL
    · have hlt2 : (j : Int) < (nL : Int) := by omega
      by_cases hm : j ∈ st.free
      · have HIj := Lib.hid (by have := HIs.out wr j HI.out.2; rw [show decide (j ∈ st.free) = true by simpa using hm] at this; exact this)
        have HM := Lib.hid hm
        clear hm
        go_wp2_with fail
        with_reducible refine HIj.out.mono ?_
        rintro e wz ⟨rfl, hwz⟩
        subst hwz
        go_wp2_with fail
        go_roundw
        have HI2 := Lib.hid (show wz.ownsRow w.heap.size 3 1 (.slice A k c) k (its (natI (usedTo st (j + 1)))) ∧ Below w.heap.size w wz from by rw [usedTo_succ st j hj1, if_pos HM.out, List.append_nil]; exact HI.out)
        case rel => first | exact ⟨j + 1, k, A, c, rfl, by omega, by omega, rfl, HI2⟩ | ((repeat apply Exists.intro); exact ⟨⟨j + 1, k, A, c, rfl, by omega, by omega, rfl, HI2⟩, rfl⟩)
        case measure => simp [intOf]; omega
      · have HIj := Lib.hid (by have := HIs.out wr j HI.out.2; rw [show decide (j ∈ st.free) = false by simpa using hm] at this; exact this)
        have HM := Lib.hid hm
        have HO := Lib.hid (HI.out.1.alloc (.cells #[.int .i64 (j : Int)] 3))
        have HR := Lib.hid (Rd.oneI wr 3 (j : Int))
        have HB := Lib.hid (HI.out.2.alloc HI.out.2.size (.cells #[.int .i64 (j : Int)] 3))
        have HZ := Lib.hid HI.out.2.size
        have hkb : k + 1 ≤ 17592186044416 := by
          have h1 := HI.out.1.1
          have h2 := usedTo_len st j
          simp [its, natI] at h1
          omega
        clear hm
        go_wp2_with fail
        with_reducible refine HIj.out.mono ?_
        rintro e wz ⟨rfl, hwz⟩
        subst hwz
        go_wp2_with (with_reducible refine at_append ?_; go_loud ((apply ap_its (c := 1) (base := w.heap.size) (w0 := w) HO.out HR.out HB.out (by have := HZ.out; simp; omega) hkb); (case hs => kernel_rfl); (case hx => kernel_rfl); (case hw => kernel_rfl); intro v4 w4 h4 b4 _ _; obtain ⟨A4, c4, hv4, _, _⟩ := own_form h4; subst hv4; replace h4 := Lib.hid (And.intro h4 b4); clear b4; try go_frame))
        go_roundw
        have HI2 := Lib.hid (show w4.ownsRow w.heap.size 3 1 (.slice A4 (k + 1) c4) (k + 1) (its (natI (usedTo st (j + 1)))) ∧ Below w.heap.size w w4 from by
          rw [usedTo_succ st j hj1, if_neg HM.out]
          have e : natI (usedTo st j ++ [j]) = natI (usedTo st j) ++ [(j : Int)] := by simp [natI]
          rw [e]
          exact h4.out)
        case rel => first | exact ⟨j + 1, k + 1, A4, c4, rfl, by omega, by omega, rfl, HI2⟩ | ((repeat apply Exists.intro); exact ⟨⟨j + 1, k + 1, A4, c4, rfl, by omega, by omega, rfl, HI2⟩, rfl⟩)
        case measure => simp [intOf]; omega
    · obtain rfl : j = nL := by omega
      have hul : usedTo st j = usedL st := by unfold usedL; rw [← HH.out.1]; rfl
      have hlen : (usedL st).length = k := by
        have := HI.out.1.1
        rw [hul] at this
        simpa [its, natI] using this
      have HV := Lib.hid (And.intro hul hlen)
      clear hul hlen
      cases k with
      | zero =>
        have hu : usedS st n = 0 := by
          unfold usedS
          rw [List.length_eq_zero_iff.1 HV.out.2]; rfl
        have HU := Lib.hid hu
        clear hu
        go_wp2_with fail
        go_ret
        rw [HU.out]
        exact ⟨rfl, HI.out.2⟩
      | succ k =>
        obtain ⟨M, hM⟩ : ∃ M : Nat, (M : Int) = if n < 0 then 0 else n := ⟨(max n 0).toNat, by split <;> omega⟩
        obtain ⟨I, hI⟩ : ∃ I : Nat, (I : Int) = if (k : Int) < (M : Int) then (k : Int) else (M : Int) := ⟨min M k, by split <;> omega⟩
        have em := fun ats ty => run_max ats ty n 0 (M : Int) hM
        have e3 : min (M : Int) (k : Int) = (I : Int) := by rw [hI]; split <;> omega
        have hk5 : k ≤ 100000 := by have h1 := HV.out.2; have h2 := usedTo_len st j; rw [HV.out.1] at h2; omega
        have hIk : I < k + 1 := by split at hI <;> omega
        obtain ⟨b, o, u, rfl, _, hu, hcell⟩ := (Rd.of_own HI.out.1).num hIk
        have huu : u = (usedS st n : Int) := by
          rw [HV.out.1] at hu
          simp only [natI, List.getElem?_map, Option.map_eq_some_iff] at hu
          obtain ⟨x, hx, rfl⟩ := hu
          have : usedS st n = x := by
            unfold usedS
            rw [HV.out.2, show min (max n 0).toNat (k + 1 - 1) = I by split at hM <;> split at hI <;> omega, hx]; rfl
          rw [this]
        subst huu
        have hI0 : (0 : Int) ≤ (I : Int) := by omega
        have hI1 : (I : Int) < (k : Int) + 1 := by omega
        clear hu hM hI hIk
        go_wp2_with fail
        go_ret
        exact ⟨rfl, HI.out.2⟩
end Go.Proofs.YtoadamkmabkldaaGreatDoor
