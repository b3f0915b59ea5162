/- PagerActs: what holds between acts while the store is up; in plain words. -/
import Derived.Test.YtoadamkmabkldaaGreatDoorJn35
import Derived.Test.YtoadamkmabkldaaGreatDoorJn22
import Derived.Test.YtoadamkmabkldaaGreatDoorJn27
set_option linter.unusedVariables false
set_option linter.unusedSimpArgs false
namespace Go.Proofs.YtoadamkmabkldaaGreatDoor

/-- The pager P on the store S, whose file holds the pages L: `now` is nw, what lasts is ls; i acts are over. -/
structure InvA (P : PgP) (S : FsP) (L : List (List UInt8)) (nw ls : StP) (i : Nat) : Prop where
  st : St S xN L 65536
  ok : P.Ok
  kept : KeptN P (cF L)
  dead : P.dead = false
  l0 : L[0]? = some (padB (hdB P.last))
  ll : L.length = P.last.many
  bat : BatOk L P.now P.ch
  rn : RelC P.now (cont P (cF L)) nw
  rl : RelC P.last (cF L) ls
  bm : P.now.many ≤ i + 1
  bl : P.last.many ≤ i + 1
  bc : P.ch.length ≤ i
  br : P.reads ≤ 400 * i + 10
  bs : S.stamp ≤ 4600 * i + 40000
section
variable {P Q : PgP} {S S2 : FsP} {L : List (List UInt8)} {nw ls nw2 ls2 : StP} {i k : Nat}
theorem InvA.good (h : InvA P S L nw ls i) : GoodN P S xN (cF L) := good_of h.ok h.kept h.dead h.st h.bat
theorem InvA.l1 (h : InvA P S L nw ls i) : 1 ≤ L.length := by have := h.ll; have := h.rl.ok.m1; omega
/-- So many pages were read. -/
theorem InvA.read (h : InvA P S L nw ls i) (hs : PgSN P Q (cF L) k) (hk : P.reads + k ≤ 400 * i + 10) : InvA Q S L nw ls i := by
  have hc : cont Q (cF L) = cont P (cF L) := by funext no; unfold cont; rw [hs.ch]
  exact ⟨h.st, hs.ok, hs.kept, hs.dead.trans h.dead, by rw [hs.last]; exact h.l0, by rw [hs.last]; exact h.ll, by rw [hs.now, hs.ch]; exact h.bat, by rw [hs.now, hc]; exact h.rn, by rw [hs.last]; exact h.rl, by rw [hs.now]; exact h.bm, by rw [hs.last]; exact h.bl, by rw [hs.ch]; exact h.bc, by have := hs.reads; omega, h.bs⟩
theorem InvA.more (h : InvA P S L nw ls i) {j : Nat} (hj : i ≤ j) : InvA P S L nw ls j :=
  ⟨h.st, h.ok, h.kept, h.dead, h.l0, h.ll, h.bat, h.rn, h.rl, by have := h.bm; omega, by have := h.bl; omega, by have := h.bc; omega, by have := h.br; omega, by have := h.bs; omega⟩
/-- A page is put. -/
theorem InvA.put (h : InvA P S L nw ls i) {no : Nat} {b : List UInt8} {now : HdP} (hk1 : 1 ≤ no) (hk2 : no < now.many) (hb : b.length = 508) (hm : now.many = P.now.many ∨ (now.many = P.now.many + 1 ∧ no = P.now.many)) (hm2 : now.many ≤ 65536) (hr8 : now.roots.length = 8)
    (hrel : RelC now (cont { P with now := now, ch := putK no b P.ch } (cF L)) nw2) : InvA { P with now := now, ch := putK no b P.ch } S L nw2 ls (i + 1) := by
  have hbm := h.bm
  have hge := h.bat.ge
  refine ⟨h.st, h.ok.put hk1 (by omega) hb now, h.kept, h.dead, h.l0, h.ll, ⟨hr8, by have := h.bat.m1; show 1 ≤ now.many; omega, hm2, sorted_putK _ _ _ h.ok.srt, fun q hq => ?_, by show L.length ≤ now.many; omega, fun k k1 k2 k3 => ?_⟩, hrel, h.rl, by show now.many ≤ _; omega, by have := h.bl; show P.last.many ≤ _; omega, ?_, by have := h.br; show P.reads ≤ _; omega, by have := h.bs; omega⟩
  · rcases mem_putK hq with rfl | hq
    · exact ⟨hk1, hk2, hb⟩
    · have := h.bat.chb q hq
      exact ⟨this.1, by have := this.2.1; show q.1 < now.many; omega, this.2.2⟩
  · show ((putK no b P.ch).lookup k).isSome = true
    rw [lookup_putK _ _ _ _ h.ok.srt]
    by_cases e : k = no
    · rw [if_pos e]; rfl
    · rw [if_neg e]
      have k2 : k < now.many := k2
      exact h.bat.cl k k1 (by omega) k3
  · have h1 := len_putK no b P.ch
    have h2 := h.bc
    show (putK no b P.ch).length ≤ _
    omega
theorem InvA.alloc0 (h : InvA P S L nw ls i) (hf : nw.free = []) (hi : i ≤ 1000) : P.now.free = 0 ∧ P.now.many < 65536 ∧ (allocS nw).1 = P.now.many ∧ InvA { P with now := { P.now with many := P.now.many + 1 }, ch := putK P.now.many (List.replicate 508 0) P.ch } S L (allocS nw).2 ls (i + 1) := by
  have hm := h.bm
  obtain ⟨a1, a2⟩ := h.rn.alloc0 hf (by omega) (c' := cont { P with now := { P.now with many := P.now.many + 1 }, ch := putK P.now.many (List.replicate 508 0) P.ch } (cF L)) (fun k => cont_put h.ok.srt _ _ _ _)
  exact ⟨h.rn.nochain.2 hf, by omega, a1, h.put (by have := h.bat.m1; omega) (Nat.lt_succ_self _) List.length_replicate (.inr ⟨rfl, rfl⟩) (by show P.now.many + 1 ≤ _; omega) h.bat.r8 a2⟩
theorem InvA.alloc1 (h : InvA P S L nw ls i) {x : Nat} {r : List Nat} (hf : nw.free = x :: r) (hi : i ≤ 1000) : P.now.free = x ∧ 1 ≤ x ∧ x < P.now.many ∧ ∃ n, contB P x (cF L x) = frB n ∧ n ≤ 65536 ∧ (allocS nw).1 = x ∧
    InvA { pgR P x (cF L x) with now := { (pgR P x (cF L x)).now with free := n }, ch := putK x (List.replicate 508 0) (pgR P x (cF L x)).ch } S L (allocS nw).2 ls (i + 1) := by
  obtain ⟨a1, a2, a3, n, a4, a5, a6⟩ := h.rn.alloc1 hf
  have hbm := h.bm
  have hs := (PgSN.refl h.ok h.kept).step (no := x) (by omega)
  have hQ : InvA (pgR P x (cF L x)) S L nw ls (i + 1) → True := fun _ => trivial
  have hc0 : contB P x (cF L x) = cont P (cF L) x := contN_of h.kept a2
  have hcQ : cont (pgR P x (cF L x)) (cF L) = cont P (cF L) := by funext no; unfold cont; rw [hs.ch]
  refine ⟨a1, a2, a3, n, hc0.trans a4, a5, ?_⟩
  have hsok : (pgR P x (cF L x)).ch.Pairwise fun p q => p.1 < q.1 := by rw [hs.ch]; exact h.ok.srt
  obtain ⟨b1, b2⟩ := a6 (cont { pgR P x (cF L x) with now := { (pgR P x (cF L x)).now with free := n }, ch := putK x (List.replicate 508 0) (pgR P x (cF L x)).ch } (cF L)) (fun k => by rw [cont_put hsok, hcQ]; rfl)
  refine ⟨b1, ?_⟩
  -- the reads: one more
  have hP : InvA { pgR P x (cF L x) with reads := P.reads } S L nw ls i := by
    refine ⟨h.st, ⟨hs.ok.srt, hs.ok.chb, hs.ok.nd, hs.ok.rl, hs.ok.rk⟩, hs.kept, hs.dead.trans h.dead, ?_, ?_, ?_, ?_, ?_, ?_, ?_, ?_, h.br, h.bs⟩
    · show L[0]? = some (padB (hdB (pgR P x (cF L x)).last)); rw [hs.last]; exact h.l0
    · show L.length = (pgR P x (cF L x)).last.many; rw [hs.last]; exact h.ll
    · show BatOk L (pgR P x (cF L x)).now (pgR P x (cF L x)).ch; rw [hs.now, hs.ch]; exact h.bat
    · show RelC (pgR P x (cF L x)).now (cont (pgR P x (cF L x)) (cF L)) nw; rw [hs.now, hcQ]; exact h.rn
    · show RelC (pgR P x (cF L x)).last (cF L) ls; rw [hs.last]; exact h.rl
    · show (pgR P x (cF L x)).now.many ≤ _; rw [hs.now]; exact h.bm
    · show (pgR P x (cF L x)).last.many ≤ _; rw [hs.last]; exact h.bl
    · show (pgR P x (cF L x)).ch.length ≤ _; rw [hs.ch]; exact h.bc
  have hR := hP.put (no := x) (b := List.replicate 508 0) (now := { (pgR P x (cF L x)).now with free := n }) (nw2 := (allocS nw).2) a2 (by show x < (pgR P x (cF L x)).now.many; rw [hs.now]; exact a3) List.length_replicate (.inl rfl) (by show (pgR P x (cF L x)).now.many ≤ _; rw [hs.now]; omega) (by show (pgR P x (cF L x)).now.roots.length = 8; rw [hs.now]; exact h.bat.r8) (by
    have e : (pgR P x (cF L x)).now = P.now := hs.now
    have b2 : RelC { P.now with free := n } _ (allocS nw).2 := b2
    show RelC { (pgR P x (cF L x)).now with free := n } _ (allocS nw).2
    rw [e]
    rw [e] at b2
    exact b2)
  exact ⟨hR.st, ⟨hR.ok.srt, hR.ok.chb, hR.ok.nd, hR.ok.rl, hR.ok.rk⟩, (fun k hk h0 => hR.kept k hk h0), hR.dead, hR.l0, hR.ll, hR.bat, hR.rn, hR.rl, hR.bm, hR.bl, hR.bc, by have h1 := hs.reads; have h2 := h.br; show (pgR P x (cF L x)).reads ≤ _; omega, hR.bs⟩
theorem InvA.drop (h : InvA P S L nw ls i) {no : Nat} (h1 : 1 ≤ no) (h2 : no < P.now.many) (h3 : no ∉ nw.free) (hi : i ≤ 1000) : InvA { P with now := { P.now with free := no }, ch := putK no (frB P.now.free) P.ch } S L (dropS nw no) ls (i + 1) := by
  have hm := h.bm
  exact h.put h1 h2 (frB_len _) (.inl rfl) (by show P.now.many ≤ _; omega) h.bat.r8 (h.rn.drop h1 h2 h3 (fun k => cont_put h.ok.srt _ _ _ _))
theorem InvA.write (h : InvA P S L nw ls i) {no : Nat} {b : List UInt8} (h1 : 1 ≤ no) (h2 : no < P.now.many) (h3 : no ∉ nw.free) (hb : b.length ≤ 508) (hi : i ≤ 1000) : InvA { P with ch := putK no (padB b) P.ch } S L (writeS nw no b) ls (i + 1) := by
  have hm := h.bm
  exact h.put h1 h2 (padB_len _ hb) (.inl rfl) (by omega) h.bat.r8 (h.rn.write h1 h2 h3 (fun k => cont_put h.ok.srt _ _ _ _))
theorem InvA.root (h : InvA P S L nw ls i) {k no : Nat} (h2 : no < P.now.many) : InvA { P with now := { P.now with roots := P.now.roots.set k no } } S L (rootS nw k no) ls (i + 1) := by
  have hc : cont { P with now := { P.now with roots := P.now.roots.set k no } } (cF L) = cont P (cF L) := rfl
  refine ⟨h.st, ⟨h.ok.srt, h.ok.chb, h.ok.nd, h.ok.rl, h.ok.rk⟩, h.kept, h.dead, h.l0, h.ll, ⟨by show (P.now.roots.set k no).length = 8; rw [List.length_set]; exact h.bat.r8, h.bat.m1, h.bat.m2, h.bat.srt, h.bat.chb, h.bat.ge, h.bat.cl⟩, ?_, h.rl, by have := h.bm; show P.now.many ≤ _; omega, by have := h.bl; show P.last.many ≤ _; omega, by have := h.bc; show P.ch.length ≤ _; omega, by have := h.br; show P.reads ≤ _; omega, by have := h.bs; omega⟩
  rw [hc]
  exact h.rn.root h2
theorem cF_next {h : HdP} {ch : List (Nat × List UInt8)} {k : Nat} (hk1 : k ≠ 0) (hk : k < h.many) : cF (nextL L h ch) k = (ch.lookup k).getD (cF L k) := by
  unfold cF
  rw [nextL_at L h ch hk, if_neg hk1]
  rfl
/-- A commit that is done. -/
theorem InvA.commit (h : InvA P S L nw ls i) (hS : St S2 xN (nextL L P.now P.ch) 65536) (hs : S2.stamp ≤ S.stamp + (P.ch.length + 2) * 6) (hi : i ≤ 177) : InvA (comD P) S2 (nextL L P.now P.ch) nw nw (i + 1) := by
  have hb := h.bat
  have hl := nextL_len L P.now P.ch
  have hcc : ∀ k, 1 ≤ k → k < P.now.many → cont P (cF L) k = cF (nextL L P.now P.ch) k := fun k k1 k2 => (cF_next (by omega) k2).symm
  have hrl : RelC P.now (cF (nextL L P.now P.ch)) nw := h.rn.congr (fun k k1 k2 => (hcc k k1 k2).symm)
  have hcont : cont (comD P) (cF (nextL L P.now P.ch)) = cF (nextL L P.now P.ch) := by funext no; rfl
  refine ⟨hS, ⟨List.Pairwise.nil, (fun q hq => by cases hq), h.ok.nd.filter _, Nat.le_trans (List.length_filter_le _ _) h.ok.rl, fun k hk => h.ok.rk k (List.mem_filter.1 hk).1⟩, fun k hk h0 => ?_, h.dead, ?_, hl, ⟨hb.r8, hb.m1, hb.m2, List.Pairwise.nil, (fun q hq => by cases hq), by rw [hl]; exact Nat.le_refl _, fun k k1 k2 _ => by rw [hl] at k1; have k2 : k < P.now.many := k2; omega⟩, ?_, hrl, by have := h.bm; show P.now.many ≤ _; omega, by have := h.bm; show P.now.many ≤ _; omega, by show 0 ≤ _; omega, by have := h.br; show P.reads ≤ _; omega, ?_⟩
  · obtain ⟨m1, m2⟩ := List.mem_filter.1 hk
    have hnone : P.ch.lookup k = none := by simpa using m2
    show P.cv k = _
    rw [h.kept k m1 h0]
    rcases Nat.lt_or_ge k P.now.many with hlt | hge
    · rw [cF_next h0 hlt, hnone]; rfl
    · unfold cF
      rw [List.getElem?_eq_none (by have := hb.ge; omega), List.getElem?_eq_none (by rw [hl]; exact hge)]
  · show (nextL L P.now P.ch)[0]? = some (padB (hdB P.now))
    rw [nextL_at L P.now P.ch (by have := hb.m1; omega), if_pos rfl]
  · rw [hcont]; exact hrl
  · have := h.bs; have := h.bc; omega
theorem hdL_inj {a b : HdP} (ha : a.roots.length = 8) (hb : b.roots.length = 8) (h : hdL a = hdL b) : a = b := by
  unfold hdL at h
  have g := fun (j : Nat) => congrArg (fun l => l[j]?) h
  have e0 := g 0
  have e1 := g 1
  simp at e0 e1
  have hr : a.roots = b.roots := by
    apply List.ext_getElem?
    intro j
    rcases Nat.lt_or_ge j 8 with hj | hj
    · have hx : rtH a j = rtH b j := by
        have e2 := g 2; have e3 := g 3; have e4 := g 4; have e5 := g 5; have e6 := g 6; have e7 := g 7; have e8 := g 8; have e9 := g 9
        simp at e2 e3 e4 e5 e6 e7 e8 e9
        match j, hj with
        | 0, _ => exact e2
        | 1, _ => exact e3
        | 2, _ => exact e4
        | 3, _ => exact e5
        | 4, _ => exact e6
        | 5, _ => exact e7
        | 6, _ => exact e8
        | 7, _ => exact e9
      unfold rtH at hx
      rw [List.getElem?_eq_getElem (by omega), List.getElem?_eq_getElem (by omega)] at hx ⊢
      simp only [Option.getD_some] at hx
      have hx2 : a.roots[j] = b.roots[j] := by omega
      rw [hx2]
    · rw [List.getElem?_eq_none (by omega), List.getElem?_eq_none (by omega)]
  have f0 : a.many = b.many := by omega
  have f1 : a.free = b.free := by omega
  obtain ⟨am, af, ar⟩ := a
  obtain ⟨bm, bf, br⟩ := b
  have f0 : am = bm := f0
  have f1 : af = bf := f1
  have hr : ar = br := hr
  rw [f0, f1, hr]
/-- A commit of nothing. -/
theorem InvA.same (h : InvA P S L nw ls i) (hc : P.ch = []) (hh : hdL P.now = hdL P.last) : InvA P S L nw nw (i + 1) := by
  have e : P.now = P.last := hdL_inj h.bat.r8 h.rl.ok.rl hh
  have hcont : cont P (cF L) = cF L := by funext no; unfold cont; rw [hc]; rfl
  have h2 := h.more (Nat.le_succ i)
  have hr := h.rn
  rw [e, hcont] at hr
  exact ⟨h2.st, h2.ok, h2.kept, h2.dead, h2.l0, h2.ll, h2.bat, h2.rn, hr, h2.bm, h2.bl, h2.bc, h2.br, h2.bs⟩
theorem bat_last (h : InvA P S L nw ls i) : BatOk L P.last [] := ⟨h.rl.ok.rl, h.rl.ok.m1, h.rl.ok.m2, List.Pairwise.nil, (fun q hq => by cases hq), by rw [h.ll]; exact Nat.le_refl _, fun k k1 k2 _ => by rw [h.ll] at k1; have k2 : k < P.last.many := k2; omega⟩
/-- The changes are given up. -/
theorem InvA.give (h : InvA P S L nw ls i) : InvA (giveP P) S L ls ls (i + 1) := by
  refine ⟨h.st, ⟨List.Pairwise.nil, (fun q hq => by cases hq), h.ok.nd, h.ok.rl, h.ok.rk⟩, h.kept, h.dead, h.l0, h.ll, bat_last h, h.rl, h.rl, by have := h.bl; show P.last.many ≤ _; omega, by have := h.bl; show P.last.many ≤ _; omega, by show 0 ≤ _; omega, by have := h.br; show P.reads ≤ _; omega, by have := h.bs; omega⟩
/-- It is opened anew. -/
theorem inv_open {h : HdP} (hS : St S xN L 65536) (hL : L[0]? = some (padB (hdB h))) (hl : L.length = h.many) (hr : RelC h (cF L) ls) (hb : h.many ≤ i + 1) (hs : S.stamp ≤ 4600 * i + 40000) : InvA (pgO h) S L ls ls i := by
  refine ⟨hS, pgO_ok h, fun k hk h0 => ?_, rfl, hL, hl, ⟨hr.ok.rl, hr.ok.m1, hr.ok.m2, List.Pairwise.nil, (fun q hq => by cases hq), by rw [hl]; exact Nat.le_refl _, fun k k1 k2 _ => by rw [hl] at k1; have k2 : k < h.many := k2; omega⟩, hr, hr, hb, hb, Nat.zero_le _, by show 1 ≤ _; omega, hs⟩
  have hk : k ∈ [0] := hk
  exact absurd (by simpa using hk) h0
/-- A fuse is set. -/
theorem St.fuse {M : Nat} {nm : List UInt8} (h : St S nm L M) (n : Int) (hn : n ≤ 9223372036854775807) : St (fuseP S n) nm L M :=
  ⟨h.up, ⟨h.wf.most1, h.wf.most2, by show -1 ≤ max n (-1); omega, by show max n (-1) ≤ _; omega, h.wf.files, h.wf.order, h.wf.room, h.wf.names⟩, h.most, h.db, h.lg, h.use, h.l5⟩
theorem InvA.fuse (h : InvA P S L nw ls i) (n : Int) (hn : n ≤ 9223372036854775807) : InvA P (fuseP S n) L nw ls i :=
  ⟨h.st.fuse n hn, h.ok, h.kept, h.dead, h.l0, h.ll, h.bat, h.rn, h.rl, h.bm, h.bl, h.bc, h.br, h.bs⟩
/-- What is asked for is always there. -/
theorem InvA.room (h : InvA P S L nw ls i) (hi : i ≤ 177) : needC (P.ch.length + 1) P.now.many (512 * L.length) ≤ 65536 - 8 * L.length := by
  have h1 := h.bm; have h2 := h.bl; have h3 := h.bc; have h4 := h.ll
  unfold needC needN
  omega
theorem InvA.samep (h : InvA P S L nw ls i) : SameP P (cF L) nw.free nw := ⟨rfl, h.rn.many.symm, h.rn.roots.symm, h.rn.pages⟩
end
end Go.Proofs.YtoadamkmabkldaaGreatDoor
/- The contract of wal.Get: the pieces it gives lie in new blocks. -/
namespace Go.Proofs.YtoadamkmabkldaaGreatDoor
open Go.RowKit
attribute [local go_sem ↓] Go.wp_at_zero Go.wp_at_succ
/-- What Get returns. -/
def WGetN (l : List UInt8) (e : Ending) (B : Nat) (w' : World) : Prop :=
  ((WE l).1 ≠ 0 ∧ e = .returned (.tuple #[.slice none 0 0, .int .i64 ((WE l).1 : Int)])) ∨
  ((WE l).1 = 0 ∧ ∃ A n c, e = .returned (.tuple #[.slice A n c, .int .i64 0]) ∧ n ≤ c ∧ PO w' B (.slice A n c) (WE l).2)
theorem WGetN.err {l : List UInt8} {k B : Nat} {w' : World} (h : WE l = (k, [])) (hk : k ≠ 0) : WGetN l (.returned (.tuple #[.slice none 0 0, .int .i64 (k : Int)])) B w' :=
  .inl ⟨by rw [h]; exact hk, by rw [h]⟩
theorem wgetn_any (A : Option Addr) (n c : Nat) (l : List UInt8) (w : World) (hr : Rd w w.heap.size 1 A n (bys l)) (hnc : n ≤ c) (hn : n ≤ 1000000000) :
    Calls Tryz.prog 59 #[.slice A n c] w fun e w' => WGetN l e w.heap.size w' ∧ Below w.heap.size w w' := by
  have hl := hr.blen
  by_cases h4 : l.length < 4
  · have hw := WE_short h4
    have Hw := Lib.hid hw
    have hn4 : n < 4 := by omega
    clear hw h4 hl
    go_enter Tryz.func59, Tryz.ntmps59
    go_wp2_with fail
    refine (cut_end A n c 0 4 w (by omega) (by omega) (by omega) (.inr ⟨by omega, by omega⟩)).mono ?_
    rintro e w1 ⟨rfl, rfl⟩
    go_wp2
    go_ret2
    exact ⟨WGetN.err Hw.out (by decide), Below.refl _ _⟩
  have H4 := Lib.hid h4
  have Hl := Lib.hid hl
  have hn4 : 4 ≤ n := by omega
  have hcut := cut_ok A n c 0 4 l w hr hnc (by omega) (by omega)
  rw [List.drop_zero] at hcut
  have hC : ∀ (w1 : World) (v1 : Value), w1.ownsRow w.heap.size 5 1 v1 4 (bys (l.take 4)) → ∃ A1 c1, v1 = .slice A1 4 c1 ∧ (convert 22 9 (.slice A1 4 c1)).run Tryz.prog w1 = .ok (.string ⟨(l.take 4).toArray⟩) w1 := by
    intro w1 v1 h1
    obtain ⟨A1, c1, rfl, _, _⟩ := own_form h1
    exact ⟨A1, c1, rfl, conv_bys (Rd.of_own h1)⟩
  have HC := Lib.hid hC
  have Hcut := Lib.hid hcut
  clear hC hcut h4 hl
  by_cases hm : l.take 4 = wmark
  · have hmb : (l.take 4 == [105, 113, 106, 49]) = true := by rw [hm]; decide
    have Hm := Lib.hid hm
    clear hm
    go_enter Tryz.func59, Tryz.ntmps59
    go_wp2_with fail
    refine Hcut.out.mono ?_
    rintro e w1 ⟨v1, rfl, hown1, hb1⟩
    obtain ⟨A1, c1, rfl, hq⟩ := HC.out w1 v1 hown1
    clear hown1 HC Hcut
    go_wp2_with fail
    clear hq hmb
    by_cases h8 : n < 8
    · have hw := WE_8 H4.out Hm.out (by rw [Hl.out]; exact h8)
      have Hw := Lib.hid hw
      clear hw
      refine (get_end A n c 4 4 w1 (by omega) (by omega) (by have : wid 4 = 4 := rfl; omega)).mono ?_
      rintro e w2 ⟨rfl, rfl⟩
      go_wp2
      go_ret2
      exact ⟨WGetN.err Hw.out (by decide), hb1⟩
    · have hg := get_ok A n c 4 4 l w1 ((hr.below hb1 (Nat.le_refl _)).more hb1.size) hnc (by have : wid 4 = 4 := rfl; omega) (by omega)
      have w4 : (wid 4).toNat = 4 := rfl
      rw [w4] at hg
      have hnb := num4_bd l 4
      have hnum : leN ((l.drop 4).take 4) = num4 l 4 := rfl
      rw [hnum] at hg
      have H8 : Hid (¬ l.length < 8) := Lib.hid (by rw [Hl.out]; exact h8)
      obtain ⟨K, hK⟩ : ∃ K : Nat, num4 l 4 = K := ⟨(num4 l 4).toNat, by omega⟩
      have hKt : (num4 l 4).toNat = K := by omega
      have HK := Lib.hid hK
      have HKt := Lib.hid hKt
      rw [hK] at hg
      clear w4 hnum hnb hK hKt
      refine hg.mono ?_
      rintro e w2 ⟨rfl, hb2⟩
      have hbe2 := hb1.trans (hb2.mono hb1.size)
      clear hg hb1 hb2
      by_cases hmany : 4096 < K
      · have hw := WE_many H4.out Hm.out H8.out (by rw [HK.out]; omega)
        have Hw := Lib.hid hw
        clear hw
        go_wp2
        go_ret2
        exact ⟨WGetN.err Hw.out (by decide), hbe2⟩
      · have hsz : wsz (K : Int) = 12 + 516 * (K : Int) := by unfold wsz; rw [if_neg (by omega)]
        have Hsz := Lib.hid hsz
        clear hsz
        go_wp2_with fail
        refine (wsize_any K w2).mono ?_
        rintro e w3 ⟨rfl, rfl⟩
        rw [Hsz.out]
        by_cases hsh : n < 12 + 516 * K
        · have hw := WE_size H4.out Hm.out H8.out (by rw [HK.out]; omega) (by rw [HKt.out, Hl.out]; exact hsh)
          have Hw := Lib.hid hw
          have hsh2 : (n : Int) < 12 + 516 * (K : Int) := by omega
          clear hw hsh
          go_wp2
          go_ret2
          exact ⟨WGetN.err Hw.out (by decide), hbe2⟩
        · have hsh2 : ¬ (n : Int) < 12 + 516 * (K : Int) := by omega
          go_wp2_with fail
          refine (wsize_any K w2).mono ?_
          rintro e w3 ⟨rfl, rfl⟩
          rw [Hsz.out]
          go_wp2_with fail
          obtain ⟨E, hE⟩ : ∃ E : Nat, 8 + 516 * K = E := ⟨_, rfl⟩
          have hEn : E + 4 ≤ n := by omega
          rw [show (12 : Int) + 516 * (K : Int) - 4 = (E : Int) by omega]
          have HE := Lib.hid hE
          have hrW := fun (W : World) (hb : Below w.heap.size w W) => (hr.below hb (Nat.le_refl _)).more hb.size
          have HrW := Lib.hid hrW
          have hcutE : Rd w w.heap.size 1 A E (bys (l.take E)) := by
            have := hr.bcut (k := 0) (m := E) (by omega) (A' := A) (fun _ => by
              obtain ⟨b, o, rfl, _⟩ := hr.2 (by omega)
              simp [addLit])
            rwa [List.drop_zero] at this
          have hEl : (l.take E).length = E := by rw [List.length_take, Hl.out]; omega
          have hg2 := get_ok A n c E 4 l w2 (hrW w2 hbe2) hnc (by have : wid 4 = 4 := rfl; omega) (by omega)
          have w4 : (wid 4).toNat = 4 := rfl
          have hnum : leN ((l.drop E).take 4) = num4 l E := rfl
          rw [w4, hnum] at hg2
          have hEl2 := Lib.hid hEl
          clear w4 hnum hE hrW hEl
          refine hg2.mono ?_
          rintro e w3 ⟨rfl, hb3⟩
          have hbe3 := hbe2.trans (hb3.mono hbe2.size)
          have hcr := crcof_any _ 1 1 [l.take E] _ ((RdRows.one w3 22 (RdB.mk ((hcutE.below hbe3 (Nat.le_refl _)).more hbe3.size) (show E ≤ c by omega)) (Nat.le_refl _)).more (B' := (w3.alloc (.cells #[.slice A E c] 22)).heap.size) (by simp)) (by omega) (by simp [hEl2.out]; omega)
          have hfl : [l.take E].flatten = l.take E := by simp
          rw [hfl] at hcr
          clear hg2 hb3 hbe2 hfl
          go_wp2_with fail
          refine hcr.mono ?_
          rintro e w5 ⟨rfl, hb5⟩
          have hbe5 : Below w.heap.size w w5 := (hbe3.alloc hbe3.size _).trans (hb5.mono (by have := hbe3.size; rw [asz1]; omega))
          have hnE := num4_bd l E
          have hCE := (crcOf (l.take E)).isLt
          clear hcr hb5 hbe3
          by_cases hsum : num4 l E = ((crcOf (l.take E)).toNat : Int)
          · have hsb : (num4 l E != ((crcOf (l.take E)).toNat : Int)) = false := by rw [bne_eq_false_iff_eq]; exact hsum
            have Hsum := Lib.hid hsum
            clear hsum
            generalize num4 l E = y1 at hsb hnE ⊢
            generalize (crcOf (l.take E)).toNat = y2 at hsb hCE ⊢
            go_wp2_with fail
            go_loopw [10, 11] (fun out at_ wr => ∃ j : Nat, j ≤ K ∧ at_ = .int .i64 ((8 + 516 * j : Nat) : Int) ∧ PO wr w.heap.size out (pieces l j) ∧ Below w.heap.size w wr) (fun _ at_ _ => E - (intOf at_).toNat)
            case atStart => exact ⟨0, Nat.zero_le _, rfl, PO.nil_ _ _, hbe5⟩
            case round =>
              obtain ⟨j, hj, rfl, hpo, hbw⟩ := hrel
              clear hbe5
              by_cases hlt : j < K
              · obtain ⟨a, ha⟩ : ∃ a : Nat, 8 + 516 * j = a := ⟨_, rfl⟩
                rw [ha]
                have haE : a + 516 ≤ E := by have := HE.out; omega
                have haE2 : (a : Int) < (E : Int) := by omega
                have hg := get_ok A n c a 4 l wr (HrW.out wr hbw) hnc (by have : wid 4 = 4 := rfl; omega) (by omega)
                have w4 : (wid 4).toNat = 4 := rfl
                have hnum : leN ((l.drop a).take 4) = num4 l a := rfl
                rw [w4, hnum] at hg
                have hpc : piece l j = ([num4 l a], (l.drop (a + 4)).take 512) := by unfold piece; rw [ha]
                have hps := pieces_succ l j
                rw [hpc] at hps
                have hlen : ((l.drop (a + 4)).take 512).length = 512 := by rw [List.length_take, List.length_drop, Hl.out]; omega
                have hnb := num4_bd l a
                have Hps := Lib.hid hps
                have Hlen := Lib.hid hlen
                have Ha := Lib.hid ha
                clear w4 hnum hpc hps hlen ha
                generalize num4 l a = x at *
                go_wp2_with fail
                refine hg.mono ?_
                rintro e w6 ⟨rfl, hb6⟩
                have hbe6 := hbw.trans (hb6.mono hbw.size)
                have hpo6 := hpo.below hb6
                have hcut := cut_ok A n c (a + 4) 512 l w6 (HrW.out w6 hbe6) hnc (by omega) (by omega)
                rw [show ((a + 4 : Nat) : Int) = (a : Int) + 4 by omega] at hcut
                clear hg hb6 hbw hpo
                generalize (l.drop (a + 4)).take 512 = M at *
                go_wp2_with fail
                refine hcut.mono ?_
                rintro e w7 ⟨v7, rfl, hown7, hb7⟩
                obtain ⟨A7, c7, rfl, _, _⟩ := own_form hown7
                have hbe7 := hbe6.trans (hb7.mono hbe6.size)
                have hpo7 := hpo6.below hb7
                have hfar : ∀ v k, PO w6 w.heap.size v (pieces l j) → v.ownBlock = some k → (Value.slice A7 512 c7).ownBlock ≠ some k := by
                  intro v k hp hk he
                  obtain ⟨vs, _, h2, _⟩ := hp
                  have h3 := (h2.lt k hk).2
                  have h4 := (hown7.lt k he).1
                  omega
                have hfar2 := fun k => hfar _ k hpo6
                have hown7' := own_base hown7 hbe6.size
                obtain ⟨vs, hv1, hv2, hv3⟩ := hpo7
                have Hfar := Lib.hid hfar2
                have Hv3 := Lib.hid hv3
                have Hown7 := Lib.hid hown7'
                have Hv1 := Lib.hid hv1
                rw [pieces_len] at hv2
                clear hcut hown7 hb7 hbe6 hpo6 hfar hfar2 hv3 hown7' hv1
                go_wp2_with (
                  at_builtin
                  refine ap_wr (hv2.alloc _) (Rd.pair w7 _ (.int .i64 x) (.slice A7 512 c7)) (hbe7.alloc hbe7.size _) (by have := hbe7.size; rw [asz1]; omega) (by omega) rfl rfl rfl ?_
                  intro v8 w8 hown8 hb8 hg8 hv8)
                have hpo8 : PO w8 w.heap.size v8 (pieces l (j + 1)) := by
                  rw [Hps.out]
                  exact PO.app (w := w7.alloc _) vs Hv1.out (fun i vi p hvi hp => ⟨((Hv3.out i vi p hvi hp).1).alloc _, (Hv3.out i vi p hvi hp).2⟩) x M _ ⟨by omega, by omega⟩ (by rw [Hlen.out]; exact Hown7.out.alloc _) Hfar.out (by rw [pieces_len]; exact hown8) hg8 hv8
                go_roundw
                case rel => exact ⟨j + 1, by omega, congrArg (Value.int .i64) (by have := Ha.out; omega), hpo8, hb8⟩
                case measure => simp [intOf]; omega
              · have : j = K := by omega
                subst this
                have hEE : ¬ ((8 + 516 * j : Nat) : Int) < (E : Int) := by have := HE.out; omega
                obtain ⟨vs, hvs⟩ := hpo.own
                rw [pieces_len] at hvs
                obtain ⟨Ao, co, rfl, hco, _⟩ := own_form hvs
                have hrd := hpo.rd (pieces_len l j)
                have HPO := Lib.hid hpo
                have hri := rising_any Ao j co (pieces l j) wr hrd (by omega)
                have Hrd := Lib.hid hrd
                clear hrd hvs hpo
                obtain ⟨a, ha⟩ : ∃ a : Nat, 8 + 516 * j = a := ⟨_, rfl⟩
                rw [ha] at hEE ⊢
                clear ha
                cases hb : risB (-1) (nosOf (pieces l j)) with
                | false =>
                  have hw := WE_ris H4.out Hm.out H8.out (by rw [HK.out]; omega) (by rw [HKt.out, Hl.out]; omega) (by rw [HKt.out, HE.out]; exact Hsum.out) (by rw [HKt.out]; exact hb)
                  rw [hb] at hri
                  have Hw := Lib.hid hw
                  clear hw hb
                  go_wp2_with fail
                  refine hri.mono ?_
                  rintro e w6 ⟨rfl, hb6⟩
                  go_wp2
                  go_ret2
                  exact ⟨WGetN.err Hw.out (by decide), hbw.trans (hb6.mono hbw.size)⟩
                | true =>
                  have hw := WE_ok H4.out Hm.out H8.out (by rw [HK.out]; omega) (by rw [HKt.out, Hl.out]; omega) (by rw [HKt.out, HE.out]; exact Hsum.out) (by rw [HKt.out]; exact hb)
                  rw [HKt.out] at hw
                  rw [hb] at hri
                  have Hw := Lib.hid hw
                  clear hw hb
                  go_wp2_with fail
                  refine hri.mono ?_
                  rintro e w6 ⟨rfl, hb6⟩
                  go_wp2
                  go_ret2
                  refine ⟨.inr ⟨by rw [Hw.out], Ao, j, co, rfl, hco, ?_⟩, hbw.trans (hb6.mono hbw.size)⟩
                  rw [Hw.out]
                  exact HPO.out.below hb6
          · have hsb : (num4 l E != ((crcOf (l.take E)).toNat : Int)) = true := by rw [bne_iff_ne]; exact hsum
            have hw := WE_sum H4.out Hm.out H8.out (by rw [HK.out]; omega) (by rw [HKt.out, Hl.out]; omega) (by rw [HKt.out, HE.out]; exact hsum)
            have Hw := Lib.hid hw
            clear hw hsum
            generalize num4 l E = y1 at *
            generalize (crcOf (l.take E)).toNat = y2 at *
            go_wp2
            go_ret2
            exact ⟨WGetN.err Hw.out (by decide), hbe5⟩
  · have hmb : (l.take 4 == [105, 113, 106, 49]) = false := by rw [beq_eq_false_iff_ne]; exact hm
    have hw := WE_mark H4.out hm
    have Hw := Lib.hid hw
    clear hm hw
    go_enter Tryz.func59, Tryz.ntmps59
    go_wp2_with fail
    refine Hcut.out.mono ?_
    rintro e w1 ⟨v1, rfl, hown1, hb1⟩
    obtain ⟨A1, c1, rfl, hq⟩ := HC.out w1 v1 hown1
    clear hown1 HC Hcut
    go_wp2
    go_ret2
    exact ⟨WGetN.err Hw.out (by decide), hb1⟩
end Go.Proofs.YtoadamkmabkldaaGreatDoor
/- Contracts of package pager: again, where there is a journal. -/
namespace Go.Proofs.YtoadamkmabkldaaGreatDoor
open Go.RowKit Go.Shelf
attribute [local go_sem ↓] Go.wp_at_zero Go.wp_at_succ
/-- What a batch that was read is made of. -/
theorem we_parts {l : List UInt8} (h : (WE l).1 = 0) : (WE l).2.length ≤ 4096 ∧ ∀ p ∈ (WE l).2, ∃ z : Nat, p.1 = [(z : Int)] ∧ z < 16777216 ∧ p.2.length = 512 := by
  by_cases h1 : l.length < 4
  · rw [WE_short h1] at h; cases h
  by_cases h2 : l.take 4 = wmark
  · by_cases h3 : l.length < 8
    · rw [WE_8 h1 h2 h3] at h; cases h
    · by_cases h4 : 4096 < num4 l 4
      · rw [WE_many h1 h2 h3 h4] at h; cases h
      · by_cases h5 : l.length < 12 + 516 * (num4 l 4).toNat
        · rw [WE_size h1 h2 h3 h4 h5] at h; cases h
        · by_cases h6 : num4 l (8 + 516 * (num4 l 4).toNat) = ((crcOf (l.take (8 + 516 * (num4 l 4).toNat))).toNat : Int)
          · cases h7 : risB (-1) (nosOf (pieces l (num4 l 4).toNat)) with
            | false => rw [WE_ris h1 h2 h3 h4 h5 h6 h7] at h; cases h
            | true =>
              rw [WE_ok h1 h2 h3 h4 h5 h6 h7]
              dsimp only
              have hb := num4_bd l 4
              refine ⟨by rw [pieces_len]; omega, fun p hp => ?_⟩
              have hf := ris_fits _ _ h7
              unfold pieces at hp
              obtain ⟨i, hi, rfl⟩ := List.mem_map.1 hp
              have hi2 : i < (num4 l 4).toNat := by simpa using hi
              have hz := hf (num4 l (8 + 516 * i)) (by
                unfold nosOf pieces
                rw [List.map_map]
                exact List.mem_map.2 ⟨i, hi, rfl⟩)
              refine ⟨(num4 l (8 + 516 * i)).toNat, ?_, by omega, ?_⟩
              · unfold piece
                rw [Int.toNat_of_nonneg hz.1]
              · show ((l.drop (8 + 516 * i + 4)).take 512).length = 512
                rw [List.length_take, List.length_drop]; omega
          · rw [WE_sum h1 h2 h3 h4 h5 h6] at h; cases h
  · rw [WE_mark h1 h2] at h; cases h
theorem nos_len (ls : List (List Int × List UInt8)) : (nosP ls).length = ls.length := by simp [nosP]
theorem nos_mem {l : List UInt8} (h : (WE l).1 = 0) : ∀ q ∈ nosP (WE l).2, q.1 ≤ 16777216 ∧ q.2.length = 512 := by
  intro q hq
  unfold nosP at hq
  obtain ⟨p, hp, rfl⟩ := List.mem_map.1 hq
  obtain ⟨z, e, h1, h2⟩ := (we_parts h).2 p hp
  refine ⟨?_, h2⟩
  rw [e]
  show ((z : Int)).toNat ≤ _
  omega
/-- The pieces that Get gives, as lay takes them. -/
theorem PO.wr {w : World} {base n c : Nat} {A : Option Addr} {ls : List (List Int × List UInt8)} (h : PO w base (.slice A n c) ls) (hn : ls.length = n) (hp : ∀ p ∈ ls, ∃ z : Nat, p.1 = [(z : Int)] ∧ z < 16777216 ∧ p.2.length = 512) : RdWr w (fun i => base ≤ i) A n (nosP ls) := by
  obtain ⟨vs, h1, h2, h3⟩ := h
  refine ⟨by rw [nos_len]; exact hn, fun h0 => ?_⟩
  rw [hn] at h2
  obtain ⟨g, c', hv, hg, hlt, _⟩ := own_pos h2 h0
  injection hv with hA _ _
  subst hA
  refine ⟨g, 0, rfl, hg, hlt, fun i q hq => ?_⟩
  unfold nosP at hq
  rw [List.getElem?_map, Option.map_eq_some_iff] at hq
  obtain ⟨p, hpi, rfl⟩ := hq
  have hi : i < ls.length := (List.getElem?_eq_some_iff.1 hpi).1
  obtain ⟨z, e, hz, hl⟩ := hp p (List.mem_of_getElem? hpi)
  obtain ⟨u, hu⟩ : ∃ u, vs[i]? = some u := ⟨_, List.getElem?_eq_getElem (by omega)⟩
  obtain ⟨ho, _, _, _⟩ := h3 i u p hu hpi
  obtain ⟨g1, c1, rfl, hg1, hl1, hc1⟩ := own_pos ho (by omega)
  obtain ⟨_, _, hv1, _, hm1⟩ := own_form ho
  injection hv1 with _ _ hcc
  subst hcc
  obtain ⟨d1, d2⟩ := pcells_at ls vs h1 i p _ hpi hu
  have hc := fun j u (hj : (pcells ls vs)[j]? = some u) => h2.cells (g := g) rfl j u hj
  have f1 := hc _ _ d1
  have f2 := hc _ _ d2
  rw [addLit] at f1 f2
  refine ⟨by rw [e] at f1 ⊢; simpa using f1, g1, 0, p.2.length, c1, by simpa [Nat.zero_add] using f2, rfl, hc1, hm1, hg1, hl1, fun _ => ⟨0, rfl, fun j x hj => ?_⟩⟩
  have := ho.cells (g := g1) rfl j (.int .u8 (x.toNat : Int)) (by
    unfold bys
    rw [List.getElem?_map]
    dsimp only at hj
    rw [hj]; rfl)
  rw [addLit] at this
  rw [Nat.zero_add] at this ⊢
  exact this
/-- What the journal says is done. -/
def JOk (J : List UInt8) : Prop := (WE (J.take (J.length - 4))).1 = 0 ∧ 12 + 516 * (WE (J.take (J.length - 4))).2.length = J.length - 4 ∧ J.drop (J.length - 4) = doneD
theorem again_eq {S : FsP} {nm J : List UInt8} {N : Nat} (hl : lenP S (logN nm) = some N) (hN : 4 ≤ N) (hr : (readP S (logN nm) 0 (N : Int)).2 = J) (hJ : J.length = N) :
    (JOk J → againP nm S = if (layP nm (nosP (WE (J.take (J.length - 4))).2) S).1 = 0 then cutF (layP nm (nosP (WE (J.take (J.length - 4))).2) S).2 (logN nm) 0 else layP nm (nosP (WE (J.take (J.length - 4))).2) S) ∧ (¬ JOk J → againP nm S = cutF S (logN nm) 0) := by
  obtain ⟨m, rfl⟩ : ∃ m, N = m + 1 := ⟨N - 1, by omega⟩
  unfold againP JOk
  rw [hl]
  dsimp only
  rw [hr, hJ]
  exact ⟨fun h => if_pos h, fun h => if_neg h⟩
theorem read_len {S : FsP} {s : List UInt8} {N : Nat} (h : lenP S s = some N) : ∃ J, readP S s 0 (N : Int) = (0, J) ∧ J.length = N := by
  unfold lenP at h
  unfold readP
  cases hd : S.down with
  | true => rw [hd] at h; cases h
  | false =>
    rw [hd] at h
    simp only [Bool.false_eq_true, if_false] at h ⊢
    cases hf : findP S s with
    | none => rw [hf] at h; cases h
    | some x =>
      rw [hf] at h
      simp only [Option.map_some, Option.some.injEq] at h
      subst h
      refine ⟨x.B, ?_, rfl⟩
      dsimp only
      rw [if_neg (by omega), if_neg (by omega)]
      simp
end Go.Proofs.YtoadamkmabkldaaGreatDoor
