/- PagerActs: same in the memory between acts; what is opened anew. -/
import Derived.Test.YtoadamkmabkldaaGreatDoorJn39
import Derived.Test.YtoadamkmabkldaaGreatDoorJn13
set_option linter.unusedVariables false
set_option linter.unusedSimpArgs false
namespace Go.Proofs.YtoadamkmabkldaaGreatDoor
open Go.RowKit Go.Shelf
attribute [local go_sem ↓] Go.wp_at_zero Go.wp_at_succ
section
variable {w W W' : World} {bx : Nat → Option Obj} {f p s1 s2 s3 : Nat} {P P2 : PgP} {S S2 S4 : FsP} {nw nw2 ls en st : StP} {L L2 : List (List UInt8)} {i j : Nat}
theorem free_lt {h : HdP} {c : Nat → List UInt8} (hr : RelC h c st) : st.free.length < h.many := by
  have h1 := nodup_bnd h.many (0 :: st.free) (List.nodup_cons.2 ⟨fun e => by have := (hr.fb 0 e).1; omega, hr.nd⟩) (fun k hk => by
    rcases List.mem_cons.1 hk with rfl | hk
    · have := hr.ok.m1; omega
    · exact (hr.fb k hk).2)
  rw [List.length_cons] at h1
  omega
theorem ac_same (h : AcM w W bx f p s1 s2 P S nw ls) (hI : InvA P S L nw ls j) (hj : j ≤ 190) : Calls Tryz.prog 20 #[.pointer (some ⟨p, 0, none⟩), .pointer (some ⟨s1, 0, none⟩)] W fun e w' => e = .returned (.bool true) ∧ ∃ P2, AcM w w' bx f p s1 s2 P2 S nw ls ∧ InvA P2 S L nw ls (j + 1) := by
  obtain ⟨O1, O2, O3, K, h⟩ := h
  have hb1 := hI.bm
  have hb2 := hI.br
  have hm := hI.rn.many
  have hf := free_lt hI.rn
  refine (same_any17 f p s1 O1 O2 O3 K S P (cF L) nw.free nw W h.pw.pg h.pw.fs h.pw.ne (fun i hi => (h.pw.l1 i hi).2) hI.good (by omega) hI.rn.free hf (fun k hk => (hI.rn.fb k hk).2) hI.bat.r8 h.now (fun i hi => ⟨(h.dis i hi).2.1, (h.dis i hi).2.2.1⟩) (by have := hI.bat.m1; omega) (by omega) (by rw [hI.rn.roots]; exact hI.bat.r8) (by omega)).mono ?_
  rintro e w' ⟨r, k, rfl, hr, ⟨Oi, Q, a1, a2, a3, a4, a5⟩, hk⟩
  have e1 : r = true := hr.2 hI.samep
  subst e1
  exact ⟨rfl, Q, h.pwx (h.pw.pager (a1.mono (fun i hi _ => a3 i hi)) a4), (hI.more (Nat.le_succ j)).read a2 (by omega)⟩
theorem an_same (h : AcN w W bx f p s2 s3 P S ls en) (hI : InvA P S L st st j) (hj : j ≤ 190) (h1 : 1 ≤ en.L.length) (h2 : en.L.length ≤ 200) (h3 : en.roots.length = 8) (h4 : en.free.length ≤ 1000) : Calls Tryz.prog 20 #[.pointer (some ⟨p, 0, none⟩), .pointer (some ⟨s3, 0, none⟩)] W fun e w' => ∃ r : Bool, e = .returned (.bool r) ∧ Hid ((r = true ↔ SameP P (cF L) st.free en) ∧ ∃ P2, AcN w w' bx f p s2 s3 P2 S ls en ∧ InvA P2 S L st st (j + 1) ∧ P2.now = P.now ∧ P2.last = P.last ∧ P2.ch = P.ch) := by
  obtain ⟨O1, O2, K, k1, k2, k3, k4, k5⟩ := h
  have hb1 := hI.bm
  have hb2 := hI.br
  have hm := hI.rn.many
  have hf := free_lt hI.rn
  refine (same_any17 f p s3 O1 O2 K K S P (cF L) st.free en W k1.pg k1.fs k1.ne (fun i hi => (k1.l1 i hi).2) hI.good (by omega) hI.rn.free hf (fun k hk => (hI.rn.fb k hk).2) hI.bat.r8 k3 (fun i hi => by
    have hi : K i := by rcases hi with hi | hi <;> exact hi
    exact ⟨(k4 i hi).2.1, (k4 i hi).2.2.1⟩) h1 (by omega) h3 (by omega)).mono ?_
  rintro e w' ⟨r, k, rfl, hr, ⟨Oi, Q, a1, a2, a3, a4, a5⟩, hk⟩
  have hz := a4.size
  obtain ⟨O5, O6, q1, q2, q3, q4⟩ := k1.pager (a1.mono (fun i hi _ => a3 i hi)) a4
  have hKn : ∀ i, K i → ¬ (O1 i ∨ O2 i) := fun i hi e => by
    rcases e with e | e
    · exact (k4 i hi).1 e
    · exact (k4 i hi).2.1 e
  refine ⟨r, rfl, Lib.hid ⟨hr, Q, ⟨O5, O6, K, q1, k2.ch q4 hKn hKn, k3.ch q4 hKn hKn, fun i hi => ⟨fun e => ?_, fun e => ?_, by have := (k4 i hi).2.2.1; omega, (k4 i hi).2.2.2⟩, fun i o hi => ?_⟩, (hI.more (Nat.le_succ j)).read a2 (by omega), a2.now, a2.last, a2.ch⟩⟩
  · rcases q2 i e with e | e
    · exact (k4 i hi).1 e
    · have := (k4 i hi).2.2.1; omega
  · rcases q3 i e with e | e
    · exact (k4 i hi).2.1 e
    · have := (k4 i hi).2.2.1; omega
  · obtain ⟨b1, b2, b3, b4, b5⟩ := k5 i o hi
    have hl := lt_of_heap b1
    refine ⟨(q4.block i hl (fun e => ?_)).trans b1, fun e => ?_, fun e => ?_, b4, b5⟩
    · rcases e with e | e
      · exact b2 e
      · exact b3 e
    · rcases q2 i e with e | e
      · exact b2 e
      · omega
    · rcases q3 i e with e | e
      · exact b3 e
      · omega
/-- A pager that was just opened, and is told to be another state. -/
theorem InvA.swap (hI : InvA P2 S L st st j) (hn : P2.now = P.now) (hnl : P.now = P.last) (hl : P2.last = P.last) (hc : P2.ch = P.ch) (hch : P.ch = []) (hs : SameP P (cF L) st.free en) : InvA P2 S L en en j := by
  obtain ⟨h1, h2, h3, h4⟩ := hs
  have hcc : cont P2 (cF L) = cont P (cF L) := by funext no; unfold cont; rw [hc]
  have hcf : cont P2 (cF L) = cF L := by funext no; unfold cont; rw [hc, hch]; rfl
  have hm := hI.rn.many
  have hrn : RelC P2.now (cont P2 (cF L)) en := hI.rn.other h1.symm (by rw [hm, hn]; exact h2.symm) (by rw [hI.rn.roots, hn]; exact h3.symm) (fun no a b c => by rw [hcc]; rw [hn] at b; exact h4 no a b c)
  have hrl : RelC P2.last (cF L) en := by
    have := hrn
    rw [hcf, hn, hnl, ← hl] at this
    exact this
  exact ⟨hI.st, hI.ok, hI.kept, hI.dead, hI.l0, hI.ll, hI.bat, hrn, hrl, hI.bm, hI.bl, hI.bc, hI.br, hI.bs⟩
/-- It is what it is. -/
theorem InvA.self (hI : InvA P S L st st j) : SameP P (cF L) st.free st := hI.samep
theorem againP_stamp (nm : List UInt8) (S : FsP) : (againP nm S).2.stamp ≤ S.stamp + 4600 := by
  unfold againP
  split
  · show S.stamp ≤ _; omega
  · show S.stamp ≤ _; omega
  · rename_i n _
    dsimp only
    split
    · rename_i hc
      have h1 := (we_parts hc.1).1
      have h2 := layP_stamp nm (nosP (WE ((readP S (logN nm) 0 ((n + 1 : Nat) : Int)).2.take (n + 1 - 4))).2) S
      rw [nos_len] at h2
      split
      · have h3 := cutF_stamp (layP nm (nosP (WE ((readP S (logN nm) 0 ((n + 1 : Nat) : Int)).2.take (n + 1 - 4))).2) S).2 (logN nm) 0
        omega
      · omega
    · have := cutF_stamp S (logN nm) 0
      omega
/-- What opening anew wants, and gives, where nothing is amiss. -/
theorem St.opens (hS : St S xN L 65536) : S.down = false ∧ (∃ n, lenP S (dbN xN) = some n) ∧ (∃ n, lenP S (logN xN) = some n ∧ (n = 0 ∨ 4 ≤ n) ∧ n ≤ 200000) ∧ againP xN S = (0, S) := by
  obtain ⟨h1, h2⟩ := hS.len
  exact ⟨hS.up, ⟨_, h1⟩, ⟨0, h2, .inl rfl, by omega⟩, by unfold againP; rw [h2]⟩
theorem Dn.opens (hD : Dn S xN L L2 65536) (keep : UInt64) : (crashP S keep).down = false ∧ (∃ n, lenP (crashP S keep) (dbN xN) = some n) ∧ (∃ n, lenP (crashP S keep) (logN xN) = some n ∧ (n = 0 ∨ 4 ≤ n) ∧ n ≤ 200000) ∧ ∃ S4, againP xN (crashP S keep) = (0, S4) ∧ S4.stamp ≤ S.stamp + 4600 ∧ (St S4 xN L 65536 ∨ St S4 xN L2 65536) := by
  obtain ⟨Q, J, hR, h1, h2, h3, S4, h4, _, h5⟩ := hD.recov keep
  obtain ⟨l1, l2⟩ := hR.lens
  refine ⟨hR.up, ⟨_, l1⟩, ⟨_, l2, ?_, by omega⟩, S4, h4, ?_, h5⟩
  · rcases h2 with rfl | h2
    · exact .inl rfl
    · exact .inr h2
  · have := againP_stamp xN (crashP S keep)
    rw [h4] at this
    exact this
theorem PgV.inv {h : HdP} (hp : PgV L h st j) (hS : St S xN L 65536) (hs : S.stamp ≤ 4600 * j + 40000) : InvA (pgO h) S L st st j := inv_open hS hp.l0 hp.ll hp.rel hp.b hs
end
end Go.Proofs.YtoadamkmabkldaaGreatDoor
/- Acts on a pager in a row, as a parameter. -/
namespace Go.Proofs.YtoadamkmabkldaaGreatDoor
open Go.RowKit Go.ChangeShapes Go.WideShapes Go.ChangeAt

/-- A slice of bytes, with its room's bound. -/
def RdM (w : World) (Bd : Nat) (v : Value) (l : List UInt8) : Prop := ∃ A n c, v = .slice A n c ∧ Rd w Bd 1 A n (bys l) ∧ n ≤ c ∧ c ≤ maxLen
theorem RdM.keep {w w' : World} {Bd : Nat} {v : Value} {l : List UInt8} (h : RdM w Bd v l) (hk : ∀ p : Addr, p.block < Bd → w'.cell? p = w.cell? p) : RdM w' Bd v l := by
  obtain ⟨A, n, c, h1, h2, h3⟩ := h
  exact ⟨A, n, c, h1, h2.keep hk, h3⟩
/-- An act on a pager. -/
structure ActV where
  kind : Int
  n : Int
  k : Int
  B : List UInt8
  keep : UInt64
structure RdAct (w : World) (Bd b o : Nat) (q : ActV) : Prop where
  c0 : w.cell? ⟨b, o, none⟩ = some (.int .i64 q.kind)
  c1 : w.cell? ⟨b, o + 1, none⟩ = some (.int .i64 q.n)
  c2 : w.cell? ⟨b, o + 2, none⟩ = some (.int .i64 q.k)
  c3 : ∃ v, w.cell? ⟨b, o + 3, none⟩ = some v ∧ RdM w Bd v q.B
  c4 : w.cell? ⟨b, o + 4, none⟩ = some (.int .u64 (q.keep.toNat : Int))
  i0 : -9223372036854775808 ≤ q.kind ∧ q.kind ≤ 9223372036854775807
  i1 : -9223372036854775808 ≤ q.n ∧ q.n ≤ 9223372036854775807
  i2 : -9223372036854775808 ≤ q.k ∧ q.k ≤ 9223372036854775807
theorem RdAct.keep_ {w w' : World} {Bd b o : Nat} {q : ActV} (h : RdAct w Bd b o q) (hb : b < Bd) (hk : ∀ p : Addr, p.block < Bd → w'.cell? p = w.cell? p) : RdAct w' Bd b o q := by
  obtain ⟨v, h1, h2⟩ := h.c3
  exact ⟨(hk _ hb).trans h.c0, (hk _ hb).trans h.c1, (hk _ hb).trans h.c2, ⟨v, (hk _ hb).trans h1, h2.keep hk⟩, (hk _ hb).trans h.c4, h.i0, h.i1, h.i2⟩
/-- The slice reads as these acts. -/
def RdAs (w : World) (Bd : Nat) (A : Option Addr) (n : Nat) (ls : List ActV) : Prop :=
  ls.length = n ∧ (0 < n → ∃ b o, A = some ⟨b, o, none⟩ ∧ b < Bd ∧ ∀ i q, ls[i]? = some q → RdAct w Bd b (o + i * 5) q)
theorem RdAs.keep {w w' : World} {Bd n : Nat} {A : Option Addr} {ls : List ActV} (h : RdAs w Bd A n ls) (hk : ∀ p : Addr, p.block < Bd → w'.cell? p = w.cell? p) : RdAs w' Bd A n ls := by
  refine ⟨h.1, fun hn => ?_⟩
  obtain ⟨b, o, hA, hb, hc⟩ := h.2 hn
  exact ⟨b, o, hA, hb, fun i q hq => (hc i q hq).keep_ hb hk⟩
theorem RdAs.below {w w' : World} {Bd C n : Nat} {A : Option Addr} {ls : List ActV} (h : RdAs w Bd A n ls) (hb : Below C w w') (hC : Bd ≤ C) : RdAs w' Bd A n ls := h.keep fun _ hp => hb.cell (by omega)

section
variable {H : Type} {enc : TypeId × Value → H} {P : Program} {W : World} {base : Nat} {v : Value} {d : DataW H} {p : List MemPlace} {t e : TypeId} {r : Reach}
/-- A field of one cell. -/
theorem fldA {fs : Array Field} {cs : List Value} {xs : List (DataW H × List MemPlace)} {n k : Nat} {f : Field} (hx : xs.length = fs.size) (h : ∀ (j : Nat) (f : Field), fs[j]? = some f → DataW.trod enc P W 0 (fun _ => true) true n f.type ((cs.drop f.offset).take (P.cellsOf f.type)) = xs[j]?)
    (hf : fs[k]? = some f) (ho : f.offset = k) (hc : P.cellsOf f.type = 1) (hk : k < cs.length) : ∃ u y, cs[k]? = some u ∧ DataW.trod enc P W 0 (fun _ => true) true n f.type [u] = some y := by
  have hk2 : k < xs.length := by rw [hx]; exact (Array.getElem?_eq_some_iff.1 hf).1
  have g := h k f hf
  have hd : (cs.drop k).take 1 = [cs[k]] := by rw [List.drop_eq_getElem_cons hk]; rfl
  rw [ho, hc, hd, List.getElem?_eq_getElem hk2] at g
  exact ⟨_, _, List.getElem?_eq_getElem hk, g⟩
theorem read_bysM {fuel : Nat} {x : DataW H × List MemPlace} (ht : P.underlying t = some (.slice e)) (he : P.underlying e = some (.int .u8)) (hc : P.cellsOf e = 1) (hf : DataW.trod enc P W 0 (fun _ => true) true fuel t [v] = some x) :
    ∃ l, RdM W W.heap.size v l := by
  rcases open_ints ht he hc hf with ⟨hcs, _⟩ | ⟨a, n, c, zs, hcs, _, hl, hm, hz, _, hcell, hwz⟩
  · injection hcs with hcs
    subst hcs
    exact ⟨[], none, 0, 0, rfl, Rd.empty, Nat.le_refl _, Nat.zero_le _⟩
  · have hcs0 := hcs
    obtain ⟨l, A, n', c', h1, h2, h3⟩ := read_bys ht he hc hf
    injection hcs with hcs
    rw [hcs] at h1
    injection h1 with h4 h5 h6
    subst h4 h5 h6
    exact ⟨l, _, _, _, hcs, h2, h3, hm⟩
instance : Inhabited ActV := ⟨⟨0, 0, 0, [], 0⟩⟩
theorem open_acts {fs : Array Field} (ht : P.underlying t = some (.slice e)) (he : P.underlying e = some (.struct fs)) (hce : P.cellsOf e = 5)
    (hi : ∀ k, k < 3 → ∃ f, fs[k]? = some f ∧ f.offset = k ∧ P.cellsOf f.type = 1 ∧ P.underlying f.type = some (.int .i64))
    (hb : ∃ f, fs[3]? = some f ∧ f.offset = 3 ∧ P.cellsOf f.type = 1 ∧ ∃ eb, P.underlying f.type = some (.slice eb) ∧ P.underlying eb = some (.int .u8) ∧ P.cellsOf eb = 1)
    (hu : ∃ f, fs[4]? = some f ∧ f.offset = 4 ∧ P.cellsOf f.type = 1 ∧ P.underlying f.type = some (.int .u64))
    (hv : Value.okWide P W r base t v) (h : DataW.Trod enc P W 0 (fun _ => true) true t v d p) :
    ∃ (A : Option Addr) (n c : Nat) (ls : List ActV), v = .slice A n c ∧ RdAs W W.heap.size A n ls ∧ n ≤ c ∧ c ≤ maxLen := by
  obtain ⟨a0, len0, cap0, rfl⟩ := okWide_slice ht hv
  obtain ⟨fuel, hf⟩ := h
  rcases Deep.open_slice ht hf with ⟨hcs, _⟩ | ⟨x, n, c, mm, k, D, Pl, hcs, _, hl, hm, hmm, _, hi2⟩
  · simp [Value.cells] at hcs
    obtain ⟨rfl, rfl, rfl⟩ := hcs
    exact ⟨none, 0, 0, [], rfl, ⟨rfl, fun h => by omega⟩, Nat.le_refl _, Nat.zero_le _⟩
  · simp [Value.cells] at hcs
    obtain ⟨rfl, rfl, rfl⟩ := hcs
    simp only [if_true] at hmm
    have each : ∀ i, i < len0 → ∃ q : ActV, W.cell? ((x.add (i * 5)).add 0) = some (.int .i64 q.kind) ∧ W.cell? ((x.add (i * 5)).add 1) = some (.int .i64 q.n) ∧ W.cell? ((x.add (i * 5)).add 2) = some (.int .i64 q.k) ∧
        (∃ v, W.cell? ((x.add (i * 5)).add 3) = some v ∧ RdM W W.heap.size v q.B) ∧ W.cell? ((x.add (i * 5)).add 4) = some (.int .u64 (q.keep.toNat : Int)) ∧ (-9223372036854775808 ≤ q.kind ∧ q.kind ≤ 9223372036854775807) ∧ (-9223372036854775808 ≤ q.n ∧ q.n ≤ 9223372036854775807) ∧ -9223372036854775808 ≤ q.k ∧ q.k ≤ 9223372036854775807 := by
      intro i hil
      obtain ⟨cs', h1, h2⟩ := hi2 i (by omega)
      rw [hce] at h1
      obtain ⟨_, hlen, hcell⟩ := World.cells?_some h1
      obtain ⟨xs, k', _, _, _, hxl, hfx⟩ := DataW.trod_struct he h2
      obtain ⟨f0, a1, a2, a3, a4⟩ := hi 0 (by omega)
      obtain ⟨u0, y0, b0, t0⟩ := fldA hxl hfx a1 a2 a3 (by omega)
      obtain ⟨z0, g0, _, w0⟩ := DataW.trod_int a4 t0
      obtain ⟨f1, a1, a2, a3, a4⟩ := hi 1 (by omega)
      obtain ⟨u1, y1, b1, t1⟩ := fldA hxl hfx a1 a2 a3 (by omega)
      obtain ⟨z1, g1, _, w1⟩ := DataW.trod_int a4 t1
      obtain ⟨f2, a1, a2, a3, a4⟩ := hi 2 (by omega)
      obtain ⟨u2, y2, b2, t2⟩ := fldA hxl hfx a1 a2 a3 (by omega)
      obtain ⟨z2, g2, _, w2⟩ := DataW.trod_int a4 t2
      obtain ⟨f4, a1, a2, a3, e4, a4, a5, a6⟩ := hb
      obtain ⟨u4, y4, b4, t4⟩ := fldA hxl hfx a1 a2 a3 (by omega)
      obtain ⟨l4, r4⟩ := read_bysM a4 a5 a6 t4
      obtain ⟨f5, a1, a2, a3, a4⟩ := hu
      obtain ⟨u5, y5, b5, t5⟩ := fldA hxl hfx a1 a2 a3 (by omega)
      obtain ⟨z5, g5, _, w5⟩ := DataW.trod_int a4 t5
      injection g0 with g0
      injection g1 with g1
      injection g2 with g2
      injection g5 with g5
      subst g0 g1 g2 g5
      have hz5 := bounds_u64 w5
      have hk5 : (((UInt64.ofNat z5.toNat).toNat : Nat) : Int) = z5 := by
        rw [UInt64.toNat_ofNat']; omega
      exact ⟨⟨z0, z1, z2, l4, UInt64.ofNat z5.toNat⟩, (hcell 0 (by omega)).trans b0, (hcell 1 (by omega)).trans b1, (hcell 2 (by omega)).trans b2, ⟨u4, (hcell 3 (by omega)).trans b4, r4⟩, by show _ = some (Value.int .u64 (((UInt64.ofNat z5.toNat).toNat : Nat) : Int)); rw [hk5]; exact (hcell 4 (by omega)).trans b5, bounds_i64 w0, bounds_i64 w1, bounds_i64 w2⟩
    obtain ⟨L, hL⟩ := Deep.choose_lt each
    refine ⟨some x, len0, cap0, (List.range len0).map L, rfl, ⟨by simp, fun hn => ?_⟩, hl, hm⟩
    obtain ⟨b, o, sp⟩ := x
    have h0 := (hL 0 hn).1
    have hsp : sp = none := by
      have := World.cell?_spot h0
      simpa [Addr.add] using this
    subst hsp
    simp only [addLit, Nat.add_zero] at h0 hL
    refine ⟨b, o, rfl, World.block_lt_of_cell? W _ h0, fun i q hq => ?_⟩
    simp only [List.getElem?_map, Option.map_eq_some_iff] at hq
    obtain ⟨y, hy, rfl⟩ := hq
    have hin : i < len0 := by
      rcases Nat.lt_or_ge i len0 with h | h
      · exact h
      · rw [List.getElem?_eq_none (by simpa using h)] at hy; cases hy
    rw [List.getElem?_range hin] at hy
    injection hy with hy
    subst hy
    obtain ⟨h1, h2, h3, h4, h5, h6, h7, h8⟩ := hL i hin
    exact ⟨h1, h2, h3, h4, h5, h6, h7, h8⟩
end
end Go.Proofs.YtoadamkmabkldaaGreatDoor
/- PagerActs: what the walk leans on. -/
namespace Go.Proofs.YtoadamkmabkldaaGreatDoor
open Go.RowKit Go.Shelf
attribute [local go_sem ↓] Go.wp_at_zero Go.wp_at_succ
def noBx : Nat → Option Obj := fun _ => none
/-- The store is up; it is down, a commit having ended. -/
def StA (w W : World) (f p s1 s2 j : Nat) : Prop := ∃ P S L nw ls, AcM w W noBx f p s1 s2 P S nw ls ∧ InvA P S L nw ls j
def StB (w W : World) (f s2 s3 j : Nat) : Prop := ∃ S L L2 h1 h2 ls en, AcB w W noBx f s2 s3 S ls en ∧ Dn S xN L L2 65536 ∧ S.stamp ≤ 4600 * j + 40000 ∧ PgV L h1 ls j ∧ PgV L2 h2 en j
def actBx (X : Nat) (o : Obj) : Nat → Option Obj := fun i => if i = X then some o else none
section
variable {w W W1 : World} {f p s1 s2 s3 j X : Nat} {P : PgP} {S : FsP} {nw ls en : StP} {L : List (List UInt8)} {o : Obj}
theorem StA.low (h : StA w W f p s1 s2 j) : Below w.heap.size w W := by obtain ⟨_, _, _, _, _, h, _⟩ := h; exact h.low
theorem StB.low (h : StB w W f s2 s3 j) : Below w.heap.size w W := by obtain ⟨_, _, _, _, _, _, _, ⟨_, _, _, _, _, _, _, _, h⟩, _⟩ := h; exact h
theorem AcM.box2 (h : AcM w W noBx f p s1 s2 P S nw ls) (hb : Below W.heap.size W W1) (hk : W1.heap[X]? = some o) (hX : W.heap.size ≤ X) : AcM w W1 (actBx X o) f p s1 s2 P S nw ls := by
  obtain ⟨O1, O2, O3, K, h⟩ := h
  have hz := hb.size
  have hbl := h.pw.bl.size
  refine ⟨O1, O2, O3, K, h.pw.keep (T := fun _ => False) (Ch.of_below hb (Nat.le_refl _)) (fun i e => e.elim), h.now.below hb, h.last.below hb, fun i hi => by obtain ⟨a1, a2, a3, a4⟩ := h.dis i hi; exact ⟨a1, a2, by omega, a4⟩, h.ok, fun i o2 hi => ?_⟩
  unfold actBx at hi
  split at hi
  · rename_i e
    injection hi with hi
    subst e hi
    exact ⟨hk, fun e => by have := (h.pw.l1 _ e).2; omega, fun e => by have := (h.pw.l2 _ e).2; omega, fun e => by have := (h.dis _ (.inl e)).2.2.1; omega, fun e => by have := (h.dis _ (.inr e)).2.2.1; omega, by omega⟩
  · cases hi
theorem AcB.box2 (h : AcB w W noBx f s2 s3 S ls en) (hb : Below W.heap.size W W1) (hk : W1.heap[X]? = some o) (hX : W.heap.size ≤ X) : AcB w W1 (actBx X o) f s2 s3 S ls en := by
  obtain ⟨O1, K, k1, k2, k3, k4, k5, k6, k7⟩ := h
  have hz := hb.size
  have hbl := k7.size
  refine ⟨O1, K, FsA.heap k1 (W' := W1) (fun i hi hl => hb.block i hl), k2.below hb, k3.below hb, fun i hi => ⟨(k4 i hi).1, by have := (k4 i hi).2; omega⟩, fun i hi => ⟨(k5 i hi).1, by have := (k5 i hi).2.1; omega, (k5 i hi).2.2⟩, fun i o2 hi => ?_, k7.trans (hb.mono hbl)⟩
  unfold actBx at hi
  split at hi
  · rename_i e
    injection hi with hi
    subst e hi
    exact ⟨hk, fun e => by have := (k4 _ e).2; omega, fun e => by have := (k5 _ e).2.1; omega, by omega⟩
  · cases hi
theorem AcM.nobox {bx : Nat → Option Obj} (h : AcM w W bx f p s1 s2 P S nw ls) : AcM w W noBx f p s1 s2 P S nw ls := h.unbox (fun i o e => by cases e)
theorem AcB.nobox {bx : Nat → Option Obj} (h : AcB w W bx f s2 s3 S ls en) : AcB w W noBx f s2 s3 S ls en := by
  obtain ⟨O1, K, k1, k2, k3, k4, k5, k6, k7⟩ := h
  exact ⟨O1, K, k1, k2, k3, k4, k5, (fun i o e => by cases e), k7⟩
theorem AcB.cells {t : TypeId} {cs : Array Value} {bx : Nat → Option Obj} (h : AcB w W bx f s2 s3 S ls en) (hb : bx X = some (.cells cs t (0, 0))) : Bk W X t cs := by
  obtain ⟨O1, K, k1, k2, k3, k4, k5, k6, k7⟩ := h
  exact (k6 X _ hb).1
theorem AcN.cells {t : TypeId} {cs : Array Value} {bx : Nat → Option Obj} (h : AcN w W bx f p s2 s3 P S ls en) (hb : bx X = some (.cells cs t (0, 0))) : Bk W X t cs := by
  obtain ⟨O1, O2, K, k1, k2, k3, k4, k5⟩ := h
  exact (k5 X _ hb).1
theorem inv_new (hS : St S xN lN 65536) (hs : S.stamp ≤ 40000) : InvA pgN S lN newS newS 0 := by
  have hb : BatOk lN hd1 [] := ⟨rfl, by decide, by decide, List.Pairwise.nil, (fun q hq => by cases hq), Nat.le_refl _, fun k h1 h2 _ => by have h1 : 1 ≤ k := h1; have h2 : k < 1 := h2; omega⟩
  exact ⟨hS, pgN_ok, (fun k hk _ => by cases hk), rfl, rfl, rfl, hb, RelC.new rfl _, RelC.new rfl _, Nat.le_refl _, Nat.le_refl _, Nat.le_refl _, by show 0 ≤ _; omega, by omega⟩
/-- Behind the opening. -/
def Ac0 (w W : World) (f p : Nat) : Prop := ∃ O1 O2 S, Pw w W O1 O2 f p xS pgN S ∧ St S xN lN 65536 ∧ S.stamp ≤ 40000
def Ac1 (w W : World) (f p s1 : Nat) : Prop := ∃ O1 O2 O3 S, Pw w W O1 O2 f p xS pgN S ∧ St S xN lN 65536 ∧ S.stamp ≤ 40000 ∧ RfA W O3 (fun _ => False) s1 newS ∧ ∀ i, O3 i → ¬ O1 i ∧ ¬ O2 i ∧ i < W.heap.size ∧ w.heap.size ≤ i
theorem a0_open (hF : Fs w.heap.size W f (newP 65536)) (hb : Below w.heap.size w W) : Calls Tryz.prog 11 #[.pointer (some ⟨f, 0, none⟩), .string xS] W fun e w' => ∃ p, e = .returned (.tuple #[.pointer (some ⟨p, 0, none⟩), .int .i64 0]) ∧ Hid (Ac0 w w' f p) := by
  refine (open_new 65536 f _ w W hF (fun i hi => hi) hb).mono ?_
  rintro e w' (⟨_, p, O1, O2, S, h1, h2, h3, h4, h5, _⟩ | ⟨h1, _⟩)
  · exact ⟨p, h1, Lib.hid ⟨O1, O2, S, h2, h3, h5⟩⟩
  · exact absurd h1 (by decide)
theorem a0_new (h : Ac0 w W f p) : Calls Tryz.prog 19 #[] W fun e w' => ∃ s, e = .returned (.pointer (some ⟨s, 0, none⟩)) ∧ Hid (Ac1 w w' f p s) := by
  obtain ⟨O1, O2, S, k1, k2, k3⟩ := h
  refine (new_any17 W).mono ?_
  rintro e w' ⟨s, rfl, H⟩
  obtain ⟨r1, r2⟩ := H.out
  have hz := r2.size
  have hbl := k1.bl.size
  exact ⟨s, rfl, Lib.hid ⟨O1, O2, fun i => W.heap.size ≤ i ∧ i < w'.heap.size, S, k1.keep (T := fun _ => False) (Ch.of_below r2 (Nat.le_refl _)) (fun i h => h.elim), k2, k3, r1.mono (fun i hi hl => ⟨hi, hl⟩) (fun i hi _ => hi), fun i hi => ⟨fun e => by have := (k1.l1 i e).2; omega, fun e => by have := (k1.l2 i e).2; omega, hi.2, by omega⟩⟩⟩
theorem a1_new (h : Ac1 w W f p s1) : Calls Tryz.prog 19 #[] W fun e w' => ∃ s, e = .returned (.pointer (some ⟨s, 0, none⟩)) ∧ Hid (StA w w' f p s1 s 0) := by
  obtain ⟨O1, O2, O3, S, k1, k2, k3, k4, k5⟩ := h
  refine (new_any17 W).mono ?_
  rintro e w' ⟨s, rfl, H⟩
  obtain ⟨r1, r2⟩ := H.out
  have hz := r2.size
  have hbl := k1.bl.size
  refine ⟨s, rfl, Lib.hid ⟨pgN, S, lN, newS, newS, ⟨O1, O2, O3, fun i => W.heap.size ≤ i ∧ i < w'.heap.size, k1.keep (T := fun _ => False) (Ch.of_below r2 (Nat.le_refl _)) (fun i h => h.elim), (k4.below r2).mono (fun i hi _ => hi) (fun i hi _ => hi.elim), r1.mono (fun i hi hl => ⟨hi, hl⟩) (fun i hi _ => hi.elim), fun i hi => ?_, fun i hi e => ?_, fun i o e => by cases e⟩, inv_new k2 k3⟩⟩
  · rcases hi with hi | hi
    · obtain ⟨a1, a2, a3, a4⟩ := k5 i hi
      exact ⟨a1, a2, by omega, a4⟩
    · exact ⟨fun e => by have := (k1.l1 i e).2; omega, fun e => by have := (k1.l2 i e).2; omega, hi.2, by omega⟩
  · have := (k5 i hi).2.2.1; omega
end
end Go.Proofs.YtoadamkmabkldaaGreatDoor
