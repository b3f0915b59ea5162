/- Contracts of package glob: class: its memory. -/
import Derived.Test.YtbdehlphblbmoaaDoorGlbD
import Derived.Test.YtbdehlphblbmoaaDoorOrd
namespace Go.Proofs.YtbdehlphblbmoaaDoor
open Go.RowKit
attribute [local go_sem ↓] Go.wp_at_zero Go.wp_at_succ

theorem clsR_end {n : Nat} {rs : List (Int × Int)} {t : List Int} (h : rs ≠ []) : clsR (n + 1) rs (93 :: t) = some (rs, t) := by
  rw [clsR, if_pos ⟨h, rfl⟩]; rfl
theorem clsR_none {n : Nat} {rs : List (Int × Int)} {l : List Int} (h : ¬ (rs ≠ [] ∧ l.head? = some 93)) (hp : plainR l = none) : clsR (n + 1) rs l = none := by
  rw [clsR, if_neg h, hp]
theorem clsR_one {n : Nat} {rs : List (Int × Int)} {l m : List Int} {a : Int} (h : ¬ (rs ≠ [] ∧ l.head? = some 93)) (hp : plainR l = some (a, m)) (hc : ¬ (1 < m.length ∧ m.head? = some 45 ∧ m[1]? ≠ some 93)) : clsR (n + 1) rs l = clsR n (rs ++ [(a, a)]) m := by
  rw [clsR, if_neg h, hp]
  simp only
  rw [if_neg hc]
theorem clsR_bad {n : Nat} {rs : List (Int × Int)} {l m : List Int} {a y : Int} (h : ¬ (rs ≠ [] ∧ l.head? = some 93)) (hp : plainR l = some (a, 45 :: y :: m)) (hy : y ≠ 93) (hq : plainR (y :: m) = none) : clsR (n + 1) rs l = none := by
  rw [clsR, if_neg h, hp]
  simp only
  rw [if_pos ⟨by simp, by simp, by simpa using hy⟩, List.tail_cons, hq]
theorem clsR_two {n : Nat} {rs : List (Int × Int)} {l m k : List Int} {a y b : Int} (h : ¬ (rs ≠ [] ∧ l.head? = some 93)) (hp : plainR l = some (a, 45 :: y :: m)) (hy : y ≠ 93) (hq : plainR (y :: m) = some (b, k)) : clsR (n + 1) rs l = if b < a then none else clsR n (rs ++ [(a, b)]) k := by
  rw [clsR, if_neg h, hp]
  simp only
  rw [if_pos ⟨by simp, by simp, by simpa using hy⟩, List.tail_cons, hq]
/-- A part that was just made: a class's rows are of the call's own. -/
def PtO (W : World) (base : Nat) : PtP → Value → Prop
  | .lit r, v => v = .iface 75 (.int .i32 r)
  | .one, v => v = .iface 93 (.agg #[])
  | .stars d, v => v = .iface 64 (.agg #[.bool d])
  | .cls n rs, v => ∃ A c A2 c2, v = .iface 102 (.agg #[.bool n, .slice A rs.length c, .slice A2 rs.length c2]) ∧ W.ownsRow base 21 1 (.slice A rs.length c) rs.length (rns (rs.map (·.1))) ∧ W.ownsRow base 21 1 (.slice A2 rs.length c2) rs.length (rns (rs.map (·.2))) ∧ rs.length ≤ 100000
/-- A class while it is read. -/
structure ClM (W : World) (gp rb B : Nat) (w : World) (nt : Bool) (x1 x2 : Value) (n1 n2 : Nat) (l1 l2 l : List Int) : Prop where
  o1 : W.ownsRow (gp + 1) 21 1 x1 n1 (rns l1)
  o2 : W.ownsRow (gp + 1) 21 1 x2 n2 (rns l2)
  ap : ∀ b, x1.ownBlock = some b → x2.ownBlock ≠ some b
  ch : Ch (fun i => i = rb) w W
  rd : GRd W rb B l
  gp_ge : w.heap.size ≤ gp
  gp_lt : gp < W.heap.size
  rb_lt : rb < w.heap.size
  bB : B ≤ w.heap.size
  bR : B ≤ rb
section
variable {W : World} {gp rb B n1 n2 : Nat} {w : World} {nt : Bool} {x1 x2 : Value} {l1 l2 l : List Int}
theorem ClM.alloc (h : ClM W gp rb B w nt x1 x2 n1 n2 l1 l2 l) (o : Obj) : ClM (W.alloc o) gp rb B w nt x1 x2 n1 n2 l1 l2 l :=
  ⟨h.o1.alloc _, h.o2.alloc _, h.ap, h.ch.alloc _, h.rd.ch ((Ch.refl (fun _ => False) W).alloc o) (by have := h.ch.size; have := h.bB; omega) (fun h => h) (fun _ h => h.elim), h.gp_ge, by have := h.gp_lt; simp; omega, h.rb_lt, h.bB, h.bR⟩
theorem ClM.drew (h : ClM W gp rb B w nt x1 x2 n1 n2 l1 l2 l) : ClM W.drew gp rb B w nt x1 x2 n1 n2 l1 l2 l :=
  ⟨own_drewN h.o1 1, own_drewN h.o2 1, h.ap, h.ch.drew, h.rd.ch ((Ch.refl (fun _ => False) W).drew) (by have := h.ch.size; have := h.bB; omega) (fun h => h) (fun _ h => h.elim), h.gp_ge, h.gp_lt, h.rb_lt, h.bB, h.bR⟩
/-- A row of one new rune. -/
structure LtM (W : World) (p gp : Nat) (a : Int) (x1 x2 : Value) : Prop where
  bk : Bk W p 21 #[.int .i32 a]
  ge : gp + 1 ≤ p
  n1 : x1.ownBlock ≠ some p
  n2 : x2.ownBlock ≠ some p
theorem ClM.lit (h : ClM W gp rb B w nt x1 x2 n1 n2 l1 l2 l) (a : Int) : LtM (W.alloc (.cells #[.int .i32 a] 21)) W.heap.size gp a x1 x2 :=
  ⟨Bk.new _ _ _, h.gp_lt, fun e => by have := (h.o1.lt _ e).2; omega, fun e => by have := (h.o2.lt _ e).2; omega⟩
theorem LtM.alloc {p : Nat} {a : Int} (h : LtM W p gp a x1 x2) (o : Obj) : LtM (W.alloc o) p gp a x1 x2 := ⟨h.bk.alloc _, h.ge, h.n1, h.n2⟩
theorem LtM.rd {p : Nat} {a : Int} (h : LtM W p gp a x1 x2) : Rd W (p + 1) 1 (some ⟨p, 0, none⟩) 1 (rns [a]) := by
  refine ⟨rfl, fun _ => ⟨p, 0, rfl, by omega, fun j v hj => ?_⟩⟩
  match j, hj with
  | 0, hj => simp [rns] at hj; subst hj; exact h.bk.cell 0
  | j + 1, hj => simp [rns] at hj
end
theorem infoR : (Tryd.prog.info? 21).map (fun i => (i.zero, i.size, i.bytes)) = some (some (.int .i32 0), 1, 4) := by kernel_rfl
theorem rns_app (a b : List Int) : rns (a ++ b) = rns a ++ rns b := by simp [rns]
theorem rns_one (l : List Int) : ∀ u ∈ rns l, u.oneCell' = true := by
  intro u hu; simp only [rns, List.mem_map] at hu; obtain ⟨x, _, rfl⟩ := hu; rfl
theorem run_append_rns (w : World) (base : Nat) (ty : TypeId) {v : Value} {n : Nat} {l l2 : List Int} (hown : w.ownsRow base 21 1 v n (rns l)) {B : Nat} {A : Option Addr} {m : Nat} (hr : Rd w B 1 A m (rns l2)) (c : Nat) (hbase : base ≤ w.heap.size) (hb : n + m ≤ 1000000) :
    ∃ v' w', (Builtin.append_ #[53, 53] ty #[v, .slice A m c]).run Tryd.prog w = .ok v' w' ∧ w'.ownsRow base 21 1 v' (n + m) (rns (l ++ l2)) ∧ w.grownBy w' v.ownBlock ∧ (v'.ownBlock = v.ownBlock ∨ v'.ownBlock = some w.heap.size) := by
  obtain ⟨i0, hi, hz0, hz1, hz2⟩ := info_parts infoR
  obtain ⟨v', w', hrun, h2, h3, h4⟩ := run_append_rd (P := Tryd.prog) w base 53 ty 21 i0 (.int .i32 0) 1 4 Tryd.underlying53 hi hz0 hz1 hz2 rfl (by decide) v n (rns l) hown B A m c (rns l2) hr (rns_one _) (by unfold maxLen; omega) (by omega) hbase
  exact ⟨v', w', hrun, by rw [rns_app]; exact h2, h3, h4⟩
/-- .. at an operation of a region whose order is open. -/
theorem ap_if32 {ops : Array Oper} {Q : Exit → Act → World → Prop} {K : Act → World → Prop} {E : Prop} {a : Act} {w : World} {d : Option Tmp} {ty : TypeId} {pos : String} {af : Array Edge} {s x : Operand}
    {vs vx v' : Value} {w' : World} (hs : a.eval s = vs) (hx : a.eval x = vx) (hrun : (Builtin.append_ #[53, 53] ty #[vs, vx]).run Tryd.prog w = .ok v' w') (h : K (a.put d v') w') :
    if Region.wanted { dst := d, op := .call { callee := .builtin .append, args := #[s, x], argTypes := #[53, 53] }, type := ty, pos := pos, after := af, guard := none } (yielded ops a.tmps) = true then
      Oper.wp Tryd.prog { dst := d, op := .call { callee := .builtin .append, args := #[s, x], argTypes := #[53, 53] }, type := ty, pos := pos, after := af, guard := none } a w K Q else E := by
  rw [if_pos (by simp [Region.wanted])]
  unfold Oper.wp execOp
  simp only [resolve, invoke, builtin, Sem.run_bind, Sem.run_pure, Result.andThen_ok, List.map_toArray, List.map_cons, List.map_nil, hs, hx, hrun]
  exact h
section
variable {W : World} {gp rb B n1 n2 : Nat} {w : World} {nt : Bool} {x1 x2 : Value} {l1 l2 l : List Int}
/-- The first row grows. -/
theorem ClM.ap1 (h : ClM W gp rb B w nt x1 x2 n1 n2 l1 l2 l) {p : Nat} {a : Int} (hl : LtM W p gp a x1 x2) (ty : TypeId) (hn : n1 ≤ 100000) :
    ∃ A c W', (Builtin.append_ #[53, 53] ty #[x1, .slice (some ⟨p, 0, none⟩) 1 1]).run Tryd.prog W = .ok (.slice A (n1 + 1) c) W' ∧ ClM W' gp rb B w nt (.slice A (n1 + 1) c) x2 (n1 + 1) n2 (l1 ++ [a]) l2 l ∧
      (∀ (q : Nat) (b : Int), LtM W q gp b x1 x2 → LtM W' q gp b (.slice A (n1 + 1) c) x2) ∧ ∀ cs, Bk W gp 102 cs → Bk W' gp 102 cs := by
  obtain ⟨v', W', hrun, h2, h3, h4⟩ := run_append_rns W (gp + 1) ty h.o1 hl.rd 1 h.gp_lt (by omega)
  obtain ⟨A, c, rfl, _, _⟩ := own_form h2
  have hge : ∀ k, x1.ownBlock = some k → gp + 1 ≤ k := fun k hk => (h.o1.lt k hk).1
  have hgpg := h.gp_ge
  have hrl := h.rb_lt
  have hz := h.ch.size
  have hbB := h.bB
  have hch : Ch (fun i => x1.ownBlock = some i) W W' := (Ch.refl _ W).grown h3 (fun i hi => .inl hi)
  refine ⟨A, c, W', hrun, ⟨h2, own_ch h.o2 hch (fun i hi e => h.ap i e hi), fun b hb hb2 => ?_, h.ch.grown h3 (fun i hi => .inr (by have := hge i hi; omega)), h.rd.ch hch (by omega) (fun e => by have := hge _ e; omega) (fun i hi => by have := hge i hi; omega), h.gp_ge, by have := h3.size; have := h.gp_lt; omega, h.rb_lt, h.bB, h.bR⟩, fun q b hq => ?_, fun cs hc => hc.ch hch (fun e => by have := hge _ e; omega)⟩
  · rcases h4 with h4 | h4
    · rw [h4] at hb; exact h.ap b hb hb2
    · rw [h4] at hb
      injection hb with hb
      have := (h.o2.lt b hb2).2
      omega
  · refine ⟨hq.bk.ch hch (fun e => hq.n1 e), hq.ge, fun e => ?_, hq.n2⟩
    rcases h4 with h4 | h4
    · rw [h4] at e; exact hq.n1 e
    · rw [h4] at e
      injection e with e
      have := hq.bk.lt
      omega
/-- The other row grows. -/
theorem ClM.ap2 (h : ClM W gp rb B w nt x1 x2 n1 n2 l1 l2 l) {p : Nat} {a : Int} (hl : LtM W p gp a x1 x2) (ty : TypeId) (hn : n2 ≤ 100000) :
    ∃ A c W', (Builtin.append_ #[53, 53] ty #[x2, .slice (some ⟨p, 0, none⟩) 1 1]).run Tryd.prog W = .ok (.slice A (n2 + 1) c) W' ∧ ClM W' gp rb B w nt x1 (.slice A (n2 + 1) c) n1 (n2 + 1) l1 (l2 ++ [a]) l ∧
      (∀ (q : Nat) (b : Int), LtM W q gp b x1 x2 → LtM W' q gp b x1 (.slice A (n2 + 1) c)) ∧ ∀ cs, Bk W gp 102 cs → Bk W' gp 102 cs := by
  obtain ⟨v', W', hrun, h2, h3, h4⟩ := run_append_rns W (gp + 1) ty h.o2 hl.rd 1 h.gp_lt (by omega)
  obtain ⟨A, c, rfl, _, _⟩ := own_form h2
  have hge : ∀ k, x2.ownBlock = some k → gp + 1 ≤ k := fun k hk => (h.o2.lt k hk).1
  have hgpg := h.gp_ge
  have hrl := h.rb_lt
  have hz := h.ch.size
  have hbB := h.bB
  have hch : Ch (fun i => x2.ownBlock = some i) W W' := (Ch.refl _ W).grown h3 (fun i hi => .inl hi)
  refine ⟨A, c, W', hrun, ⟨own_ch h.o1 hch (fun i hi e => h.ap i hi e), h2, fun b hb hb2 => ?_, h.ch.grown h3 (fun i hi => .inr (by have := hge i hi; omega)), h.rd.ch hch (by omega) (fun e => by have := hge _ e; omega) (fun i hi => by have := hge i hi; omega), h.gp_ge, by have := h3.size; have := h.gp_lt; omega, h.rb_lt, h.bB, h.bR⟩, fun q b hq => ?_, fun cs hc => hc.ch hch (fun e => by have := hge _ e; omega)⟩
  · rcases h4 with h4 | h4
    · rw [h4] at hb2; exact h.ap b hb hb2
    · rw [h4] at hb2
      injection hb2 with hb2
      have := (h.o1.lt b hb).2
      omega
  · refine ⟨hq.bk.ch hch (fun e => hq.n2 e), hq.ge, hq.n1, fun e => ?_⟩
    rcases h4 with h4 | h4
    · rw [h4] at e; exact hq.n2 e
    · rw [h4] at e
      injection e with e
      have := hq.bk.lt
      omega
/-- A cell of the class's own block is written. -/
theorem ClM.set (h : ClM W gp rb B w nt x1 x2 n1 n2 l1 l2 l) (i : Nat) (u : Value) : ClM (W.setCell ⟨gp, i, none⟩ u) gp rb B w nt x1 x2 n1 n2 l1 l2 l := by
  have hch : Ch (fun i => i = gp) W (W.setCell ⟨gp, i, none⟩ u) := (Ch.refl (fun i => i = gp) W).set (p := ⟨gp, i, none⟩) (.inl rfl) u
  have hgpg := h.gp_ge
  have hrl := h.rb_lt
  have hz := h.ch.size
  have hbB := h.bB
  exact ⟨own_ch h.o1 hch (fun i hi e => by have := (h.o1.lt i hi).1; omega), own_ch h.o2 hch (fun i hi e => by have := (h.o2.lt i hi).1; omega), h.ap, h.ch.set (p := ⟨gp, i, none⟩) (.inr hgpg) u, h.rd.ch hch (by omega) (by omega) (fun i hi => by omega), h.gp_ge, by have := h.gp_lt; simpa using this, h.rb_lt, h.bB, h.bR⟩
end
/-- The reader alone has moved. -/
theorem ClM.ch' {W W' : World} {gp rb B n1 n2 : Nat} {w : World} {nt : Bool} {x1 x2 : Value} {l1 l2 l l' : List Int} (h : ClM W gp rb B w nt x1 x2 n1 n2 l1 l2 l) (c : Ch (fun i => i = rb) W W') (hr : GRd W' rb B l') : ClM W' gp rb B w nt x1 x2 n1 n2 l1 l2 l' := by
  have hgpg := h.gp_ge
  have hrl := h.rb_lt
  exact ⟨own_ch h.o1 c (fun i hi e => by have := (h.o1.lt i hi).1; omega), own_ch h.o2 c (fun i hi e => by have := (h.o2.lt i hi).1; omega), h.ap, h.ch.trans c (fun i hi => .inl hi), hr, hgpg, by have := c.size; have := h.gp_lt; omega, hrl, h.bB, h.bR⟩
theorem isR_two (c : Int) : ∀ l : List Int, ((isR c l).1 = false → (isR c l).2 = l ∧ l.head? ≠ some c) ∧ ((isR c l).1 = true → l = c :: (isR c l).2)
  | [] => ⟨fun _ => ⟨rfl, by simp⟩, fun h => by cases h⟩
  | x :: m => by
    rw [isR]
    split
    · rename_i h
      exact ⟨(fun h => by cases h), fun _ => by rw [h]⟩
    · rename_i h
      exact ⟨(fun _ => ⟨rfl, by simpa using h⟩), (fun h => by cases h)⟩
/-- Behind the loop's test: goes the class on? -/
def ClT (W : World) (gp rb B : Nat) (w : World) (nt : Bool) (x1 x2 : Value) (rs : List (Int × Int)) (l' : List Int) (bb : Bool) (l2 : List Int) : Prop :=
  ClM W gp rb B w nt x1 x2 rs.length rs.length (rs.map (·.1)) (rs.map (·.2)) l2 ∧ Bk W gp 102 #[.bool nt, x1, x2] ∧ (bb = true → l2 = l' ∧ ¬ (rs ≠ [] ∧ l'.head? = some 93)) ∧ (bb = false → rs ≠ [] ∧ l' = 93 :: l2)
/-- What class gives. -/
def ClE (w : World) (rb B : Nat) (nt : Bool) (R0 : Option (List (Int × Int) × List Int)) (e : Ending) (w' : World) : Prop :=
  Ch (fun i => i = rb) w w' ∧ match R0 with
    | none => e = .returned (.tuple #[.nilIface, .bool false])
    | some (rs, k) => ∃ v, e = .returned (.tuple #[v, .bool true]) ∧ PtO w' w.heap.size (.cls nt rs) v ∧ GRd w' rb B k
/-- The runes of a reader, as its cells. -/
theorem GRd.open {w : World} {g B : Nat} {l : List Int} (h : GRd w g B l) : ∃ A n c, w.cell? ⟨g, 0, none⟩ = some (.slice A n c) ∧ l.length = n ∧ n ≤ c ∧ n ≤ 100000 ∧ ∀ j x, l[j]? = some x → ∃ b o, A = some ⟨b, o, none⟩ ∧ w.cell? ⟨b, o + j, none⟩ = some (.int .i32 x) := by
  obtain ⟨A, n, c, hb, hr, hnc, hn⟩ := h
  have hlen : l.length = n := by have := hr.1; rw [rns_len] at this; omega
  refine ⟨A, n, c, hb.cell 0, hlen, hnc, hn, fun j x hj => ?_⟩
  obtain ⟨b, o, u, rfl, _, hu, hc⟩ := hr.at_ (k := j) (by rw [← hlen]; exact (List.getElem?_eq_some_iff.1 hj).1)
  have e : u = .int .i32 x := by simpa [rns, hj] using hu.symm
  subst e
  exact ⟨b, o, rfl, hc⟩
/-- How many runes a reader has left, read off its cell. -/
def rdLen (w : World) (g : Nat) : Nat := match w.cell? ⟨g, 0, none⟩ with
  | some (.slice _ n _) => n
  | _ => 0
theorem GRd.rdLen {w : World} {g B : Nat} {l : List Int} (h : GRd w g B l) : rdLen w g = l.length := by
  obtain ⟨A, n, c, h1, h2, _⟩ := h.open
  unfold Go.Proofs.YtbdehlphblbmoaaDoor.rdLen
  rw [h1, h2]
end Go.Proofs.YtbdehlphblbmoaaDoor
