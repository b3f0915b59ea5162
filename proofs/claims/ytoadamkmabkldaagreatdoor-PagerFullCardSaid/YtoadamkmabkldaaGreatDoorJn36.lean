/- PagerReuses: a map of marks, and pages freed and taken again, plain. -/
import Derived.Test.YtoadamkmabkldaaGreatDoorJn32
import Derived.Test.YtoadamkmabkldaaGreatDoorJn19
import Derived.Test.YtoadamkmabkldaaGreatDoorJn16
import Derived.Test.YtoadamkmabkldaaGreatDoorRows
import Derived.PinnedBridge
import Derived.Stop.LaidErr
namespace Go.Proofs.YtoadamkmabkldaaGreatDoor
open Go.RowKit Go.Shelf
open Go.Maps (Keyed)
open Go.Sort
/-- How a mark reads. -/
def blR (v : Value) : Option (DataW Unit × List MemPlace) :=
  match v with
  | .bool b => some (.lit (.bool b), [])
  | _ => none
theorem blR_inv {v : Value} {b : Bool} {ps : List MemPlace} (h : blR v = some (.lit (.bool b), ps)) : v = .bool b := by
  unfold blR at h
  split at h
  · simp at h; rw [h.1]
  · cases h
theorem zeroBl (w : World) : (zeroValue 4).run Tryz.prog w = .ok (.bool false) w := by kernel_rfl
/-- A map of marks. -/
def MapM (W : World) (m n : Nat) (f : Nat → Bool) : Prop :=
  ∃ D : DataW Unit, W.ownsMap Tryz.prog 3 blR m n D ∧ (∀ k : Nat, Maps.has D (.int .i64 (k : Int)) = f k) ∧ ∀ k : Nat, f k = true → ∀ z, D.atKey (.int .i64 (k : Int)) z = .lit (.bool true)
section
variable {w w' : World} {m n : Nat} {f : Nat → Bool}
theorem MapM.new (w : World) : MapM (w.alloc (.map #[] 0)) w.heap.size 0 (fun _ => false) := ⟨.map [], World.ownsMap_made _ _ _ _, fun _ => rfl, fun _ h => (by cases h)⟩
theorem MapM.lt (h : MapM w m n f) : m < w.heap.size := by obtain ⟨D, h1, _⟩ := h; exact h1.lt
theorem MapM.heap (h : MapM w m n f) (hw : w'.heap[m]? = w.heap[m]?) : MapM w' m n f := by
  obtain ⟨D, ⟨es, cl, hb, r⟩, h2⟩ := h; exact ⟨D, ⟨es, cl, hw.trans hb, r⟩, h2⟩
theorem MapM.ne {b : Nat} {cs : Array Value} {t : TypeId} (h : MapM w m n f) (hg : Bk w b t cs) : m ≠ b := by
  obtain ⟨D, ⟨es, cl, hb, _⟩, _⟩ := h
  rintro rfl
  unfold Bk at hg
  rw [hb] at hg; cases hg
theorem MapM.look (h : MapM w m n f) {k : Nat} (hk : k ≤ 9223372036854775807) :
    (Instr.lookup 34 (.map (some m)) (.int .i64 (k : Int)) false).run Tryz.prog w = .ok (.bool (f k)) w := by
  obtain ⟨D, h1, h2, h3⟩ := h
  obtain ⟨v, ps, hrun, hv⟩ := h1.lookup lawI Tryz.underlying34 (zeroBl w) (zd := .lit (.bool false)) (zp := []) rfl (wfI hk)
  rw [hrun]
  cases hf : f k with
  | false =>
    have h4 := h2 k
    rw [hf] at h4
    rw [Maps.atKey_of_not_has h4] at hv
    rw [blR_inv hv]
  | true =>
    rw [h3 _ hf] at hv
    rw [blR_inv hv]
theorem MapM.put (h : MapM w m n f) {k : Nat} (hk : k ≤ 9223372036854775807) (hn : n ≤ 1000000) :
    ∃ w', (Instr.mapUpdate 34 (.map (some m)) (.int .i64 (k : Int)) (.bool true)).run Tryz.prog w = .ok () w' ∧ MapM w' m (n + 1) (fun x => if x = k then true else f x) ∧ w.grownBy w' (some m) := by
  obtain ⟨D, h1, h2, h3⟩ := h
  obtain ⟨w', hrun, h5, h6⟩ := h1.update lawI Tryz.underlying34 (Nat.lt_of_le_of_lt hn (by unfold maxLen; decide)) (wfI hk) (show blR (.bool true) = some (.lit (.bool true), []) from rfl)
  have hlit := lawI.key (wfI hk)
  have hM : Maps.IsMap D := h1.isMap
  refine ⟨w', hrun, ⟨_, h5, fun x => ?_, fun x hv z => ?_⟩, h6⟩
  · dsimp only
    by_cases hx : x = k
    · rw [if_pos hx, hx]; exact Maps.has_put_same hM hlit _
    · rw [if_neg hx, Maps.has_put_other (lit_ne hx)]; exact h2 x
  · dsimp only at hv
    by_cases hx : x = k
    · rw [hx]; exact Maps.atKey_put_same hM hlit _ _
    · rw [if_neg hx] at hv; rw [Maps.atKey_put_other (lit_ne hx)]; exact h3 x hv z
end
/-- Free pages, each of them among the changed ones. -/
def Chn (ch : List (Nat × List UInt8)) : Nat → List Nat → Prop
  | x, [] => x = 0
  | x, y :: r => x = y ∧ 1 ≤ y ∧ y < 65536 ∧ ∃ n, ch.lookup y = some (frB n) ∧ n ≤ 65536 ∧ Chn ch n r
theorem Chn.put {ch : List (Nat × List UInt8)} (hs : ch.Pairwise fun p q => p.1 < q.1) {k : Nat} {b : List UInt8} : ∀ {F : List Nat} {x : Nat}, Chn ch x F → k ∉ F → Chn (putK k b ch) x F
  | [], _, h, _ => h
  | y :: r, _, ⟨h1, h2, h3, n, h4, h5, h6⟩, hk => ⟨h1, h2, h3, n, by
      rw [lookup_putK _ _ _ _ hs, if_neg (show ¬ y = k from fun e => hk (by rw [e]; exact List.mem_cons_self ..))]; exact h4, h5, h6.put hs (fun e => hk (List.mem_cons_of_mem _ e))⟩
theorem Chn.le {ch : List (Nat × List UInt8)} {x : Nat} {F : List Nat} (h : Chn ch x F) : x ≤ 65536 := by
  cases F with
  | nil => have : x = 0 := h; omega
  | cons y r => have := h.1; have := h.2.2.1; omega
structure RuI (P : PgP) (m : Nat) (F : List Nat) : Prop where
  ok : P.Ok
  dead : P.dead = false
  many : P.now.many = m
  reads : P.reads ≤ 0
  chn : Chn P.ch P.now.free F
  nd : F.Nodup
theorem RuI.new {P : PgP} {m : Nat} (h : RuI P m []) (h1 : 1 ≤ m) (hm : m < 65536) : RuI { P with now := { P.now with many := P.now.many + 1 }, ch := putK P.now.many (List.replicate 508 0) P.ch } (m + 1) [] :=
  ⟨h.ok.put (by rw [h.many]; exact h1) (by rw [h.many]; exact hm) List.length_replicate _, h.dead, by show P.now.many + 1 = _; rw [h.many], h.reads, h.chn, List.nodup_nil⟩
theorem RuI.free {P : PgP} {m no : Nat} {F : List Nat} (h : RuI P m F) (h1 : 1 ≤ no) (h2 : no < m) (hm : m ≤ 65536) (hn : no ∉ F) : RuI { P with now := { P.now with free := no }, ch := putK no (frB P.now.free) P.ch } m (no :: F) :=
  ⟨h.ok.put h1 (by omega) (frB_len _) _, h.dead, h.many, h.reads, ⟨rfl, h1, by omega, P.now.free, by rw [lookup_putK _ _ _ _ h.ok.srt, if_pos rfl], h.chn.le, h.chn.put h.ok.srt hn⟩, List.nodup_cons.2 ⟨hn, h.nd⟩⟩
theorem RuI.take {P : PgP} {m x n : Nat} {F : List Nat} (h : RuI P m (x :: F)) (hl : P.ch.lookup x = some (frB n)) (hc : Chn P.ch n F) : RuI { P with now := { P.now with free := n }, ch := putK x (List.replicate 508 0) P.ch } m F := by
  obtain ⟨_, h1, h2, _⟩ := h.chn
  exact ⟨h.ok.put h1 h2 List.length_replicate _, h.dead, h.many, h.reads, hc.put h.ok.srt (List.nodup_cons.1 h.nd).1, (List.nodup_cons.1 h.nd).2⟩
theorem RuI.fst : RuI pgN 1 [] := ⟨pgN_ok, rfl, rfl, Nat.le_refl _, rfl, List.nodup_nil⟩
section
variable {w W : World} {O1 O2 : Nat → Prop} {f p : Nat} {S : FsP} {P : PgP} {m : Nat} {F : List Nat}
/-- .. after a call of the pager. -/
def RuX (w W w' : World) (O1 O2 : Nat → Prop) (f p m : Nat) (F : List Nat) (S : FsP) : Prop := ∃ P, PwX w W w' O1 O2 f p xS P S ∧ RuI P m F
theorem ru_new (h : Pw w W O1 O2 f p xS P S) (hI : RuI P m []) (h1 : 1 ≤ m) (hm : m < 65536) : Calls Tryz.prog 12 #[.pointer (some ⟨p, 0, none⟩)] W fun e w' => e = .returned (.tuple #[.int .i64 (m : Int), .int .i64 0]) ∧ RuX w W w' O1 O2 f p (m + 1) [] S := by
  refine (alloc_at0 f p O2 xS P W h.pg hI.ok hI.dead hI.chn (by rw [hI.many]; exact hm)).mono ?_
  rintro e w' ⟨rfl, k1, k2⟩
  exact ⟨by rw [hI.many], _, h.pager k1 k2, hI.new h1 hm⟩
theorem ru_free (h : Pw w W O1 O2 f p xS P S) (hI : RuI P m F) {no : Nat} (h1 : 1 ≤ no) (h2 : no < m) (hm : m ≤ 65536) (hn : no ∉ F) : Calls Tryz.prog 17 #[.pointer (some ⟨p, 0, none⟩), .int .i64 (no : Int)] W fun e w' => e = .returned (.int .i64 0) ∧ RuX w W w' O1 O2 f p m (no :: F) S := by
  refine (free_any f p no O2 xS P W h.pg hI.ok hI.dead h1 (by rw [hI.many]; exact h2) (by rw [hI.many]; exact hm)).mono ?_
  rintro e w' ⟨rfl, k1, k2⟩
  exact ⟨rfl, _, h.pager k1 k2, hI.free h1 h2 hm hn⟩
theorem ru_take {x : Nat} (h : Pw w W O1 O2 f p xS P S) (hI : RuI P m (x :: F)) : Calls Tryz.prog 12 #[.pointer (some ⟨p, 0, none⟩)] W fun e w' => e = .returned (.tuple #[.int .i64 (x : Int), .int .i64 0]) ∧ RuX w W w' O1 O2 f p m F S := by
  obtain ⟨c1, c2, c3, n, c4, c5, c6⟩ := hI.chn
  have hR : pgR P x [] = P := by unfold pgR; rw [c4]; rfl
  have := alloc_at f p x n O1 O2 S xS P [] W h.pg h.fs (by decide) hI.ok hI.dead c1 c2 c3 (by have := hI.reads; omega) (fun e => by rw [c4] at e; cases e) (by unfold contB; rw [c4]) c5
  rw [hR] at this
  refine this.mono ?_
  rintro e w' ⟨rfl, k1, k2⟩
  exact ⟨rfl, _, h.pager k1 k2, hI.take c4 c6⟩
end
end Go.Proofs.YtoadamkmabkldaaGreatDoor
/- PagerReuses: pages freed come back, the last first. -/
namespace Go.Proofs.YtoadamkmabkldaaGreatDoor
open Go.RowKit Go.Shelf
attribute [local go_sem ↓] Go.wp_at_zero Go.wp_at_succ
theorem pagerReuses_laid (W : World) (_ : laidMet Tryz.prog Rows.pagerReusesRow.laid W) : True := trivial
set_option maxRecDepth 100000 in
theorem op_putM {w : World} {ops : Array Oper} {rest : List Oper} {a : Act} {Q : Exit → Act → World → Prop} {d : Option Tmp} {ty : TypeId} {pos : String} {af : Array Edge} {g : Option (Nat × Bool)} {x y z : Operand}
    {m n k : Nat} {f : Nat → Bool} (h : MapM w m n f) (hk : k ≤ 9223372036854775807) (hn : n ≤ 1000000) (hm : a.eval x = .map (some m)) (hs : a.eval y = .int .i64 (k : Int)) (hb : a.eval z = .bool true)
    (hw : Region.wanted { dst := d, op := .mapUpdate 34 x y z, type := ty, pos := pos, after := af, guard := g } (yielded ops a.tmps) = true)
    (hK : ∀ w', MapM w' m (n + 1) (fun x => if x = k then true else f x) → w.grownBy w' (some m) → wpList Tryz.prog ops Q rest (a.put d undef) w') :
    wpList Tryz.prog ops Q ({ dst := d, op := .mapUpdate 34 x y z, type := ty, pos := pos, after := af, guard := g } :: rest) a w :=
  BigFrame.wpList_want hw fun _ hK' => by
    obtain ⟨w', hrun, h1, h2⟩ := h.put hk hn
    unfold Oper.wp execOp
    simp only [hm, hs, hb, Sem.run_bind, hrun, Result.andThen_ok, Sem.run_pure]
    exact hK' _ _ (hK w' h1 h2)
section
variable {w W W' : World} {O1 O2 : Nat → Prop} {f p : Nat} {nm : ByteArray} {S : FsP} {P : PgP} {m : Nat} {F : List Nat}
/-- Other blocks were touched. -/
theorem Pw.keep (h : Pw w W O1 O2 f p nm P S) {T : Nat → Prop} (hc : Ch T W W') (hT : ∀ i, T i → i < W.heap.size → ¬ O1 i ∧ ¬ O2 i ∧ w.heap.size ≤ i) : Pw w W' O1 O2 f p nm P S := by
  have hz := hc.size
  have hc2 : Ch (fun i => T i ∧ i < W.heap.size) W W' := ⟨hc.os, hc.tape, hc.output, hc.size, fun i hi hn => hc.block i hi (fun e => hn ⟨e, hi⟩)⟩
  exact ⟨h.fs.ch hc2 (fun i hi e => (hT i e.1 e.2).1 hi), h.pg.heap hz (fun i hi hl => hc.block i hl (fun e => (hT i e hl).2.1 hi)), fun i hi => ⟨(h.l1 i hi).1, by have := (h.l1 i hi).2; omega⟩, fun i hi => ⟨(h.l2 i hi).1, by have := (h.l2 i hi).2; omega⟩, h.ne, h.bl.trans (hc2.below h.bl.size (fun i hi => (hT i hi.1 hi.2).2.2))⟩
theorem ru_open (hF : Fs w.heap.size W f (newP 9000)) (hb : Below w.heap.size w W) : Calls Tryz.prog 11 #[.pointer (some ⟨f, 0, none⟩), .string xS] W fun e w' => ∃ p O1 O2 S, e = .returned (.tuple #[.pointer (some ⟨p, 0, none⟩), .int .i64 0]) ∧ Hid (Pw w w' O1 O2 f p xS pgN S) := by
  refine (open_new 9000 f _ w W hF (fun i hi => hi) hb).mono ?_
  rintro e w' (⟨_, p, O1, O2, S, h1, h2, _⟩ | ⟨h1, _⟩)
  · exact ⟨p, O1, O2, S, h1, Lib.hid h2⟩
  · exact absurd h1 (by decide)
/-- A pager, pages freed in the row l, marked in the map mm. -/
structure RuJ (w W : World) (f p mm n : Nat) (v : Value) (l : List Nat) (m : Nat) (F : List Nat) : Prop where
  ex : ∃ O1 O2 P S, Pw w W O1 O2 f p xS P S ∧ RuI P m F ∧ ¬ O1 mm ∧ ¬ O2 mm ∧ ∀ b, v.ownBlock = some b → ¬ O1 b ∧ ¬ O2 b
  row : QuN W 0 v l
  rb : ∀ b, v.ownBlock = some b → w.heap.size ≤ b ∧ b ≠ mm
  mp : MapM W mm n (fun k => decide (k ∈ l))
  mb : w.heap.size ≤ mm
/-- .. behind a call of the pager. -/
theorem RuX.next {mm n : Nat} {v : Value} {l : List Nat} {m' : Nat} {F' : List Nat} (hX : RuX w W W' O1 O2 f p m' F' S) (h : RuJ w W f p mm n v l m F) (h1 : ¬ O1 mm) (h2 : ¬ O2 mm) (h3 : ∀ b, v.ownBlock = some b → ¬ O1 b ∧ ¬ O2 b) : RuJ w W' f p mm n v l m' F' := by
  obtain ⟨P, ⟨O3, O4, k1, k2, k3, k4⟩, k5⟩ := hX
  have hl := h.mp.lt
  refine ⟨⟨O3, O4, P, S, k1, k5, fun e => ?_, fun e => ?_, fun b hb => ⟨fun e => ?_, fun e => ?_⟩⟩, h.row.heap k4.size (fun k hk hl2 => k4.block k hl2 (fun e => ?_)), h.rb, h.mp.heap (k4.block _ hl (fun e => ?_)), h.mb⟩
  · rcases k2 _ e with e | e
    · exact h1 e
    · omega
  · rcases k3 _ e with e | e
    · exact h2 e
    · omega
  · rcases k2 _ e with e | e
    · exact (h3 b hb).1 e
    · have := h.row.lt b hb; omega
  · rcases k3 _ e with e | e
    · exact (h3 b hb).2 e
    · have := h.row.lt b hb; omega
  · rcases e with e | e
    · exact (h3 k hk).1 e
    · exact (h3 k hk).2 e
  · rcases e with e | e
    · exact h1 e
    · exact h2 e
theorem j_free {mm n : Nat} {v : Value} {l : List Nat} (h : RuJ w W f p mm n v l m F) {no : Nat} (h1 : 1 ≤ no) (h2 : no < m) (hm : m ≤ 65536) (hn : no ∉ F) : Calls Tryz.prog 17 #[.pointer (some ⟨p, 0, none⟩), .int .i64 (no : Int)] W fun e w' => e = .returned (.int .i64 0) ∧ RuJ w w' f p mm n v l m (no :: F) := by
  obtain ⟨O1, O2, P, S, k1, k2, k3, k4, k5⟩ := h.ex
  refine (ru_free k1 k2 h1 h2 hm hn).mono ?_
  rintro e w' ⟨rfl, hX⟩
  exact ⟨rfl, hX.next h k3 k4 k5⟩
theorem j_take {mm n x : Nat} {v : Value} {l : List Nat} (h : RuJ w W f p mm n v l m (x :: F)) : Calls Tryz.prog 12 #[.pointer (some ⟨p, 0, none⟩)] W fun e w' => e = .returned (.tuple #[.int .i64 (x : Int), .int .i64 0]) ∧ RuJ w w' f p mm n v l m F := by
  obtain ⟨O1, O2, P, S, k1, k2, k3, k4, k5⟩ := h.ex
  refine (ru_take k1 k2).mono ?_
  rintro e w' ⟨rfl, hX⟩
  exact ⟨rfl, hX.next h k3 k4 k5⟩
theorem j_new {mm n : Nat} {v : Value} {l : List Nat} (h : RuJ w W f p mm n v l m []) (h1 : 1 ≤ m) (hm : m < 65536) : Calls Tryz.prog 12 #[.pointer (some ⟨p, 0, none⟩)] W fun e w' => e = .returned (.tuple #[.int .i64 (m : Int), .int .i64 0]) ∧ RuJ w w' f p mm n v l (m + 1) [] := by
  obtain ⟨O1, O2, P, S, k1, k2, k3, k4, k5⟩ := h.ex
  refine (ru_new k1 k2 h1 hm).mono ?_
  rintro e w' ⟨rfl, hX⟩
  exact ⟨rfl, hX.next h k3 k4 k5⟩
theorem j_many {mm n : Nat} {v : Value} {l : List Nat} (h : RuJ w W f p mm n v l m F) : Calls Tryz.prog 18 #[.pointer (some ⟨p, 0, none⟩)] W fun e w' => e = .returned (.int .i64 (m : Int)) ∧ w' = W := by
  obtain ⟨O1, O2, P, S, k1, k2, _⟩ := h.ex
  obtain ⟨m1, m2, _, _, _, hM, _⟩ := k1.pg
  exact many_any p m W (by have := hM.hd.cell 26; rw [← k2.dead]; exact this) (by have := hM.hd.cell 2; rw [← k2.many]; exact this)
theorem j_low {mm n : Nat} {v : Value} {l : List Nat} (h : RuJ w W f p mm n v l m F) : Below w.heap.size w W := by
  obtain ⟨O1, O2, P, S, k1, _⟩ := h.ex
  exact k1.bl
/-- The pager before there is a row. -/
def RuK (w W : World) (f p m : Nat) : Prop := ∃ O1 O2 P S, Pw w W O1 O2 f p xS P S ∧ RuI P m []
theorem k_new (h : RuK w W f p m) (h1 : 1 ≤ m) (hm : m < 65536) : Calls Tryz.prog 12 #[.pointer (some ⟨p, 0, none⟩)] W fun e w' => e = .returned (.tuple #[.int .i64 (m : Int), .int .i64 0]) ∧ RuK w w' f p (m + 1) := by
  obtain ⟨O1, O2, P, S, k1, k2⟩ := h
  refine (ru_new k1 k2 h1 hm).mono ?_
  rintro e w' ⟨rfl, P, ⟨O3, O4, k1, _⟩, k5⟩
  exact ⟨rfl, O3, O4, P, S, k1, k5⟩
theorem RuK.start (h : RuK w W f p m) : RuJ w (W.alloc (.map #[] 0)) f p W.heap.size 0 (.slice none 0 0) [] m [] := by
  obtain ⟨O1, O2, P, S, k1, k2⟩ := h
  refine ⟨⟨O1, O2, P, S, k1.keep (T := fun _ => False) ((Ch.refl _ _).alloc _) (fun i h => h.elim), k2, fun e => ?_, fun e => ?_, fun b hb => (by cases hb)⟩, .inl ⟨rfl, rfl⟩, fun b hb => (by cases hb), ?_, k1.bl.size⟩
  · have := (k1.l1 _ e).2; omega
  · have := (k1.l2 _ e).2; omega
  · have := MapM.new W
    simpa using this
end
theorem QuN.cell {w : World} {A : Option Addr} {k c j x : Nat} {q : List Nat} (h : QuN w 0 (.slice A k c) q) (hj : q[j]? = some x) : ∃ g o, A = some ⟨g, o, none⟩ ∧ w.cell? ⟨g, o + j, none⟩ = some (.int .i64 (x : Int)) := by
  have hjl := (List.getElem?_eq_some_iff.1 hj).1
  rcases h with ⟨_, rfl⟩ | ⟨A', n', c', hv, _, hn, hnc, _, hc⟩
  · simp at hj
  · injection hv with e1 e2 e3
    subst e1 e2 e3
    rcases hc with rfl | ⟨g, o, cs, rfl, _, hb, _, ht⟩
    · omega
    · refine ⟨g, o, rfl, ?_⟩
      have h1 := congrArg (fun l => l[j]?) ht
      have h1 : ((cs.toList.drop o).take _)[j]? = (nIt q)[j]? := h1
      rw [List.getElem?_take, if_pos (by omega), List.getElem?_drop, Array.getElem?_toList] at h1
      rw [hb.cell, h1]
      simp [nIt, natI, its, hj]
/-- Another number marked, and in the row. -/
theorem RuJ.push {w W W1 W2 : World} {f p mm q m x : Nat} {v v2 : Value} {row F : List Nat} {o : Obj} (h : RuJ w W f p mm q v row m F) (m1 : MapM W1 mm (q + 1) (fun k => if k = x then true else decide (k ∈ row))) (g1 : W.grownBy W1 (some mm))
    (q2 : QuN W2 0 v2 (row ++ [x])) (g2 : ∃ r, (W1.alloc o).grownBy W2 r ∧ ∀ b, r = some b → v.ownBlock = some b) (x2 : ∀ i, v2.ownBlock = some i → v.ownBlock = some i ∨ (W1.alloc o).heap.size ≤ i) : RuJ w W2 f p mm (q + 1) v2 (row ++ [x]) m F := by
  obtain ⟨O1, O2, P, S, k1, k2, k3, k4, k5⟩ := h.ex
  obtain ⟨r, g3, hr⟩ := g2
  have hc1 : Ch (fun i => i = mm ∨ v.ownBlock = some i) W (W1.alloc o) := ((Ch.refl _ W).grown g1 (fun i e => by injection e with e; exact .inl (.inl e.symm))).alloc o
  have hc : Ch (fun i => i = mm ∨ v.ownBlock = some i) W W2 := hc1.grown g3 (fun i e => .inl (.inr (hr i e)))
  have hbl := k1.bl.size
  have hz1 : W.heap.size ≤ (W1.alloc o).heap.size := hc1.size
  have hz2 := g3.size
  have hmm := h.mp.lt
  have hvm : ∀ b, v.ownBlock = some b → b ≠ mm := fun b hb => (h.rb b hb).2
  refine ⟨⟨O1, O2, P, S, k1.keep hc (fun i hi hl => ?_), k2, k3, k4, fun b hb => ?_⟩, q2, fun b hb => ?_, ?_, h.mb⟩
  · rcases hi with rfl | hi
    · exact ⟨k3, k4, h.mb⟩
    · exact ⟨(k5 i hi).1, (k5 i hi).2, (h.rb i hi).1⟩
  · rcases x2 b hb with e | e
    · exact k5 b e
    · exact ⟨fun e2 => by have := (k1.l1 b e2).2; omega, fun e2 => by have := (k1.l2 b e2).2; omega⟩
  · rcases x2 b hb with e | e
    · exact h.rb b e
    · exact ⟨by omega, by omega⟩
  · have hm1 : mm < W1.heap.size := m1.lt
    have h2 : MapM W2 mm (q + 1) (fun k => if k = x then true else decide (k ∈ row)) := m1.heap (by
      rw [g3.block mm (by simp; omega) (fun e => hvm mm (hr mm e.symm) rfl)]
      exact Below.heap_alloc W1 o mm hm1)
    have e : (fun k => if k = x then true else decide (k ∈ row)) = fun k => decide (k ∈ row ++ [x]) := by
      funext k
      by_cases hk : k = x
      · subst hk; simp
      · simp [hk]
    rw [e] at h2
    exact h2
/-- The loop's memory. -/
def RuV (w W : World) (f p mm q : Nat) (A2 : Option Addr) (c2 k i : Nat) (row : List Nat) : Prop :=
  row.length = k ∧ k ≤ i ∧ q ≤ i ∧ RuJ w W f p mm q (.slice A2 k c2) row 11 row.reverse
set_option maxHeartbeats 4000000 in
set_option maxRecDepth 100000 in
theorem pagerReuses_walk (A : Option Addr) (n c : Nat) (l : List UInt8) (w : World) (hr : Rd w w.heap.size 1 A n (bys l)) (hnc : n ≤ c) (hcm : c ≤ maxLen) (_ : True) :
    Calls Tryz.prog 4 #[.slice A n c] w fun e w' => e = .returned (.bool true) ∧ Below w.heap.size w w' := by
  rename_i hT
  clear hT
  have hlen := hr.blen
  have HW := Lib.hid (pwakes_any w)
  by_cases h30 : 30 < n
  · have hi : (30 : Int) < (n : Int) := by omega
    clear h30 hlen hr hnc hcm
    go_enter Tryz.func4, Tryz.ntmps4
    go_wp2_with fail
    with_reducible refine HW.out.mono ?_
    rintro e w1 ⟨rfl, b1⟩
    have B1 := Lib.hid b1
    clear b1
    go_wp2_with fail
    go_ret
    exact ⟨rfl, B1.out⟩
  · have hi : ¬ (30 : Int) < (n : Int) := by omega
    have HL := Lib.hid (And.intro hr hlen)
    have hn30 : n ≤ 30 := by omega
    clear h30 hlen hr hnc hcm
    go_enter Tryz.func4, Tryz.ntmps4
    go_wp2_with fail
    with_reducible refine HW.out.mono ?_
    rintro e w0 ⟨rfl, b0⟩
    have B0 := Lib.hid b0
    have HN := Lib.hid (new_fs 9000 w0)
    clear b0 HW
    go_wp2_with fail
    with_reducible refine HN.out.mono ?_
    rintro e w1 ⟨f, rfl, h1, b1⟩
    have HO := Lib.hid (ru_open h1 b1)
    clear h1 b1 HN
    go_wp2_with fail
    with_reducible refine HO.out.mono ?_
    rintro e w2 ⟨p, O1, O2, S, rfl, H2⟩
    have HK := Lib.hid (show RuK w0 w2 f p (0 + 1) from ⟨O1, O2, _, S, H2.out, .fst⟩)
    clear H2 HO hi
    go_wp2_with fail
    go_loopw [26] (fun s26 wr => ∃ i : Nat, s26 = .int .i64 (i : Int) ∧ i ≤ 10 ∧ Hid (RuK w0 wr f p (i + 1))) (fun s26 _ => 10 - (intOf s26).toNat)
    case atStart => exact ⟨0, rfl, by omega, HK⟩
    case round =>
      obtain ⟨i, rfl, hi10, HI⟩ := hrel
      by_cases hlt : i < 10
      · have HA := Lib.hid (k_new HI.out (by omega) (by omega))
        have hlt2 : (i : Int) < 10 := by omega
        go_wp2_with fail
        with_reducible refine HA.out.mono ?_
        rintro e w4 ⟨rfl, h4⟩
        have H4 := Lib.hid h4
        clear h4 HA
        go_wp2_with fail
        go_roundw
        case rel => exact ⟨i + 1, rfl, by omega, H4⟩
        case measure => simp [intOf]; omega
      · obtain rfl : i = 10 := by omega
        obtain ⟨w5, hw5⟩ : ∃ w5, w5 = wr := ⟨_, rfl⟩
        subst hw5
        have HJ := Lib.hid HI.out.start
        clear HK HI hlt hi10
        have mkm : ∀ W : World, (Instr.makeMap 34 none).run Tryz.prog W = .ok (.map (some W.heap.size)) (W.alloc (.map #[] 0)) := fun W => by kernel_rfl
        go_wp2_with fail
        clear mkm
        go_loopw [5, 34] (fun s5 s34 wr => ∃ (i k q : Nat) (A2 : Option Addr) (c2 : Nat) (row : List Nat), s34 = .int .i64 (i : Int) ∧ i ≤ n ∧ s5 = .slice A2 k c2 ∧ Hid (RuV w0 wr f p w5.heap.size q A2 c2 k i row)) (fun _ s34 _ => n - (intOf s34).toNat)
        case atStart => exact ⟨0, 0, 0, none, 0, [], rfl, Nat.zero_le _, rfl, Lib.hid ⟨rfl, Nat.le_refl _, Nat.le_refl _, HJ.out⟩⟩
        case round =>
          obtain ⟨i, k, q, A2, c2, row, rfl, hin, rfl, HI⟩ := hrel
          by_cases hlt : i < n
          · obtain ⟨b, o, u, rfl, hb, hu, hu256, hcell⟩ := (HL.out.1.below (B0.out.trans ((j_low HI.out.2.2.2).mono B0.out.size)) (Nat.le_refl _)).byte hlt
            have hN : 1 ≤ 1 + u.toNat % 10 ∧ 1 + u.toNat % 10 < 11 := by omega
            have e1 : ((u.toNat : Nat) : Int).tmod 10 = ((u.toNat % 10 : Nat) : Int) := by rw [Int.tmod_eq_emod_of_nonneg (by omega)]; omega
            obtain ⟨M, hM⟩ : ∃ M, M = u.toNat % 10 := ⟨_, rfl⟩
            rw [← hM] at e1 hN
            have e2 : 1 + (M : Int) = ((1 + M : Nat) : Int) := by omega
            obtain ⟨N, hNN⟩ : ∃ N, N = 1 + M := ⟨_, rfl⟩
            rw [← hNN] at e2 hN
            have hN0 := hN.1
            have hN1 := hN.2
            have hM10 : M < 10 := by omega
            have hlk := HI.out.2.2.2.mp.look (k := N) (by omega)
            have hlt2 : (i : Int) < (n : Int) := by omega
            by_cases hmet : N ∈ row
            · rw [show (decide (N ∈ row)) = true from by simpa using hmet] at hlk
              clear hM hN hb hu hmet hNN
              go_wp2_with fail
              go_roundw
              case rel => exact ⟨i + 1, k, q, A2, c2, row, rfl, by omega, rfl, Lib.hid ⟨HI.out.1, by have := HI.out.2.1; omega, by have := HI.out.2.2.1; omega, HI.out.2.2.2⟩⟩
              case measure => simp [intOf]; omega
            · rw [show (decide (N ∈ row)) = false from by simpa using hmet] at hlk
              have HM := Lib.hid HI.out.2.2.2.mp
              have hq30 : q ≤ 30 := by have := HI.out.2.2.1; omega
              clear hM hN hb hu hNN
              have HP := Lib.hid (fun (W1 W2 : World) (o : Obj) (v2 : Value) m1 g1 q2 g2 x2 => HI.out.2.2.2.push (x := N) (W1 := W1) (W2 := W2) (o := o) (v2 := v2) m1 g1 q2 g2 x2)
              have hmetH := Lib.hid hmet
              clear hmet
              have HQ := Lib.hid (fun W1 (g1 : wr.grownBy W1 (some w5.heap.size)) => show QuN (W1.alloc (.cells #[.int .i64 (N : Int)] 3)) 0 (.slice A2 k c2) row from
                (HI.out.2.2.2.row.heap g1.size (fun b hb hl => g1.block b hl (fun e => by injection e with e; exact (HI.out.2.2.2.rb b hb).2 e))).heap (by simp) (fun b hb hl => Below.heap_alloc W1 _ b hl))
              have HK := Lib.hid (And.intro HI.out.1 HI.out.2.1)
              go_wp2_with (first
                | (with_reducible refine at_mapUpdI ?_; go_loud ((apply op_putM (k := N) HM.out (by omega) (by omega)); (case hm => kernel_rfl); (case hs => kernel_rfl); (case hb => kernel_rfl); (case hw => kernel_rfl); intro w6 m6 g6; have r6 := HQ.out w6 g6; replace r6 := Lib.hid r6; replace m6 := Lib.hid m6; replace g6 := Lib.hid g6; try go_frame))
                | (with_reducible refine at_append ?_; go_loud ((apply ap_quN (b := w6.heap.size) (c1 := 1) r6.out N (hy := Bk.new w6 3 _) (hbase := Nat.zero_le _) (hq := by have := HK.out.1; have := HK.out.2; omega)); (case hs => kernel_rfl); (case hx => kernel_rfl); (case hw => kernel_rfl); intro v2 w7 q7 g7 x7; have HJ7 := HP.out w6 w7 _ v2 m6.out g6.out q7 g7 x7; obtain ⟨A3, c3, hv3, _, _⟩ := q7.form; rw [List.length_append, List.length_singleton, HK.out.1] at hv3; clear q7 g7 x7; subst hv3; replace HJ7 := Lib.hid HJ7; have HFr := Lib.hid (j_free HJ7.out hN0 hN1 (by omega) (by simpa using hmetH.out)); try go_frame)))
              with_reducible refine HFr.out.mono ?_
              rintro e w8 ⟨rfl, h8⟩
              have H8 := Lib.hid h8
              clear h8
              go_wp2_with fail
              go_roundw
              have H9 : RuV w0 w8 f p w5.heap.size (q + 1) A3 c3 (k + 1) (i + 1) (row ++ [N]) := ⟨by simp [HK.out.1], by have := HK.out.2; omega, by have := HI.out.2.2.1; omega, by rw [List.reverse_append]; exact H8.out⟩
              case rel => first | exact ⟨i + 1, k + 1, q + 1, A3, c3, row ++ [N], rfl, by omega, rfl, Lib.hid H9⟩ | ((repeat apply Exists.intro); exact ⟨⟨i + 1, k + 1, q + 1, A3, c3, row ++ [N], rfl, by omega, rfl, Lib.hid H9⟩, rfl⟩)
              case measure => simp [intOf]; omega
          · obtain rfl : i = n := by omega
            obtain ⟨w6, hw6⟩ : ∃ w6, w6 = wr := ⟨_, rfl⟩
            subst hw6
            have hk30 : k ≤ 30 := by have := HI.out.2.1; omega
            have HV := Lib.hid (And.intro HI.out.1 HI.out.2.2.2)
            clear HI hlt hin HJ
            go_wp2_with fail
            go_loopw [10] (fun s10 wr => ∃ (j : Nat) (z : Int), s10 = .int .i64 z ∧ z + 1 = (j : Int) ∧ j ≤ k ∧ Hid (RuJ w0 wr f p w5.heap.size q (.slice A2 k c2) row 11 (row.take j).reverse)) (fun s10 _ => (intOf s10 + 1).toNat)
            case atStart => exact ⟨k, _, rfl, by omega, Nat.le_refl _, Lib.hid (by rw [List.take_of_length_le (by have := HV.out.1; omega)]; exact HV.out.2)⟩
            case round =>
              obtain ⟨j, z, rfl, hzj, hjk, HI⟩ := hrel
              cases j with
              | zero =>
                obtain rfl : z = -1 := by omega
                have HA := Lib.hid (j_new (by simpa using HI.out) (by omega) (by omega))
                go_wp2_with fail
                with_reducible refine HA.out.mono ?_
                rintro e w7 ⟨rfl, h7⟩
                have HM := Lib.hid (j_many h7)
                have HB := Lib.hid (j_low h7)
                clear h7
                go_wp2_with fail
                with_reducible refine HM.out.mono ?_
                rintro e w8 ⟨rfl, hw8⟩
                subst hw8
                go_wp2_with fail
                go_ret
                exact ⟨rfl, B0.out.trans (HB.out.mono B0.out.size)⟩
              | succ j =>
                obtain rfl : z = (j : Int) := by omega
                obtain ⟨x, hx⟩ : ∃ x, row[j]? = some x := ⟨_, List.getElem?_eq_getElem (by have := HV.out.1; omega)⟩
                have hrow : (row.take (j + 1)).reverse = x :: (row.take j).reverse := by rw [take_step hx, List.reverse_append]; rfl
                have HA := Lib.hid (j_take (by rw [← hrow]; exact HI.out))
                have hX := Lib.hid hx
                clear hx hrow
                go_wp2_with fail
                with_reducible refine HA.out.mono ?_
                rintro e w7 ⟨rfl, h7⟩
                obtain ⟨g, o2, hA2, hc7⟩ := h7.row.cell hX.out
                have H7 := Lib.hid h7
                subst hA2
                clear h7
                go_wp2_with fail
                go_roundw
                case rel => first | exact ⟨j, _, rfl, by omega, by omega, H7⟩ | ((repeat apply Exists.intro); exact ⟨⟨j, _, rfl, by omega, by omega, H7⟩, rfl⟩)
                case measure => first | (simp [intOf]; omega) | simp [intOf]
end Go.Proofs.YtoadamkmabkldaaGreatDoor
