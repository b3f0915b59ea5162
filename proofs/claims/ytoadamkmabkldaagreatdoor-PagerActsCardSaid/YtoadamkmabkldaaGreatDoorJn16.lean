/- A pager in memory. -/
import Derived.Test.YtoadamkmabkldaaGreatDoorJn15
import Derived.Test.YtoadamkmabkldaaGreatDoorJn10
import Derived.Deep.RegionHeld3
import Derived.Deep.AppendLies
set_option linter.unusedVariables false
set_option linter.unusedSimpArgs false
namespace Go.Proofs.YtoadamkmabkldaaGreatDoor
open Go.RowKit
open Go.Sort
attribute [local go_sem ↓] Go.wp_at_zero Go.wp_at_succ

/-- Another value at a number, the numbers in order. -/
def putK (k : Nat) (b : List UInt8) : List (Nat × List UInt8) → List (Nat × List UInt8)
  | [] => [(k, b)]
  | (j, c) :: r => if k < j then (k, b) :: (j, c) :: r else if k = j then (k, b) :: r else (j, c) :: putK k b r
theorem lookup_putK (k : Nat) (b : List UInt8) (x : Nat) : ∀ l : List (Nat × List UInt8), l.Pairwise (fun p q => p.1 < q.1) → (putK k b l).lookup x = if x = k then some b else l.lookup x
  | [], _ => by
    unfold putK
    rw [List.lookup_cons]
    by_cases h : x = k
    · subst h; simp
    · rw [if_neg h, show (x == k) = false by simpa using h]
  | (j, c) :: r, hs => by
    obtain ⟨h1, h2⟩ := List.pairwise_cons.1 hs
    unfold putK
    by_cases e1 : k < j
    · rw [if_pos e1, List.lookup_cons]
      by_cases h : x = k
      · subst h; simp
      · rw [if_neg h, show (x == k) = false by simpa using h]
    · rw [if_neg e1]
      by_cases e2 : k = j
      · subst e2
        rw [if_pos rfl, List.lookup_cons, List.lookup_cons]
        by_cases h : x = k
        · subst h; simp
        · rw [if_neg h, show (x == k) = false by simpa using h]
      · rw [if_neg e2, List.lookup_cons, List.lookup_cons, lookup_putK k b x r h2]
        by_cases h : x = j
        · subst h; simp; intro e; exact absurd e.symm e2
        · rw [show (x == j) = false by simpa using h]
theorem mem_putK {k : Nat} {b : List UInt8} {p : Nat × List UInt8} : ∀ {l : List (Nat × List UInt8)}, p ∈ putK k b l → p = (k, b) ∨ p ∈ l
  | [], h => by simp [putK] at h; exact .inl h
  | (j, c) :: r, h => by
    unfold putK at h
    split at h
    · rcases List.mem_cons.1 h with h | h
      · exact .inl h
      · exact .inr h
    · split at h
      · rcases List.mem_cons.1 h with h | h
        · exact .inl h
        · exact .inr (List.mem_cons_of_mem _ h)
      · rcases List.mem_cons.1 h with h | h
        · exact .inr (h ▸ List.mem_cons_self ..)
        · rcases mem_putK h with h | h
          · exact .inl h
          · exact .inr (List.mem_cons_of_mem _ h)
theorem sorted_putK (k : Nat) (b : List UInt8) : ∀ l : List (Nat × List UInt8), l.Pairwise (fun p q => p.1 < q.1) → (putK k b l).Pairwise fun p q => p.1 < q.1
  | [], _ => by simp [putK]
  | (j, c) :: r, hs => by
    obtain ⟨h1, h2⟩ := List.pairwise_cons.1 hs
    unfold putK
    split
    · rename_i h
      refine List.pairwise_cons.2 ⟨fun p hp => ?_, hs⟩
      rcases List.mem_cons.1 hp with rfl | hp
      · exact h
      · exact Nat.lt_trans h (h1 p hp)
    · split
      · rename_i h
        subst h
        exact List.pairwise_cons.2 ⟨h1, h2⟩
      · refine List.pairwise_cons.2 ⟨fun p hp => ?_, sorted_putK k b r h2⟩
        rcases mem_putK hp with rfl | hp
        · show j < k; omega
        · exact h1 p hp
theorem len_putK (k : Nat) (b : List UInt8) : ∀ l : List (Nat × List UInt8), (putK k b l).length ≤ l.length + 1
  | [] => by simp [putK]
  | (j, c) :: r => by
    unfold putK
    have := len_putK k b r
    split
    · simp
    · split
      · simp
      · simp only [List.length_cons]; omega
/-- A pager: what page 0 is to tell, and told; the changed pages; the kept ones, the oldest first; reads. -/
structure PgP where
  now : HdP
  last : HdP
  ch : List (Nat × List UInt8)
  row : List Nat
  cv : Nat → List UInt8
  reads : Nat
  dead : Bool
def rtH (h : HdP) (k : Nat) : Int := ((h.roots[k]?.getD 0 : Nat) : Int)
def hdA (h : HdP) : Array Value := #[.int .i64 (h.many : Int), .int .i64 (h.free : Int), .int .i64 (rtH h 0), .int .i64 (rtH h 1), .int .i64 (rtH h 2), .int .i64 (rtH h 3), .int .i64 (rtH h 4), .int .i64 (rtH h 5), .int .i64 (rtH h 6), .int .i64 (rtH h 7)]
def pgC (f : Nat) (nm : ByteArray) (now last : HdP) (mch mcl : Nat) (vrow : Value) (reads : Nat) (dead : Bool) : Array Value :=
  #[.pointer (some ⟨f, 0, none⟩), .string nm, .int .i64 (now.many : Int), .int .i64 (now.free : Int), .int .i64 (rtH now 0), .int .i64 (rtH now 1), .int .i64 (rtH now 2), .int .i64 (rtH now 3), .int .i64 (rtH now 4), .int .i64 (rtH now 5), .int .i64 (rtH now 6), .int .i64 (rtH now 7),
    .int .i64 (last.many : Int), .int .i64 (last.free : Int), .int .i64 (rtH last 0), .int .i64 (rtH last 1), .int .i64 (rtH last 2), .int .i64 (rtH last 3), .int .i64 (rtH last 4), .int .i64 (rtH last 5), .int .i64 (rtH last 6), .int .i64 (rtH last 7),
    .map (some mch), .map (some mcl), vrow, .int .i64 (reads : Int), .bool dead]
/-- A page's bytes in memory. -/
def PgB (W : World) (t : SlT) (b : List UInt8) : Prop := ∃ cs, Bk W t.1 5 cs ∧ t.2.1 = b.length ∧ b.length ≤ t.2.2 ∧ t.2.2 ≤ maxLen ∧ cs.toList.take b.length = bys b
theorem PgB.heap {W W' : World} {t : SlT} {b : List UInt8} (h : PgB W t b) (hk : W'.heap[t.1]? = W.heap[t.1]?) : PgB W' t b := by
  obtain ⟨cs, h1, h2⟩ := h
  exact ⟨cs, hk.trans h1, h2⟩
theorem PgB.lt {W : World} {t : SlT} {b : List UInt8} (h : PgB W t b) : t.1 < W.heap.size := by obtain ⟨cs, h1, _⟩ := h; exact h1.lt
theorem PgB.rd {W : World} {t : SlT} {b : List UInt8} (h : PgB W t b) : Rd W W.heap.size 1 (some ⟨t.1, 0, none⟩) t.2.1 (bys b) ∧ t.2.1 = b.length ∧ t.2.1 ≤ t.2.2 ∧ t.2.2 ≤ maxLen := by
  obtain ⟨cs, h1, h2, h3, h4, h5⟩ := h
  refine ⟨⟨by rw [bys_len, h2]; omega, fun _ => ⟨t.1, 0, rfl, h1.lt, fun j u hu => ?_⟩⟩, h2, by omega, h4⟩
  have hj : j < b.length := by
    have := (List.getElem?_eq_some_iff.1 hu).1
    rwa [bys_len] at this
  rw [Nat.zero_add, h1.cell, ← hu, ← h5, List.getElem?_take, if_pos hj, Array.getElem?_toList]
theorem PgB.of_own {W : World} {base n c : Nat} {A : Option Addr} {b : List UInt8} (h : W.ownsRow base 5 1 (.slice A n c) n (bys b)) (h0 : 0 < n) : ∃ g, A = some ⟨g, 0, none⟩ ∧ base ≤ g ∧ PgB W (g, n, c) b := by
  have hl := h.1
  rw [bys_len] at hl
  rcases h.2 with ⟨_, h1⟩ | ⟨g, cap, cur, hv, hg, hh, n1, n2, n3, n4⟩
  · omega
  · injection hv with e1 _ e2
    subst e1 e2
    refine ⟨g, rfl, hg, cur, hh, by show n = _; omega, by show b.length ≤ c; omega, n2, ?_⟩
    rw [show b.length = n * 1 by omega]; exact n4
/-- A pager: its block, its maps, its row. -/
structure PgM (W : World) (f p : Nat) (nm : ByteArray) (P : PgP) (mch mcl : Nat) (tch tcl : Nat → SlT) (vrow : Value) : Prop where
  hd : Bk W p 67 (pgC f nm P.now P.last mch mcl vrow P.reads P.dead)
  ch : MapI W mch P.ch.length (fun k => (P.ch.lookup k).map fun _ => tch k)
  cl : MapI W mcl P.row.length (fun k => if k ∈ P.row then some (tcl k) else none)
  ne : mch ≠ mcl
  cb : ∀ k b, P.ch.lookup k = some b → PgB W (tch k) b
  lb : ∀ k, k ∈ P.row → PgB W (tcl k) (P.cv k)
  rw : QuN W 0 vrow P.row
  rb : ∀ i, vrow.ownBlock = some i → ∃ cs, Bk W i 3 cs
def PgO (p mch mcl : Nat) (tch tcl : Nat → SlT) (vrow : Value) (P : PgP) (i : Nat) : Prop :=
  i = p ∨ i = mch ∨ i = mcl ∨ vrow.ownBlock = some i ∨ (∃ k b, P.ch.lookup k = some b ∧ i = (tch k).1) ∨ ∃ k, k ∈ P.row ∧ i = (tcl k).1
/-- A pager, its blocks among those of O. -/
def PgA (W : World) (O : Nat → Prop) (f p : Nat) (nm : ByteArray) (P : PgP) : Prop := ∃ mch mcl tch tcl vrow, PgM W f p nm P mch mcl tch tcl vrow ∧ ∀ i, PgO p mch mcl tch tcl vrow P i → O i
section
variable {W W' : World} {f p mch mcl : Nat} {nm : ByteArray} {P : PgP} {tch tcl : Nat → SlT} {vrow : Value} {O O' : Nat → Prop}
theorem PgM.lt (h : PgM W f p nm P mch mcl tch tcl vrow) : ∀ i, PgO p mch mcl tch tcl vrow P i → i < W.heap.size := by
  rintro i (rfl | rfl | rfl | hi | ⟨k, b, hb, rfl⟩ | ⟨k, hk, rfl⟩)
  · exact h.hd.lt
  · exact h.ch.lt
  · exact h.cl.lt
  · exact h.rw.lt i hi
  · exact (h.cb k b hb).lt
  · exact (h.lb k hk).lt
theorem PgM.heap (h : PgM W f p nm P mch mcl tch tcl vrow) (hz : W.heap.size ≤ W'.heap.size) (hk : ∀ i, PgO p mch mcl tch tcl vrow P i → W'.heap[i]? = W.heap[i]?) : PgM W' f p nm P mch mcl tch tcl vrow :=
  ⟨(hk p (.inl rfl)).trans h.hd, h.ch.heap (hk mch (.inr (.inl rfl))), h.cl.heap (hk mcl (.inr (.inr (.inl rfl)))), h.ne, fun k b hb => (h.cb k b hb).heap (hk _ (.inr (.inr (.inr (.inr (.inl ⟨k, b, hb, rfl⟩)))))), fun k hk2 => (h.lb k hk2).heap (hk _ (.inr (.inr (.inr (.inr (.inr ⟨k, hk2, rfl⟩)))))), h.rw.heap hz (fun k hv _ => hk k (.inr (.inr (.inr (.inl hv))))), fun i hi => by
    obtain ⟨cs, hc⟩ := h.rb i hi
    exact ⟨cs, (hk i (.inr (.inr (.inr (.inl hi))))).trans hc⟩⟩
theorem PgA.mono (h : PgA W O f p nm P) (hs : ∀ i, O i → i < W.heap.size → O' i) : PgA W O' f p nm P := by
  obtain ⟨mch, mcl, tch, tcl, vrow, h1, h2⟩ := h
  exact ⟨mch, mcl, tch, tcl, vrow, h1, fun i hi => hs i (h2 i hi) (h1.lt i hi)⟩
theorem PgA.heap (h : PgA W O f p nm P) (hz : W.heap.size ≤ W'.heap.size) (hk : ∀ i, O i → i < W.heap.size → W'.heap[i]? = W.heap[i]?) : PgA W' O f p nm P := by
  obtain ⟨mch, mcl, tch, tcl, vrow, h1, h2⟩ := h
  exact ⟨mch, mcl, tch, tcl, vrow, h1.heap hz (fun i hi => hk i (h2 i hi) (h1.lt i hi)), h2⟩
theorem PgA.below (h : PgA W O f p nm P) (hb : Below W.heap.size W W') : PgA W' O f p nm P := h.heap hb.size fun i _ hi => hb.block i hi
/-- Blocks of cells are no maps. -/
theorem PgB.nem {m n : Nat} {t : SlT} {b : List UInt8} {g : Nat → Option SlT} (h : PgB W t b) (hm : MapI W m n g) : t.1 ≠ m := by
  obtain ⟨cs, h1, _⟩ := h
  exact Ne.symm (hm.ne h1)
/-- What a row of a map needs. -/
theorem MapI.tight {n : Nat} {g : Nat → Option SlT} {m : Nat} (h : MapI W m n g) {L : List Nat} (hL : L.Pairwise (· < ·)) (hf : ∀ x, x ∈ L ↔ (g x).isSome = true) : MapI W m L.length g := by
  obtain ⟨D, h1, h2⟩ := h.keys hL hf
  obtain ⟨D', k1, k2⟩ := h
  obtain ⟨es, clock, hb, F, hs, rfl⟩ := k1
  obtain ⟨es2, clock2, hb2, F2, hs2, rfl⟩ := h1
  rw [hb] at hb2
  injection hb2 with hb2
  injection hb2 with e1 e2
  subst e1 e2
  refine ⟨_, ⟨es, clock, hb, F, ?_, rfl⟩, k2⟩
  have hl := h2.length_eq
  have e3 : (intKeys (DataW.map ((es.toList.map (WideElems.rg Tryz.prog 3 slR)).foldr DataW.insert []))).length = es.size := by
    simp [intKeys, length_sorted]
  rw [e3] at hl
  simp [natI] at hl
  omega
end
end Go.Proofs.YtoadamkmabkldaaGreatDoor
/- Contracts of package pager: db, log, up, has, change. -/
namespace Go.Proofs.YtoadamkmabkldaaGreatDoor
open Go.RowKit
attribute [local go_sem ↓] Go.wp_at_zero Go.wp_at_succ

@[reducible] def dbS : ByteArray := ⟨#[46, 100, 98]⟩
@[reducible] def logS : ByteArray := ⟨#[46, 108, 111, 103]⟩
theorem db_list (nm : ByteArray) : (nm ++ dbS).data.toList = dbN nm.data.toList := by
  rw [ByteArray.data_append, Array.toList_append]; rfl
theorem log_list (nm : ByteArray) : (nm ++ logS).data.toList = logN nm.data.toList := by
  rw [ByteArray.data_append, Array.toList_append]; rfl
theorem db_size (nm : ByteArray) : (nm ++ dbS).size = nm.size + 3 := by simp [ByteArray.size_append]; rfl
theorem log_size (nm : ByteArray) : (nm ++ logS).size = nm.size + 4 := by simp [ByteArray.size_append]; rfl
set_option maxHeartbeats 1000000 in
theorem db_any (p : Nat) (nm : ByteArray) (w : World) (c1 : w.cell? ⟨p, 1, none⟩ = some (.string nm)) (hs : nm.size ≤ 1000000) :
    Calls Tryz.prog 33 #[.pointer (some ⟨p, 0, none⟩)] w fun e w' => e = .returned (.string (nm ++ dbS)) ∧ w' = w := by
  have hc : ¬ ((nm.size + (⟨#[46, 100, 98]⟩ : ByteArray).size : Nat) : Int) > IntKind.i64.max := by
    show ¬ ((nm.size + 3 : Nat) : Int) > 9223372036854775807
    omega
  have hbin : ∀ W : World, (binOp .add 9 (.string nm) (.string ⟨#[46, 100, 98]⟩)).run Tryz.prog W = .ok (.string (nm ++ dbS)) W := fun W => by
    simp only [binOp, Op.stringOp]
    rw [if_neg hc]; rfl
  clear hc
  go_enter Tryz.func33, Tryz.ntmps33
  go_wp2
  go_ret
  exact ⟨rfl, by first | rfl | trivial⟩
set_option maxHeartbeats 1000000 in
theorem log_any (p : Nat) (nm : ByteArray) (w : World) (c1 : w.cell? ⟨p, 1, none⟩ = some (.string nm)) (hs : nm.size ≤ 1000000) :
    Calls Tryz.prog 35 #[.pointer (some ⟨p, 0, none⟩)] w fun e w' => e = .returned (.string (nm ++ logS)) ∧ w' = w := by
  have hc : ¬ ((nm.size + (⟨#[46, 108, 111, 103]⟩ : ByteArray).size : Nat) : Int) > IntKind.i64.max := by
    show ¬ ((nm.size + 4 : Nat) : Int) > 9223372036854775807
    omega
  have hbin : ∀ W : World, (binOp .add 9 (.string nm) (.string ⟨#[46, 108, 111, 103]⟩)).run Tryz.prog W = .ok (.string (nm ++ logS)) W := fun W => by
    simp only [binOp, Op.stringOp]
    rw [if_neg hc]; rfl
  clear hc
  go_enter Tryz.func35, Tryz.ntmps35
  go_wp2
  go_ret
  exact ⟨rfl, by first | rfl | trivial⟩
set_option maxHeartbeats 1000000 in
theorem up_nil (w : World) : Calls Tryz.prog 38 #[.pointer none] w fun e w' => e = .returned (.int .i64 2) ∧ w' = w := by
  go_enter Tryz.func38, Tryz.ntmps38
  go_wp2
  go_ret
  exact ⟨rfl, by first | rfl | trivial⟩
set_option maxHeartbeats 1000000 in
theorem up_any (p : Nat) (d : Bool) (w : World) (c8 : w.cell? ⟨p, 26, none⟩ = some (.bool d)) :
    Calls Tryz.prog 38 #[.pointer (some ⟨p, 0, none⟩)] w fun e w' => e = .returned (.int .i64 (if d then 15 else 0)) ∧ w' = w := by
  cases d with
  | true =>
    go_enter Tryz.func38, Tryz.ntmps38
    go_wp2
    go_ret
    exact ⟨rfl, by first | rfl | trivial⟩
  | false =>
    go_enter Tryz.func38, Tryz.ntmps38
    go_wp2
    go_ret
    exact ⟨rfl, by first | rfl | trivial⟩
set_option maxHeartbeats 1000000 in
theorem has_nil (no least : Int) (w : World) : Calls Tryz.prog 42 #[.pointer none, .int .i64 no, .int .i64 least] w fun e w' => e = .returned (.int .i64 2) ∧ w' = w := by
  have HU := Lib.hid (up_nil w)
  go_enter Tryz.func42, Tryz.ntmps42
  go_wp2_with fail
  with_reducible refine HU.out.mono ?_
  rintro e wz ⟨rfl, hwz⟩
  replace hwz := hwz.symm
  subst hwz
  go_wp2_with fail
  go_ret
  exact ⟨rfl, by first | rfl | trivial⟩
set_option maxHeartbeats 1000000 in
theorem has_any (p many : Nat) (no least : Int) (w : World) (c8 : w.cell? ⟨p, 26, none⟩ = some (.bool false)) (c2 : w.cell? ⟨p, 2, none⟩ = some (.int .i64 (many : Int))) :
    Calls Tryz.prog 42 #[.pointer (some ⟨p, 0, none⟩), .int .i64 no, .int .i64 least] w fun e w' => e = .returned (.int .i64 (if no < least ∨ (many : Int) ≤ no then 1 else 0)) ∧ w' = w := by
  have HU := Lib.hid (up_any p false w c8)
  by_cases h1 : no < least
  · rw [if_pos (.inl h1)]
    go_enter Tryz.func42, Tryz.ntmps42
    go_wp2_with fail
    with_reducible refine HU.out.mono ?_
    rintro e wz ⟨rfl, hwz⟩
    replace hwz := hwz.symm
    subst hwz
    go_wp2_with fail
    go_ret
    exact ⟨rfl, by first | rfl | trivial⟩
  · by_cases h2 : (many : Int) ≤ no
    · rw [if_pos (.inr h2)]
      go_enter Tryz.func42, Tryz.ntmps42
      go_wp2_with fail
      with_reducible refine HU.out.mono ?_
      rintro e wz ⟨rfl, hwz⟩
      replace hwz := hwz.symm
      subst hwz
      go_wp2_with fail
      go_ret
      exact ⟨rfl, by first | rfl | trivial⟩
    · rw [if_neg (by rintro (e | e); exact h1 e; exact h2 e)]
      go_enter Tryz.func42, Tryz.ntmps42
      go_wp2_with fail
      with_reducible refine HU.out.mono ?_
      rintro e wz ⟨rfl, hwz⟩
      replace hwz := hwz.symm
      subst hwz
      go_wp2_with fail
      go_ret
      exact ⟨rfl, by first | rfl | trivial⟩
set_option maxRecDepth 100000 in
/-- m[k] = a page, at the operation. -/
theorem op_putI {w : World} {ops : Array Oper} {rest : List Oper} {a : Act} {Q : Exit → Act → World → Prop} {d : Option Tmp} {ty : TypeId} {pos : String} {af : Array Edge} {g : Option (Nat × Bool)} {x y z : Operand}
    {m n k : Nat} {f : Nat → Option SlT} {t : SlT} (h : MapI w m n f) (hk : k ≤ 9223372036854775807) (hn : n ≤ 1000000) (hm : a.eval x = .map (some m)) (hs : a.eval y = .int .i64 (k : Int)) (hb : a.eval z = slV t)
    (hw : Region.wanted { dst := d, op := .mapUpdate 62 x y z, type := ty, pos := pos, after := af, guard := g } (yielded ops a.tmps) = true)
    (hK : ∀ w', MapI w' m (n + 1) (fun x => if x = k then some t else f x) → w.grownBy w' (some m) → wpList Tryz.prog ops Q rest (a.put d undef) w') :
    wpList Tryz.prog ops Q ({ dst := d, op := .mapUpdate 62 x y z, type := ty, pos := pos, after := af, guard := g } :: rest) a w :=
  BigFrame.wpList_want hw fun _ hK' => by
    obtain ⟨w', hrun, h1, h2⟩ := h.put hk hn t
    unfold Oper.wp execOp
    simp only [hm, hs, hb, Sem.run_bind, hrun, Result.andThen_ok, Sem.run_pure]
    exact hK' _ _ (hK w' h1 h2)
theorem mem_keys {l : List (Nat × List UInt8)} (x : Nat) : x ∈ l.map (·.1) ↔ (l.lookup x).isSome = true := by
  induction l with
  | nil => simp
  | cons p r ih =>
    obtain ⟨j, c⟩ := p
    rw [List.map_cons, List.mem_cons, List.lookup_cons, ih]
    by_cases e : x = j
    · subst e; simp
    · rw [show (x == j) = false by simpa using e]; simp [e]
theorem keys_lt {l : List (Nat × List UInt8)} (h : l.Pairwise fun p q => p.1 < q.1) : (l.map (·.1)).Pairwise (· < ·) := by rw [List.pairwise_map]; exact h
/-- A page more has changed. -/
theorem PgM.chd {w w2 : World} {f p mch mcl no n2 : Nat} {nm : ByteArray} {P : PgP} {tch tcl : Nat → SlT} {vrow : Value} {b : List UInt8} {t : SlT} (h : PgM w f p nm P mch mcl tch tcl vrow) (hs : P.ch.Pairwise fun p q => p.1 < q.1)
    (hk : ∀ i, i < w.heap.size → i ≠ mch → w2.heap[i]? = w.heap[i]?) (hz : w.heap.size ≤ w2.heap.size) (hm : MapI w2 mch n2 (fun x => if x = no then some t else (P.ch.lookup x).map fun _ => tch x)) (hb : PgB w2 t b) :
    PgM w2 f p nm { P with ch := putK no b P.ch } mch mcl (fun x => if x = no then t else tch x) tcl vrow := by
  have hlk := fun x => lookup_putK no b x P.ch hs
  have nem : ∀ {g : Nat} {ty : TypeId} {cs : Array Value}, Bk w g ty cs → w2.heap[g]? = w.heap[g]? := fun hg => hk _ hg.lt (Ne.symm (h.ch.ne hg))
  refine ⟨(nem h.hd).trans h.hd, ?_, h.cl.heap (hk mcl h.cl.lt (Ne.symm h.ne)), h.ne, fun k c hc => ?_, fun k hk2 => ?_, h.rw.heap hz (fun k hv _ => ?_), fun i hi => ?_⟩
  · have e : (fun k => ((putK no b P.ch).lookup k).map fun _ => if k = no then t else tch k) = fun x => if x = no then some t else (P.ch.lookup x).map fun _ => tch x := by
      funext x
      rw [hlk]
      by_cases hx : x = no
      · rw [if_pos hx, if_pos hx, if_pos hx]; rfl
      · rw [if_neg hx, if_neg hx, if_neg hx]
    show MapI w2 mch (putK no b P.ch).length _
    rw [e]
    have := hm.tight (L := (putK no b P.ch).map (·.1)) (keys_lt (sorted_putK no b P.ch hs)) (fun x => by
      rw [mem_keys, hlk]
      by_cases hx : x = no
      · rw [if_pos hx, if_pos hx]; rfl
      · rw [if_neg hx, if_neg hx]; cases P.ch.lookup x <;> rfl)
    rwa [List.length_map] at this
  · have hc' : (putK no b P.ch).lookup k = some c := hc
    rw [hlk] at hc'
    by_cases hx : k = no
    · rw [if_pos hx] at hc'
      injection hc' with hc'
      subst hc'
      rw [if_pos hx]; exact hb
    · rw [if_neg hx] at hc'
      rw [if_neg hx]
      obtain ⟨cs, hc1, _⟩ := h.cb k c hc'
      exact (h.cb k c hc').heap (nem hc1)
  · obtain ⟨cs, hc1, _⟩ := h.lb k hk2
    exact (h.lb k hk2).heap (nem hc1)
  · obtain ⟨cs, hc⟩ := h.rb k hv
    exact nem hc
  · obtain ⟨cs, hc⟩ := h.rb i hi
    exact ⟨cs, (nem hc).trans hc⟩
theorem pgr_at {w w' : World} {row : Option Nat} (hg : w.grownBy w' row) {i : Nat} (hi : i < w.heap.size) (hr : row ≠ some i) : w'.heap[i]? = w.heap[i]? := hg.block i hi (fun e => hr e.symm)
theorem add_at (b o j : Nat) : (⟨b, o, none⟩ : Addr).add j = ⟨b, o + j, none⟩ := by unfold Addr.add; split <;> simp_all
/-- The world behind the append of a page's bytes: then the map's store, and all is as wanted. -/
theorem change_core {w W1 w5 : World} {f p mch mcl no n g9 c9 : Nat} {nm : ByteArray} {P : PgP} {tch tcl : Nat → SlT} {vrow : Value} {b : List UInt8} (h : PgM w f p nm P mch mcl tch tcl vrow) (hs : P.ch.Pairwise fun p q => p.1 < q.1) (hl : P.ch.length ≤ 100000) (hno : no ≤ 65536) (h0 : 0 < n)
    (hW1 : ∀ i, i < w.heap.size → W1.heap[i]? = w.heap[i]?) (hW : Ch (fun i => i = mch) w W1) (o5 : w5.ownsRow w.heap.size 5 1 (.slice (some ⟨g9, 0, none⟩) n c9) n (bys b)) (g5 : W1.grownBy w5 (some w.heap.size)) :
    ∃ w6, (Instr.mapUpdate 62 (.map (some mch)) (.int .i64 (no : Int)) (.slice (some ⟨g9, 0, none⟩) n c9)).run Tryz.prog w5 = .ok () w6 ∧ w5.cell? ⟨p, 22, none⟩ = some (.map (some mch)) ∧ w6.cell? ⟨p, 22, none⟩ = some (.map (some mch)) ∧
      Hid (∃ t, PgM w6 f p nm { P with ch := putK no b P.ch } mch mcl (fun x => if x = no then t else tch x) tcl vrow ∧ w.heap.size ≤ t.1 ∧ Ch (fun i => i = mch) w w6) := by
  obtain ⟨g, e1, hg, hB⟩ := PgB.of_own o5 h0
  injection e1 with e1
  injection e1 with e1
  subst e1
  have k5 : Ch (fun i => i = mch) w w5 := hW.grown g5 (fun i e => by injection e with e; exact .inr (by omega))
  have heq : ∀ i, i < w.heap.size → w5.heap[i]? = w.heap[i]? := fun i hi => (pgr_at g5 (Nat.lt_of_lt_of_le hi hW.size) (by intro e; injection e with e; omega)).trans (hW1 i hi)
  have hm5 := h.ch.heap (heq mch h.ch.lt)
  obtain ⟨w6, hrun, h1, h2⟩ := hm5.put (k := no) (by omega) (by omega) (g9, n, c9)
  have h6 : ∀ i, i < w5.heap.size → i ≠ mch → w6.heap[i]? = w5.heap[i]? := fun i hi hne => pgr_at h2 hi (by intro e; injection e with e; exact hne e.symm)
  have hne : p ≠ mch := Ne.symm (h.ch.ne h.hd)
  have b5 := (heq p h.hd.lt).trans h.hd
  have b6 := (h6 p (Nat.lt_of_lt_of_le h.hd.lt k5.size) hne).trans b5
  have hBl := hB
  refine ⟨w6, hrun, Bk.cell b5 22, Bk.cell b6 22, Lib.hid ⟨(g9, n, c9), h.chd hs (fun i hi hne => (h6 i (Nat.lt_of_lt_of_le hi k5.size) hne).trans (heq i hi)) (Nat.le_trans k5.size h2.size) h1 (hB.heap (h6 g9 hB.lt (by have := h.ch.lt; omega))), hg, k5.grown h2 (fun i e => by injection e with e; exact .inl e.symm)⟩⟩
set_option maxHeartbeats 4000000 in
set_option maxRecDepth 100000 in
theorem change_any (f p mch mcl no n c : Nat) (nm : ByteArray) (P : PgP) (tch tcl : Nat → SlT) (vrow : Value) (A : Option Addr) (b : List UInt8) (w : World) (h : PgM w f p nm P mch mcl tch tcl vrow) (hs : P.ch.Pairwise fun p q => p.1 < q.1) (hl : P.ch.length ≤ 100000)
    (hr : Rd w w.heap.size 1 A n (bys b)) (h0 : 0 < n) (hn : n ≤ 508) (hno : no ≤ 65536) :
    Calls Tryz.prog 41 #[.pointer (some ⟨p, 0, none⟩), .int .i64 (no : Int), .slice A n c] w fun e w' => e = .returned (.tuple #[]) ∧ ∃ t, PgM w' f p nm { P with ch := putK no b P.ch } mch mcl (fun x => if x = no then t else tch x) tcl vrow ∧ w.heap.size ≤ t.1 ∧ Ch (fun i => i = mch) w w' := by
  obtain ⟨gb, ob, rfl, hgb, hcells⟩ := hr.2 h0
  obtain ⟨K, hK⟩ : ∃ K : Nat, K = 508 := ⟨_, rfl⟩
  have mk : ∀ W : World, (Instr.makeSlice 22 (.int .i64 0) (.int .i64 508)).run Tryz.prog W = .ok (.slice (some ⟨W.heap.size, 0, none⟩) 0 K) (W.alloc (.cells (bys (List.replicate K 0)).toArray 5)) := fun W => by subst hK; exact mk_room 508 (by decide) W
  have hKb : K ≤ 100000000 := by omega
  obtain ⟨W1, hW1⟩ : ∃ W1, W1 = w.drew.alloc (.cells (bys (List.replicate K 0)).toArray 5) := ⟨_, rfl⟩
  have hWb : ∀ i, i < w.heap.size → W1.heap[i]? = w.heap[i]? := fun i hi => by rw [hW1]; exact Below.heap_alloc w.drew _ i hi
  have hWc : Ch (fun i => i = mch) w W1 := by rw [hW1]; exact ((Ch.refl _ w).drew).alloc _
  have hlen : (bys b).length = n * 1 := hr.1
  have HS0 : w.drew.cell? ⟨p, 22, none⟩ = some (.map (some mch)) := h.hd.cell 22
  have HS1 : (w.drew.alloc (.cells (bys (List.replicate K 0)).toArray 5)).cell? ⟨p, 22, none⟩ = some (.map (some mch)) := (World.cell?_alloc_lt w.drew _ ⟨p, 22, none⟩ h.hd.lt).trans HS0
  have HO := Lib.hid (own_room K hKb w.drew)
  have HN := Lib.hid (show ∀ j u, (bys b)[j]? = some u → (w.drew.alloc (.cells (bys (List.replicate K 0)).toArray 5)).cell? ((⟨gb, ob, none⟩ : Addr).add j) = some u from fun j u hu => by
    have := hcells j u hu
    rw [add_at]
    exact (World.cell?_alloc_lt w.drew _ ⟨gb, ob + j, none⟩ hgb).trans this)
  have HC := Lib.hid (show ∀ g9 c9 w5, w5.ownsRow w.drew.heap.size 5 1 (.slice (some ⟨g9, 0, none⟩) (0 + n) c9) (0 + n) (bys [] ++ bys b) → (w.drew.alloc (.cells (bys (List.replicate K 0)).toArray 5)).grownBy w5 (some w.drew.heap.size) → _ from fun g9 c9 w5 o5 g5 =>
    change_core h hs hl hno h0 (hWb) hWc (by rw [Nat.zero_add] at o5; exact o5) (by rw [hW1]; exact g5))
  have HL := Lib.hid hlen
  have h0n : 0 < n := h0
  have h63 : 0 + n ≤ maxLen := by unfold maxLen; omega
  have h64 : (0 + n) * 1 ≤ 140737488355328 := by omega
  obtain ⟨i0, hi, hz0, hz1, hz2⟩ := info_parts infoB
  have HI := Lib.hid (And.intro hi (And.intro hz0 (And.intro hz1 hz2)))
  clear h hs hl hr h0 hn hlen hK hno hW1 hWb hWc hcells hgb hi hz0 hz1 hz2 W1
  go_enter Tryz.func41, Tryz.ntmps41
  go_wp2_with fail
  go_region_held3 (fun w' => w'.cell? ⟨p, 22, none⟩ = some (.map (some mch))) (first | exact HS0 | exact HS1 | exact hS5 | exact hS6 | go_keep)
    ((refine step_append_lies _ rfl _ _ 22 rfl w.drew.heap.size 5 i0 _ 1 1 Tryz.underlying22 HI.out.1 HI.out.2.1 HI.out.2.2.1 HI.out.2.2.2 rfl (by decide) _ 0 (bys []) (by kernel_rfl) HO.out ⟨gb, ob, none⟩ n c (bys b) (by kernel_rfl) HL.out HN.out (bys_one _) h0n h63 h64 (by simp) _ rfl ?_; intro g9 c9 w5 o5 gb5 k5 l5; obtain ⟨w6, hrun6, hS5, hS6, HF⟩ := HC.out g9 c9 w5 o5 gb5; clear o5 gb5 k5 l5; rw [Nat.zero_add]))
  refine (show bodyPost Tryz.prog _ _ .normal _ _ from ?_)
  refine bodyPost_end (results_none rfl _ _ _) rfl ?_
  exact ⟨rfl, HF.out⟩
end Go.Proofs.YtoadamkmabkldaaGreatDoor
/- Contracts of package pager: give, Abort, Root, SetRoot, Changed, Many, Reads, sectors. -/
namespace Go.Proofs.YtoadamkmabkldaaGreatDoor
open Go.RowKit
attribute [local go_sem ↓] Go.wp_at_zero Go.wp_at_succ
set_option maxHeartbeats 1000000 in
theorem many_nil (w : World) : Calls Tryz.prog 18 #[.pointer none] w fun e w' => e = .returned (.int .i64 0) ∧ w' = w := by
  have HU := Lib.hid (up_nil w)
  go_enter Tryz.func18, Tryz.ntmps18
  go_wp2_with fail
  with_reducible refine HU.out.mono ?_
  rintro e wz ⟨rfl, hwz⟩
  replace hwz := hwz.symm
  subst hwz
  go_wp2_with fail
  go_ret
  exact ⟨rfl, by first | rfl | trivial⟩
set_option maxHeartbeats 1000000 in
theorem many_any (p many : Nat) (w : World) (c8 : w.cell? ⟨p, 26, none⟩ = some (.bool false)) (c2 : w.cell? ⟨p, 2, none⟩ = some (.int .i64 (many : Int))) :
    Calls Tryz.prog 18 #[.pointer (some ⟨p, 0, none⟩)] w fun e w' => e = .returned (.int .i64 (many : Int)) ∧ w' = w := by
  have HU := Lib.hid (up_any p false w c8)
  go_enter Tryz.func18, Tryz.ntmps18
  go_wp2_with fail
  with_reducible refine HU.out.mono ?_
  rintro e wz ⟨rfl, hwz⟩
  replace hwz := hwz.symm
  subst hwz
  go_wp2_with fail
  go_ret
  exact ⟨rfl, by first | rfl | trivial⟩
set_option maxHeartbeats 1000000 in
theorem reads_nil (w : World) : Calls Tryz.prog 15 #[.pointer none] w fun e w' => e = .returned (.int .i64 0) ∧ w' = w := by
  have HU := Lib.hid (up_nil w)
  go_enter Tryz.func15, Tryz.ntmps15
  go_wp2_with fail
  with_reducible refine HU.out.mono ?_
  rintro e wz ⟨rfl, hwz⟩
  replace hwz := hwz.symm
  subst hwz
  go_wp2_with fail
  go_ret
  exact ⟨rfl, by first | rfl | trivial⟩
set_option maxHeartbeats 1000000 in
theorem reads_any (p many : Nat) (w : World) (c8 : w.cell? ⟨p, 26, none⟩ = some (.bool false)) (c2 : w.cell? ⟨p, 25, none⟩ = some (.int .i64 (many : Int))) :
    Calls Tryz.prog 15 #[.pointer (some ⟨p, 0, none⟩)] w fun e w' => e = .returned (.int .i64 (many : Int)) ∧ w' = w := by
  have HU := Lib.hid (up_any p false w c8)
  go_enter Tryz.func15, Tryz.ntmps15
  go_wp2_with fail
  with_reducible refine HU.out.mono ?_
  rintro e wz ⟨rfl, hwz⟩
  replace hwz := hwz.symm
  subst hwz
  go_wp2_with fail
  go_ret
  exact ⟨rfl, by first | rfl | trivial⟩
set_option maxHeartbeats 1000000 in
theorem root_nil (k : Int) (w : World) : Calls Tryz.prog 23 #[.pointer none, .int .i64 k] w fun e w' => e = .returned (.int .i64 0) ∧ w' = w := by
  have HU := Lib.hid (up_nil w)
  go_enter Tryz.func23, Tryz.ntmps23
  go_wp2_with fail
  with_reducible refine HU.out.mono ?_
  rintro e wz ⟨rfl, hwz⟩
  replace hwz := hwz.symm
  subst hwz
  go_wp2_with fail
  go_ret
  exact ⟨rfl, by first | rfl | trivial⟩
set_option maxHeartbeats 1000000 in
theorem root_out (p : Nat) (k : Int) (w : World) (c8 : w.cell? ⟨p, 26, none⟩ = some (.bool false)) (hk : k < 0 ∨ 8 ≤ k) :
    Calls Tryz.prog 23 #[.pointer (some ⟨p, 0, none⟩), .int .i64 k] w fun e w' => e = .returned (.int .i64 0) ∧ w' = w := by
  have HU := Lib.hid (up_any p false w c8)
  rcases hk with hk | hk
  · go_enter Tryz.func23, Tryz.ntmps23
    go_wp2_with fail
    with_reducible refine HU.out.mono ?_
    rintro e wz ⟨rfl, hwz⟩
    replace hwz := hwz.symm
    subst hwz
    go_wp2_with fail
    go_ret
    exact ⟨rfl, by first | rfl | trivial⟩
  · have hk2 : ¬ k < 0 := by omega
    go_enter Tryz.func23, Tryz.ntmps23
    go_wp2_with fail
    with_reducible refine HU.out.mono ?_
    rintro e wz ⟨rfl, hwz⟩
    replace hwz := hwz.symm
    subst hwz
    go_wp2_with fail
    go_ret
    exact ⟨rfl, by first | rfl | trivial⟩
set_option maxHeartbeats 1000000 in
theorem root_any (p k : Nat) (x : Int) (w : World) (c8 : w.cell? ⟨p, 26, none⟩ = some (.bool false)) (hk : k < 8) (ck : w.cell? ⟨p, 4 + k, none⟩ = some (.int .i64 x)) :
    Calls Tryz.prog 23 #[.pointer (some ⟨p, 0, none⟩), .int .i64 (k : Int)] w fun e w' => e = .returned (.int .i64 x) ∧ w' = w := by
  have HU := Lib.hid (up_any p false w c8)
  have k1 : ¬ ((k : Int) < 0) := by omega
  have k2 : ¬ ((8 : Int) ≤ (k : Int)) := by omega
  have k3 : (k : Int) < 8 := by omega
  clear hk
  go_enter Tryz.func23, Tryz.ntmps23
  go_wp2_with fail
  with_reducible refine HU.out.mono ?_
  rintro e wz ⟨rfl, hwz⟩
  replace hwz := hwz.symm
  subst hwz
  go_wp2_with fail
  go_ret
  exact ⟨rfl, by first | rfl | trivial⟩
set_option maxHeartbeats 1000000 in
theorem sectors_any (n : Nat) (hn : n ≤ 1000000000) (w : World) :
    Calls Tryz.prog 70 #[.int .i64 (n : Int)] w fun e w' => e = .returned (.int .i64 (needN n : Int)) ∧ w' = w := by
  have q1 : IntKind.i64.wrap ((n : Int) + 64) = ((n + 64 : Nat) : Int) := by rw [IntWalk.i64_in _ (by omega)]; omega
  have q2 : IntKind.i64.wrap (((n + 64 : Nat) : Int) - 1) = ((n + 63 : Nat) : Int) := by rw [IntWalk.i64_in _ (by omega)]; omega
  have q3 : wrap64 ((((n + 63 : Nat) : Int)) / 64) = (needN n : Int) := by
    rw [IntWalk.wrap64_in _ (by omega)]
    unfold needN
    omega
  generalize n + 63 = a at q2 q3
  generalize n + 64 = c at q1 q2
  replace q3 := Lib.hid q3
  go_enter Tryz.func70, Tryz.ntmps70
  go_wp2_with fail
  go_ret
  exact ⟨congrArg (fun x => Ending.returned (.int .i64 x)) q3.out, by first | rfl | trivial⟩
theorem bk_ty {w : World} {g : Nat} {t t2 : TypeId} {cs c2 : Array Value} (h : Bk w g t cs) (h2 : Bk w g t2 c2) : t = t2 := by
  have := h.symm.trans h2
  injection this with e
  injection e
/-- What lasts again, and no changed page. -/
def giveP (P : PgP) : PgP := { P with now := P.last, ch := [] }
theorem PgM.give {w w2 w3 : World} {f p mch mcl : Nat} {nm : ByteArray} {P : PgP} {tch tcl : Nat → SlT} {vrow : Value} (h : PgM w f p nm P mch mcl tch tcl vrow)
    (hp : Bk w2 p 67 (pgC f nm P.last P.last mch mcl vrow P.reads P.dead)) (h2 : Ch (fun i => i = p) w w2) (hm : MapI w3 mch 0 (fun _ => none)) (h3 : w2.grownBy w3 (some mch)) :
    PgM w3 f p nm (giveP P) mch mcl tch tcl vrow ∧ Ch (fun i => i = p ∨ i = mch) w w3 := by
  have hne : mch ≠ p := h.ch.ne h.hd
  have hc : Ch (fun i => i = p ∨ i = mch) w w3 := (h2.mono (fun i e => .inl e)).grown h3 (fun i e => by injection e with e; exact .inl (.inr e.symm))
  have h23 : ∀ i, i < w.heap.size → i ≠ mch → w3.heap[i]? = w2.heap[i]? := fun i hi hn => pgr_at h3 (Nat.lt_of_lt_of_le hi h2.size) (by intro e; injection e with e; exact hn e.symm)
  have nem : ∀ {g : Nat} {ty : TypeId} {cs : Array Value}, Bk w g ty cs → g ≠ p → w3.heap[g]? = w.heap[g]? := fun hg hn => hc.block _ hg.lt (by rintro (e | e); exact hn e; exact (h.ch.ne hg) e.symm)
  have nb : ∀ {g : Nat} {ty : TypeId} {cs : Array Value}, Bk w g ty cs → ty ≠ 67 → w3.heap[g]? = w.heap[g]? := fun hg ht => nem hg (fun e => ht (bk_ty (e ▸ hg) h.hd))
  refine ⟨⟨(h23 p h.hd.lt (Ne.symm hne)).trans hp, hm, h.cl.heap (hc.block _ h.cl.lt (by rintro (e | e); exact (h.cl.ne h.hd) e; exact h.ne e.symm)), h.ne, fun k c hc => (by cases hc), fun k hk2 => ?_, h.rw.heap hc.size (fun k hv _ => ?_), fun i hi => ?_⟩, hc⟩
  · obtain ⟨cs, hc1, _⟩ := h.lb k hk2
    exact (h.lb k hk2).heap (nb hc1 (by decide))
  · obtain ⟨cs, hc⟩ := h.rb k hv
    exact nb hc (by decide)
  · obtain ⟨cs, hc⟩ := h.rb i hi
    exact ⟨cs, (nb hc (by decide)).trans hc⟩
end Go.Proofs.YtoadamkmabkldaaGreatDoor
