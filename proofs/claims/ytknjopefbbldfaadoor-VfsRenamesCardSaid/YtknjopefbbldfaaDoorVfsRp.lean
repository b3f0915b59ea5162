/- VfsRenames, in plain words; a map of two slices. -/
import Derived.Test.YtknjopefbbldfaaDoorVfsL
import Derived.Test.YtknjopefbbldfaaDoorSame
namespace Go.Proofs.YtknjopefbbldfaaDoor
open Go.RowKit
open Go.Maps (Keyed)

@[reducible] def bR : ByteArray := ⟨#[98]⟩
@[reducible] def cR : ByteArray := ⟨#[99]⟩
def nA : List UInt8 := [97]
def nB : List UInt8 := [98]
theorem nab : nA ≠ nB := by decide
def cont (l1 l2 : List UInt8) (s : List UInt8) : List UInt8 := if s = nA then l1 else l2
def cL (L : List UInt8 → Bool) : Nat := (if L nA then 1 else 0) + (if L nB then 1 else 0)
/-- The store while its files are written: L says which are to come. -/
structure RnS (l1 l2 : List UInt8) (L : List UInt8 → Bool) (S : FsP) : Prop where
  up : Up S
  wf : S.WF
  most : S.most = 100
  stamp : S.stamp + 2 * cL L ≤ 4
  use : useP S.fs + 16 * cL L ≤ 32
  fs : ∀ s, s = nA ∨ s = nB → if L s then findP S s = none else ∃ y, findP S s = some y ∧ y.B = cont l1 l2 s
  no : ∀ s, s ≠ nA → s ≠ nB → findP S s = none
theorem cL_step {L : List UInt8 → Bool} {n : List UInt8} (hn : n = nA ∨ n = nB) (hL : L n = true) : cL (fun t => L t && !(t == n)) + 1 = cL L := by
  unfold cL
  have e1 : (nA == nB) = false := by decide
  have e2 : (nB == nA) = false := by decide
  rcases hn with rfl | rfl
  · simp only [hL, beq_self_eq_true, Bool.not_true, Bool.and_false, e2, Bool.not_false, Bool.and_true]
    simp; omega
  · simp only [hL, beq_self_eq_true, Bool.not_true, Bool.and_false, e1, Bool.not_false, Bool.and_true]
    simp
theorem rn_new (l1 l2 : List UInt8) (L : List UInt8 → Bool) (hL : L nA = true ∧ L nB = true) : RnS l1 l2 L (newP 100) := by
  refine ⟨up_new _, newP_wf _, rfl, ?_, ?_, fun s hs => ?_, fun _ _ _ => rfl⟩
  · unfold cL; rw [hL.1, hL.2]; decide
  · unfold cL; rw [hL.1, hL.2]; decide
  · rw [if_pos (by rcases hs with rfl | rfl; exact hL.1; exact hL.2)]; rfl
theorem rn_step {l1 l2 : List UInt8} {L : List UInt8 → Bool} {S : FsP} {n : List UInt8} (h : RnS l1 l2 L S) (hn : n = nA ∨ n = nB) (hL : L n = true) (hl : (cont l1 l2 n).length ≤ 1000) :
    ∃ S1 S2 x, createP S n = (0, S1) ∧ S1.down = false ∧ S1.stamp ≤ 100 ∧ findP S1 n = some x ∧ writeP S1 n ((0 : Nat) : Int) (cont l1 l2 n) = (0, S2) ∧ RnS l1 l2 (fun t => L t && !(t == n)) S2 := by
  have hf : findP S n = none := by have := h.fs n hn; rwa [if_pos hL] at this
  have hrt : rightP n = true := by rcases hn with rfl | rfl <;> decide
  obtain ⟨c1, c2, c3, c4, c5⟩ := create0 h.up hrt hf
  have hfd := find_made hf
  have hlen : n.length ≤ 24 := by rcases hn with rfl | rfl <;> decide
  have hw1 : (madeF S n).WF := madeF_wf h.wf hf hlen
  have hx1 : findP (madeF S n) n = some ⟨[], [], [], S.stamp + 1⟩ := by rw [hfd, if_pos rfl]
  have hst := h.stamp
  have hus := h.use
  have hcl := cL_step hn hL
  have hnd : needN (cont l1 l2 n).length ≤ 16 := by unfold needN; omega
  obtain ⟨S2, y, d1, d2, d3, d4, d5, d6, d7⟩ := write0 (cont l1 l2 n) c2 hw1 hx1 rfl (by rw [c3, c4, h.most]; omega)
  have hw2 := writeP_wf (p := 0) (b := cont l1 l2 n) hw1 c2.d hx1 (Nat.zero_le _)
  rw [d1] at hw2
  refine ⟨_, S2, _, c1, c2.d, by rw [c5]; omega, hx1, d1, ⟨d2, hw2, by rw [d3, c4, h.most], by omega, by rw [d5, c3]; omega, fun s hs => ?_, fun s h1 h2 => ?_⟩⟩
  · by_cases e : s = n
    · subst e
      simp only [beq_self_eq_true, Bool.not_true, Bool.and_false, Bool.false_eq_true, if_false]
      exact ⟨y, by rw [d7, if_pos rfl], d6⟩
    · have e' : (s == n) = false := by simpa using e
      have h8 := h.fs s hs
      have e9 : findP S2 s = findP S s := by rw [d7, if_neg e, hfd, if_neg e]
      simp only [e', Bool.not_false, Bool.and_true]
      rw [e9]; exact h8
  · rw [d7, if_neg (by rintro rfl; rcases hn with h | h; exact h1 h; exact h2 h), hfd, if_neg (by rintro rfl; rcases hn with h | h; exact h1 h; exact h2 h)]
    exact h.no s h1 h2
theorem rn_end {l1 l2 : List UInt8} {L : List UInt8 → Bool} {S : FsP} (h : RnS l1 l2 L S) (hL : ∀ s, L s = false) :
    ∃ S', renameP S nA nB = (0, S') ∧ S'.down = false ∧ S'.stamp ≤ 1000 ∧ lenV S' nB = .tuple #[.int .i64 (l1.length : Int), .bool true] ∧ readP S' nB 0 (l1.length : Int) = (0, l1) ∧ lenV S' nA = .tuple #[.int .i64 0, .bool false] ∧ (namesP S' []).length = 1 ∧ (renameP S' nA [99]).1 = 6 := by
  have ha := h.fs nA (.inl rfl)
  have hb := h.fs nB (.inr rfl)
  rw [if_neg (by rw [hL]; decide)] at ha hb
  obtain ⟨y, hy, hyB⟩ := ha
  have hyB' : y.B = l1 := by rw [hyB]; exact if_pos rfl
  obtain ⟨h1, h2⟩ := h.up.burn
  have hfd := fun s => find_moved (S := S) (n := nA) (k := nB) (x := y) s
  have hwf := movedF_wf (k := nB) h.wf hy (by decide)
  have hd' : (movedF S nA nB y).down = false := by unfold movedF; rw [h2]; exact h.up.d
  have hB : findP (movedF S nA nB y) nB = some { y with stamp := S.stamp + 1 } := by rw [hfd, if_pos rfl]
  have hA : findP (movedF S nA nB y) nA = none := by rw [hfd, if_neg nab, if_pos rfl]
  refine ⟨movedF S nA nB y, ?_, hd', ?_, ?_, ?_, ?_, ?_, ?_⟩
  · unfold renameP
    rw [h.up.d, hy, h1]
    rfl
  · have := h.stamp
    show S.stamp + 1 ≤ 1000
    omega
  · have e : lenP (movedF S nA nB y) nB = some l1.length := by
      unfold lenP
      rw [hd', hB]
      simp [hyB']
    unfold lenV
    rw [e]
  · rw [read_of 0 _ hd' hB]
    show (if _ then _ else if (y.B.length : Int) < 0 ∨ (y.B.length : Int) - 0 < (l1.length : Int) then _ else _) = _
    rw [hyB', if_neg (by omega), if_neg (by omega)]
    simp
  · unfold lenV lenP
    rw [hd', hA]; rfl
  · have hall : ∀ p ∈ (movedF S nA nB y).fs, p.1 = nB := fun p hp => by
      have := find_mem hwf hp
      rw [hfd] at this
      by_cases e : p.1 = nB
      · exact e
      · rw [if_neg e] at this
        by_cases e' : p.1 = nA
        · rw [if_pos e'] at this; cases this
        · rw [if_neg e', h.no _ e' e] at this; cases this
    have hmem := lookup_mem hB
    have hord := hwf.order
    have hone : (movedF S nA nB y).fs.length = 1 := by
      generalize (movedF S nA nB y).fs = l at hall hmem hord
      match l, hall, hmem, hord with
      | [], _, hm, _ => cases hm
      | [p], _, _, _ => rfl
      | p :: q :: r, ha, _, ho =>
        have h7 := (List.pairwise_cons.1 ho).1 q (List.mem_cons_self ..)
        rw [ha p (List.mem_cons_self ..), ha q (List.mem_cons_of_mem _ (List.mem_cons_self ..))] at h7
        exact absurd h7 (lt_irr _)
    unfold namesP
    rw [List.filter_eq_self.2 (fun n _ => by simp [Lib.hasPrefix]), List.length_map, hone]
  · unfold renameP
    rw [hd', hA]; rfl
/-! ### a map of two slices -/
open Classical in
noncomputable def mR (vA vB v : Value) : Option (DataW Unit × List MemPlace) := if v = vA then some (.lit (.int .i64 0), []) else if v = vB then some (.lit (.int .i64 1), []) else none
open Classical in
noncomputable def dB (vA vB : Value) : DataW Unit := if vB = vA then .lit (.int .i64 0) else .lit (.int .i64 1)
theorem mR_A (vA vB : Value) : mR vA vB vA = some (.lit (.int .i64 0), []) := by unfold mR; rw [if_pos rfl]
theorem mR_B (vA vB : Value) : mR vA vB vB = some (dB vA vB, []) := by
  unfold mR dB
  by_cases e : vB = vA
  · rw [if_pos e, if_pos e]
  · rw [if_neg e, if_neg e, if_pos rfl]
theorem mR_isA {vA vB v : Value} {ps : List MemPlace} (h : mR vA vB v = some (.lit (.int .i64 0), ps)) : v = vA := by
  unfold mR at h
  by_cases e : v = vA
  · exact e
  · rw [if_neg e] at h
    by_cases e' : v = vB
    · rw [if_pos e'] at h
      simp at h
    · rw [if_neg e'] at h; cases h
theorem mR_isB {vA vB v : Value} {ps : List MemPlace} (h : mR vA vB v = some (dB vA vB, ps)) : v = vB := by
  unfold dB at h
  by_cases e : vB = vA
  · rw [if_pos e] at h; rw [mR_isA h, e]
  · rw [if_neg e] at h
    unfold mR at h
    by_cases e1 : v = vA
    · rw [if_pos e1] at h; simp at h
    · rw [if_neg e1] at h
      by_cases e2 : v = vB
      · exact e2
      · rw [if_neg e2] at h; cases h
/-- The map, when some of its entries are in. -/
def MapB (W : World) (m n : Nat) (vA vB : Value) (f : List UInt8 → Bool) : Prop :=
  ∃ D : DataW Unit, W.ownsMap Tryd.prog 9 (mR vA vB) m n D ∧ (∀ s, Maps.has D (.string s) = f s) ∧ (f nA = true → ∀ z, D.atKey (.string nA) z = .lit (.int .i64 0)) ∧ (f nB = true → ∀ z, D.atKey (.string nB) z = dB vA vB)
theorem MapB.made (w : World) (vA vB : Value) : MapB (w.alloc (.map #[] 0)) w.heap.size 0 vA vB (fun _ => false) :=
  ⟨.map [], World.ownsMap_made _ _ _ _, fun _ => rfl, fun h => (by cases h), fun h => (by cases h)⟩
theorem MapB.put {w : World} {m n : Nat} {vA vB : Value} {f : List UInt8 → Bool} (h : MapB w m n vA vB f) (hn : n ≤ 10) {s : ByteArray} {v : Value} (hs : (s.data.toList = nA ∧ v = vA) ∨ (s.data.toList = nB ∧ v = vB)) :
    ∃ w', (Instr.mapUpdate 42 (.map (some m)) (.string s) v).run Tryd.prog w = .ok () w' ∧ MapB w' m (n + 1) vA vB (fun t => if t = s.data.toList then true else f t) ∧ w.grownBy w' (some m) := by
  obtain ⟨D, h1, h2, h3, h4⟩ := h
  obtain ⟨d, hd, hdA, hdB⟩ : ∃ d, mR vA vB v = some (d, []) ∧ (s.data.toList = nA → d = .lit (.int .i64 0)) ∧ (s.data.toList = nB → d = dB vA vB) := by
    rcases hs with ⟨e, rfl⟩ | ⟨e, rfl⟩
    · exact ⟨_, mR_A _ _, fun _ => rfl, fun e2 => absurd (e.symm.trans e2) nab⟩
    · exact ⟨_, mR_B _ _, fun e2 => absurd (e2.symm.trans e) nab, fun _ => rfl⟩
  have hsz : s.size ≤ maxLen := by
    rw [Lib.size_eq]
    rcases hs with ⟨e, _⟩ | ⟨e, _⟩ <;> rw [e] <;> decide
  obtain ⟨w', hrun, h5, h6⟩ := h1.update lawS Tryd.underlying42 (by unfold maxLen; omega) (wfS hsz) hd
  have hlit := lawS.key (wfS hsz)
  have hM : Maps.IsMap D := h1.isMap
  have hne : ∀ x : List UInt8, x ≠ s.data.toList → (Lit.string x) ≠ .string s.data.toList := fun x hx e => hx (by injection e)
  refine ⟨w', hrun, ⟨_, h5, fun x => ?_, fun hf z => ?_, fun hf z => ?_⟩, h6⟩
  · dsimp only
    by_cases hx : x = s.data.toList
    · rw [if_pos hx, hx]; exact Maps.has_put_same hM hlit _
    · rw [if_neg hx, Maps.has_put_other (hne x hx)]; exact h2 x
  · dsimp only at hf
    by_cases hx : nA = s.data.toList
    · rw [hx, Maps.atKey_put_same hM hlit]; exact hdA hx.symm
    · rw [if_neg hx] at hf; rw [Maps.atKey_put_other (hne _ hx)]; exact h3 hf z
  · dsimp only at hf
    by_cases hx : nB = s.data.toList
    · rw [hx, Maps.atKey_put_same hM hlit]; exact hdB hx.symm
    · rw [if_neg hx] at hf; rw [Maps.atKey_put_other (hne _ hx)]; exact h4 hf z
set_option maxRecDepth 100000 in
theorem op_ins {w : World} {ops : Array Oper} {rest : List Oper} {a : Act} {Q : Exit → Act → World → Prop} {d : Option Tmp} {ty : TypeId} {pos : String} {af : Array Edge} {g : Option (Nat × Bool)} {x y z : Operand}
    {m n : Nat} {vA vB : Value} {f : List UInt8 → Bool} (h : MapB w m n vA vB f) (hn : n ≤ 10) {s : ByteArray} {v : Value} (hs : (s.data.toList = nA ∧ v = vA) ∨ (s.data.toList = nB ∧ v = vB)) (hm : a.eval x = .map (some m)) (hk : a.eval y = .string s) (hb : a.eval z = v)
    (hw : Region.wanted { dst := d, op := .insert 42 x y z, type := ty, pos := pos, after := af, guard := g } (yielded ops a.tmps) = true)
    (hK : ∀ w', MapB w' m (n + 1) vA vB (fun t => if t = s.data.toList then true else f t) → w.grownBy w' (some m) → wpList Tryd.prog ops Q rest (a.put d undef) w') :
    wpList Tryd.prog ops Q ({ dst := d, op := .insert 42 x y z, type := ty, pos := pos, after := af, guard := g } :: rest) a w :=
  BigFrame.wpList_want hw fun _ hK' => by
    obtain ⟨w', hrun, h1, h2⟩ := h.put hn hs
    unfold Oper.wp execOp
    simp only [hm, hk, hb, Sem.run_bind, hrun, Result.andThen_ok, Sem.run_pure]
    exact hK' _ _ (hK w' h1 h2)
theorem at_ins {P : Program} {w : World} {ops : Array Oper} {rest : List Oper} {a : Act} {Q : Exit → Act → World → Prop} {d : Option Tmp} {ty t : TypeId} {pos : String} {af : Array Edge} {g : Option (Nat × Bool)} {x y z : Operand}
    (h : wpList P ops Q ({ dst := d, op := .insert t x y z, type := ty, pos := pos, after := af, guard := g } :: rest) a w) : wpList P ops Q ({ dst := d, op := .insert t x y z, type := ty, pos := pos, after := af, guard := g } :: rest) a w := h
/-- The range under way: L says which are still to come. -/
def RngB (W : World) (m r n : Nat) (vA vB : Value) (L : List UInt8 → Bool) (cnt : Nat) : Prop :=
  ∃ (D : DataW Unit) (left : Lit → Bool), W.ranges Tryd.prog 9 (mR vA vB) m r n D left cnt ∧ (∀ z, D.atKey (.string nA) z = .lit (.int .i64 0)) ∧ (∀ z, D.atKey (.string nB) z = dB vA vB) ∧ (∀ s, L s = left (.string s)) ∧ ∀ s, L s = true → s = nA ∨ s = nB
section
variable {w w' : World} {m r n cnt : Nat} {vA vB : Value} {L : List UInt8 → Bool}
theorem RngB.heap (h : RngB w m r n vA vB L cnt) (h1 : w'.heap[m]? = w.heap[m]?) (h2 : w'.heap[r]? = w.heap[r]?) : RngB w' m r n vA vB L cnt := by
  obtain ⟨D, left, ⟨es, clock, since, seen, c0, hb, q1, q2, q3, hr, q4⟩, b⟩ := h
  exact ⟨D, left, ⟨es, clock, since, seen, c0, h1.trans hb, q1, q2, q3, h2.trans hr, q4⟩, b⟩
theorem RngB.lt (h : RngB w m r n vA vB L cnt) : m < w.heap.size ∧ r < w.heap.size := by
  obtain ⟨D, left, ⟨es, clock, since, seen, c0, hb, _, _, _, hr, _⟩, _⟩ := h
  exact ⟨(Array.getElem?_eq_some_iff.1 hb).1, (Array.getElem?_eq_some_iff.1 hr).1⟩
theorem RngB.left (h : RngB w m r n vA vB L cnt) : w.rangeLeft m r = cnt := by obtain ⟨D, left, a, _⟩ := h; exact a.left_eq
theorem range_two {ops : Array Oper} {rest : List Oper} {o : Oper} {a : Act} {Q : Exit → Act → World → Prop} (hg : o.guard = none) (x : Operand) (hop : o.op = Op.range 42 x)
    {f : List UInt8 → Bool} (h : MapB w m n vA vB f) (hf : ∀ s, f s = (s == nA || s == nB)) (hm : a.eval x = .map (some m))
    (hK : ∀ w' cnt L, L nA = true ∧ L nB = true → RngB w' m w.heap.size n vA vB L cnt → w.grownBy w' none → w'.heap.size = w.heap.size + 1 → wpList Tryd.prog ops Q rest (a.put o.dst (.pointer (some ⟨w.heap.size, 0, none⟩))) w') : wpList Tryd.prog ops Q (o :: rest) a w := by
  obtain ⟨D, h1, h2, h3, h4⟩ := h
  have fA : f nA = true := by rw [hf]; decide
  have fB : f nB = true := by rw [hf]; decide
  exact wpList_range_own w hg x _ hop 9 _ lawS Tryd.underlying42 (mR vA vB) m n D hm h1 (fun w' a1 a2 a3 => hK w' _ (fun s => Maps.has D (.string s)) ⟨by rw [h2]; exact fA, by rw [h2]; exact fB⟩ ⟨D, _, a1, h3 fA, h4 fB, fun s => rfl, fun s e => by
    have e2 : Maps.has D (.string s) = true := e
    rw [h2, hf] at e2
    simpa using e2⟩ a2 a3)
theorem next_two {ops : Array Oper} {rest : List Oper} {o : Oper} {a : Act} {Q : Exit → Act → World → Prop} (hg : o.guard = none) (it : Operand) (hop : o.op = Op.next it false)
    (hit : a.eval it = .pointer (some ⟨r, 0, none⟩)) (h : RngB w m r n vA vB L cnt)
    (hDone : (∀ s, L s = false) → wpList Tryd.prog ops Q rest (a.put o.dst (.tuple #[.bool false])) w)
    (hMore : ∀ (s : ByteArray) (v : Value) (w' : World) (cnt' : Nat), L s.data.toList = true → ((s.data.toList = nA ∧ v = vA) ∨ (s.data.toList = nB ∧ v = vB)) → RngB w' m r n vA vB (fun t => L t && !(t == s.data.toList)) cnt' → cnt' < cnt → w.grownBy w' (some r) → w'.heap.size = w.heap.size →
      (Instr.entry (.pointer (some ⟨r, 0, none⟩))).run Tryd.prog w' = .ok (.tuple #[.string s, v]) w' → wpList Tryd.prog ops Q rest (a.put o.dst (.tuple #[.bool true, .string s, v])) w') :
    wpList Tryd.prog ops Q (o :: rest) a w := by
  obtain ⟨D, left, h1, h3, h4, h5, h6⟩ := h
  refine wpList_next_ranges w hg it hop 9 lawS (mR vA vB) Value.string (fun c : Value => c) (fun key kl hk => by obtain ⟨s, hs, _⟩ := Go.WideMaps.string_of_keyOf Tryd.underlying9 hk; exact ⟨s, hs⟩) (fun v y _ => ⟨v, rfl⟩) m r n D left cnt hit h1 (fun _ hl => hDone (fun s => by rw [h5]; exact hl _)) ?_
  intro s c kl y w' cnt' hk hl hv hat hr hc hgr hz hen
  obtain ⟨s', e, rfl, hsz⟩ := Go.WideMaps.string_of_keyOf Tryd.underlying9 hk
  injection e with e
  subst e
  have hL : L s.data.toList = true := by rw [h5]; exact hl
  have hy1 : y.1 = y.1 := rfl
  have hcs : (s.data.toList = nA ∧ c = vA) ∨ (s.data.toList = nB ∧ c = vB) := by
    rcases h6 _ hL with e | e
    · refine .inl ⟨e, ?_⟩
      have h7 := hat (.lit (.int .i64 0))
      rw [e, h3] at h7
      exact mR_isA (ps := y.2) (by rw [hv, h7])
    · refine .inr ⟨e, ?_⟩
      have h7 := hat (.lit (.int .i64 0))
      rw [e, h4] at h7
      exact mR_isB (ps := y.2) (by rw [hv, h7])
  refine hMore s c w' cnt' hL hcs ⟨D, _, hr, h3, h4, fun t => ?_, fun t ht => ?_⟩ hc hgr hz hen
  · dsimp only
    rw [h5 t]
    rfl
  · simp only [Bool.and_eq_true] at ht
    exact h6 t ht.1
end
end Go.Proofs.YtknjopefbbldfaaDoor
