/- A range over a map of pages; a number goes from a row. -/
import Derived.Test.YtoadamkmabkldaaGreatDoorJn24
import Derived.Test.YtoadamkmabkldaaGreatDoorJn04
set_option linter.unusedVariables false
set_option linter.unusedSimpArgs false
namespace Go.Proofs.YtoadamkmabkldaaGreatDoor
open Go.RowKit Go.Shelf Go.Sort
attribute [local go_sem ↓] Go.wp_at_zero Go.wp_at_succ
/-- A range over the pages under way: L says which are still to come. -/
def RngI (W : World) (m r n : Nat) (f : Nat → Option SlT) (L : Nat → Bool) (cnt : Nat) : Prop :=
  ∃ (D : DataW Unit) (left : Lit → Bool), W.ranges Tryz.prog 3 slR m r n D left cnt ∧ (∀ k : Nat, Maps.has D (.int .i64 (k : Int)) = (f k).isSome) ∧ (∀ z : Int, Maps.has D (.int .i64 z) = true → 0 ≤ z) ∧ (∀ k : Nat, L k = left (.int .i64 (k : Int))) ∧ ∀ kl, left kl = true → Maps.has D kl = true
section
variable {w w' : World} {m r n cnt : Nat} {f : Nat → Option SlT} {L : Nat → Bool}
theorem RngI.kept {row : Option Nat} (h : RngI w m r n f L cnt) (hg : w.grownBy w' row) (h1 : some m ≠ row) (h2 : some r ≠ row) : RngI w' m r n f L cnt := by
  obtain ⟨D, left, a, b⟩ := h; exact ⟨D, left, a.kept hg h1 h2, b⟩
theorem RngI.heap (h : RngI w m r n f L cnt) (h1 : w'.heap[m]? = w.heap[m]?) (h2 : w'.heap[r]? = w.heap[r]?) : RngI w' m r n f L cnt := by
  obtain ⟨D, left, ⟨es, clock, since, seen, c0, hb, F, hs, hD, hr, rest⟩, b⟩ := h
  exact ⟨D, left, ⟨es, clock, since, seen, c0, h1.trans hb, F, hs, hD, h2.trans hr, rest⟩, b⟩
theorem RngI.lt (h : RngI w m r n f L cnt) : r < w.heap.size := by obtain ⟨D, left, a, _⟩ := h; exact a.lt
theorem RngI.left (h : RngI w m r n f L cnt) : w.rangeLeft m r = cnt := by obtain ⟨D, left, a, _⟩ := h; exact a.left_eq
/-- range m -/
theorem range_I {ops : Array Oper} {rest : List Oper} {o : Oper} {a : Act} {Q : Exit → Act → World → Prop} (hg : o.guard = none) (x : Operand) (hop : o.op = Op.range 62 x)
    (h : MapI w m n f) (hm : a.eval x = .map (some m))
    (hK : ∀ w' cnt, RngI w' m w.heap.size n f (fun s => (f s).isSome) cnt → w.grownBy w' none → w'.heap.size = w.heap.size + 1 → wpList Tryz.prog ops Q rest (a.put o.dst (.pointer (some ⟨w.heap.size, 0, none⟩))) w') : wpList Tryz.prog ops Q (o :: rest) a w := by
  obtain ⟨D, h1, h2, h3, h4⟩ := h
  exact wpList_range_own w hg x _ hop 3 _ lawI Tryz.underlying62 slR m n D hm h1 (fun w' a1 a2 a3 => hK w' _ ⟨D, _, a1, h2, h4, fun s => (h2 s).symm, fun _ e => e⟩ a2 a3)
theorem slR_sl (v : Value) (y : DataW Unit × List MemPlace) (h : slR v = some y) : ∃ c : Option Addr × Nat × Nat, v = (fun c : Option Addr × Nat × Nat => Value.slice c.1 c.2.1 c.2.2) c := by
  rcases slR_inv (d := y.1) (ps := y.2) h with ⟨rfl, _⟩ | ⟨b, rfl, _⟩
  · exact ⟨(none, 0, 0), rfl⟩
  · exact ⟨(_, _, _), rfl⟩
theorem next_I {ops : Array Oper} {rest : List Oper} {o : Oper} {a : Act} {Q : Exit → Act → World → Prop} (hg : o.guard = none) (it : Operand) (hop : o.op = Op.next it false)
    (hit : a.eval it = .pointer (some ⟨r, 0, none⟩)) (h : RngI w m r n f L cnt)
    (hDone : (∀ k, L k = false) → wpList Tryz.prog ops Q rest (a.put o.dst (.tuple #[.bool false])) w)
    (hMore : ∀ (k : Nat) (v : Value) (w' : World) (cnt' : Nat), L k = true → (f k).isSome = true → RngI w' m r n f (fun t => L t && !(t == k)) cnt' → cnt' < cnt → w.grownBy w' (some r) → w'.heap.size = w.heap.size →
      (Instr.entry (.pointer (some ⟨r, 0, none⟩))).run Tryz.prog w' = .ok (.tuple #[.int .i64 (k : Int), v]) w' → wpList Tryz.prog ops Q rest (a.put o.dst (.tuple #[.bool true, .int .i64 (k : Int), v])) w') :
    wpList Tryz.prog ops Q (o :: rest) a w := by
  obtain ⟨D, left, h1, h2, h3, h4, h5⟩ := h
  refine wpList_next_ranges w hg it hop 3 lawI slR (Value.int .i64) (fun c : Option Addr × Nat × Nat => Value.slice c.1 c.2.1 c.2.2) (fun key kl hk => by obtain ⟨x, rfl, _⟩ := Maps.keyOf_int_inv Tryz.underlying3 hk; exact ⟨x, rfl⟩) slR_sl m r n D left cnt hit h1 (fun _ hl => hDone (fun s => by rw [h4]; exact hl _)) ?_
  intro s c kl y w' cnt' hk hl hv hat hr hc hgr hz hen
  obtain ⟨s', e, rfl, hsz⟩ := Maps.keyOf_int_inv Tryz.underlying3 hk
  injection e with _ e
  subst e
  have hhas := h5 _ hl
  have h0 := h3 _ hhas
  obtain ⟨k, rfl⟩ : ∃ k : Nat, s = (k : Int) := ⟨s.toNat, by omega⟩
  refine hMore k _ w' cnt' (by rw [h4]; exact hl) (by rw [← h2]; exact hhas) ⟨D, _, hr, h2, h3, fun t => ?_, fun t ht => ?_⟩ hc hgr hz hen
  · dsimp only
    rw [h4 t]
    have e2 : (Lit.int .i64 (t : Int)).sameKey (.int .i64 (k : Int)) = (t == k) := by
      by_cases e : t = k
      · subst e; simp [Lit.sameKey]
      · have e3 : ¬ (t : Int) = (k : Int) := by omega
        simp [Lit.sameKey, e, e3]
    rw [e2]
  · simp only [Bool.and_eq_true] at ht
    exact h5 t ht.1
end
theorem RngI.iter {w : World} {m r n cnt : Nat} {f : Nat → Option SlT} {L : Nat → Bool} (h : RngI w m r n f L cnt) : ∃ a b c d, w.heap[r]? = some (.mapIter a b c d) := by
  obtain ⟨D, left, ⟨es, clock, since, seen, c0, hb, F, hs, hD, hr, rest⟩, _⟩ := h
  exact ⟨_, _, _, _, hr⟩
theorem bk_iter {w : World} {r g : Nat} {t : TypeId} {cs : Array Value} (h : ∃ a b c d, w.heap[r]? = some (.mapIter a b c d)) (hg : Bk w g t cs) : g ≠ r := by
  rintro rfl
  obtain ⟨a, b, c, d, e⟩ := h
  unfold Bk at hg
  rw [hg] at e; cases e
theorem map_iter {w : World} {r m n : Nat} {f : Nat → Option SlT} (h : ∃ a b c d, w.heap[r]? = some (.mapIter a b c d)) (hg : MapI w m n f) : m ≠ r := by
  rintro rfl
  obtain ⟨a, b, c, d, e⟩ := h
  obtain ⟨D, ⟨es, cl, hb, _⟩, _⟩ := hg
  rw [hb] at e; cases e
theorem PgM.ne_iter {w : World} {f p mch mcl m r n cnt : Nat} {nm : ByteArray} {P : PgP} {tch tcl : Nat → SlT} {vrow : Value} {g : Nat → Option SlT} {L : Nat → Bool} (h : PgM w f p nm P mch mcl tch tcl vrow) (hr : RngI w m r n g L cnt) : ∀ i, PgO p mch mcl tch tcl vrow P i → i ≠ r := by
  have hi := hr.iter
  rintro i (rfl | rfl | rfl | e | ⟨k, c, hk, rfl⟩ | ⟨k, hk, rfl⟩)
  · exact bk_iter hi h.hd
  · exact map_iter hi h.ch
  · exact map_iter hi h.cl
  · obtain ⟨cs, hb⟩ := h.rb i e
    exact bk_iter hi hb
  · obtain ⟨cs, hb, _⟩ := h.cb k c hk
    exact bk_iter hi hb
  · obtain ⟨cs, hb, _⟩ := h.lb k hk
    exact bk_iter hi hb
theorem eqn_gives (x : Int) (no B : Nat) (W : World) (hc : W.cell? ⟨B, 0, none⟩ = some (.int .i64 (no : Int))) :
    FnGives Tryz.prog 81 #[.pointer (some ⟨B, 0, none⟩)] #[.int .i64 x] (.bool (decide (x = (no : Int)))) W := by
  show Calls Tryz.prog 81 #[.int .i64 x, .pointer (some ⟨B, 0, none⟩)] W _
  go_enter Tryz.func81, Tryz.ntmps81
  go_wp2_with fail
  go_ret
  exact ⟨rfl, 0, rfl⟩
theorem del_zero (g : FuncId) (lb : Array Value) (A : Option Addr) (c : Nat) (w : World) :
    Calls Tryz.prog 80 #[.slice A 0 c, .func (.func g) #[] lb] w fun e w' => e = .returned (.slice A 0 c) ∧ Below w.heap.size w w' := by
  have HI : Hid (∀ W, Calls Tryz.prog 100 #[.slice A 0 c, .func (.func g) #[] lb] W fun e w' => e = .returned (.int .i64 (-1)) ∧ Below W.heap.size W w') := Lib.hid (fun W => by
    go_enter Tryz.func100, Tryz.ntmps100
    go_wp2_with fail
    go_loopw [8] (fun s8 wr => s8 = .int .i64 0 ∧ Hid (Below W.heap.size W wr)) (fun _ _ => 0)
    case atStart => exact ⟨rfl, Lib.hid (Below.refl _ _)⟩
    case round =>
      obtain ⟨rfl, hrel⟩ := hrel
      go_wp2_with fail
      go_ret
      exact ⟨rfl, hrel.out⟩)
  go_enter Tryz.func80, Tryz.ntmps80
  go_wp2_with fail
  with_reducible refine (HI.out _).mono ?_
  rintro e w1 ⟨rfl, b1⟩
  have B1 := Lib.hid b1
  clear b1
  go_wp2_with fail
  go_ret
  exact ⟨rfl, B1.out⟩
theorem natI_filter (q : List Nat) (no : Nat) : (natI q).filter (fun x => !decide (x = (no : Int))) = natI (q.filter fun k => k != no) := by
  induction q with
  | nil => rfl
  | cons a r ih =>
    unfold natI at ih ⊢
    rw [List.map_cons, List.filter_cons, List.filter_cons]
    by_cases e : a = no
    · subst e; simp; simpa using ih
    · have e3 : ¬ (a : Int) = (no : Int) := by omega
      simp [e, e3]; simpa using ih
theorem bk_putRow {w : World} {g o : Nat} {t : TypeId} {cs : Array Value} {d : Array Int} (h : Bk w g t cs) : Bk (Sort.putRow (Value.int .i64) w g o d) g t (Sort.putCells (Value.int .i64) o d cs) := by
  unfold Bk at h ⊢
  unfold Sort.putRow Sort.mapBlock
  show (w.heap.modify g (Sort.onCells (Sort.putCells (Value.int .i64) o d)))[g]? = _
  rw [Array.getElem?_modify, if_pos rfl, h]
  rfl
/-- What is left of a row without a number. -/
def DelR (v : Value) (q : List Nat) (no : Nat) (w : World) (e : Ending) (w' : World) : Prop :=
  ∃ A cc, e = .returned (.slice A (q.filter fun k => k != no).length cc) ∧ QuN w' 0 (.slice A (q.filter fun k => k != no).length cc) (q.filter fun k => k != no) ∧
    (Value.slice A (q.filter fun k => k != no).length cc).ownBlock = v.ownBlock ∧ Ch (fun i => v.ownBlock = some i) w w' ∧ (∀ i cs, v.ownBlock = some i → Bk w i 3 cs → ∃ cs', Bk w' i 3 cs')
theorem delrow_zero (no B : Nat) (A : Option Addr) (c : Nat) (w : World) (h : QuN w 0 (.slice A 0 c) []) :
    Calls Tryz.prog 80 #[.slice A 0 c, .func (.func 81) #[] #[.pointer (some ⟨B, 0, none⟩)]] w (DelR (.slice A 0 c) [] no w) := by
  refine (del_zero 81 #[.pointer (some ⟨B, 0, none⟩)] A c w).mono ?_
  rintro e w' ⟨rfl, hb⟩
  exact ⟨A, c, rfl, h.heap hb.size (fun k hk hl => hb.block k hl), rfl, Ch.of_below hb (Nat.le_refl _), fun i cs _ hcs => ⟨cs, (hb.block i hcs.lt).trans hcs⟩⟩
/-- The row without a number. -/
theorem delrow_any (no B : Nat) (v : Value) (q : List Nat) (w : World) (h : QuN w 0 v q) (hB : B < w.heap.size) (hc : w.cell? ⟨B, 0, none⟩ = some (.int .i64 (no : Int))) (hv : v.ownBlock ≠ some B) (hq : q.length ≤ 1000000) :
    Calls Tryz.prog 80 #[v, .func (.func 81) #[] #[.pointer (some ⟨B, 0, none⟩)]] w (DelR v q no w) := by
  rcases id h with ⟨rfl, rfl⟩ | ⟨A, n, c, rfl, h5, h1, h2, h3, h4⟩
  · exact delrow_zero no B none 0 w h
  · rcases Nat.eq_zero_or_pos n with h0 | h0
    · subst h0
      have hq0 : q = [] := List.eq_nil_of_length_eq_zero h1
      subst hq0
      exact delrow_zero no B (some A) c w h
    · rcases h4 with h4 | ⟨g, o, cs, rfl, _, hb, hsz, htk⟩
      · omega
      subst h1
      have hgB : g ≠ B := by
        intro e; apply hv; rw [← e]; rfl
      have hlen : (natI q).toArray.size = q.length := by simp [natI]
      have hcs : ∀ j, j < q.length → cs[o + j]? = some (.int .i64 ((natI q).toArray[j]!)) := fun j hj => by
        have h1 : (nIt q)[j]? = some (.int .i64 ((natI q).toArray[j]!)) := by
          have hj2 : j < (natI q).toArray.size := by omega
          rw [getElem!_pos _ j hj2]
          unfold nIt its
          rw [List.getElem?_map, List.getElem?_eq_getElem (by simpa [natI] using hj)]
          simp
        rw [← h1, ← htk, List.getElem?_take, if_pos hj, List.getElem?_drop, Array.getElem?_toList]
      have hH : Sort.Holds (Value.int .i64) w g o (natI q).toArray := fun j hj => by
        rw [hlen] at hj
        exact ⟨by rw [hb.cell]; exact hcs j hj, hb.free _⟩
      have eg : ∀ args w, (callFunc 81 args).run Tryz.prog w = .ok (.enter 81 args) w := enters_of Tryz.func81 (by kernel_rfl) rfl
      have hcon := AnyE.slices_DeleteFunc Tryz.delI (Value.int .i64) (fun _ => rfl) (fun x => decide (x = (no : Int))) 81 #[.pointer (some ⟨B, 0, none⟩)] eg (0 : Int) (fun w => Tryz.zeroValue3 w) g o c (natI q).toArray w
        (fun W x hb => eqn_gives x no B W ((hb.cell (p := ⟨B, 0, none⟩) hB).trans hc))
        (fun n os dk x _ => eqn_gives x no B _ (by
          unfold sortWorld
          rw [cell?_grow _ _ _ (by show B < (Sort.putRow _ _ _ _ _).heap.size; rw [Sort.size_putRow]; exact hB), Sort.cell?_putRow_other _ _ g o _ _ (Or.inl (Ne.symm hgB))]
          exact hc))
        hH (by rw [hlen]; omega) (by rw [hlen]; exact h2)
      rw [hlen] at hcon
      refine hcon.mono ?_
      rintro e w' ⟨rfl, m, rfl⟩
      have hfl : ((natI q).toArray.toList.filter fun x => !decide (x = (no : Int))) = natI (q.filter fun k => k != no) := natI_filter q no
      have hll : (natI (q.filter fun k => k != no)).length = (q.filter fun k => k != no).length := by simp [natI]
      have hle : (q.filter fun k => k != no).length ≤ q.length := List.length_filter_le _ _
      rw [hfl, hll]
      have hbk := bk_putRow (o := o) (d := (natI (q.filter fun k => k != no) ++ List.replicate (q.length - (q.filter fun k => k != no).length) 0).toArray) (show Bk (Sort.ahead w m) g 3 cs from hb)
      refine ⟨some ⟨g, o, none⟩, c, rfl, .inr ⟨_, _, c, rfl, by rw [Sort.size_putRow]; exact h5, rfl, by omega, h3, .inr ⟨g, o, _, rfl, Nat.zero_le _, hbk, by simp [Sort.putCells]; exact hsz, ?_⟩⟩, rfl, ?_, fun i cs2 hi _ => ?_⟩
      · apply List.ext_getElem?
        intro j
        rw [List.getElem?_take]
        by_cases hj : j < (q.filter fun k => k != no).length
        · rw [if_pos hj, List.getElem?_drop, Array.getElem?_toList]
          unfold Sort.putCells
          rw [Array.getElem?_mapIdx, hcs j (by omega), Option.map_some]
          have hds : (natI (q.filter fun k => k != no) ++ List.replicate (q.length - (q.filter fun k => k != no).length) (0 : Int)).toArray.size = q.length := by simp [natI]; omega
          rw [hds, if_pos ⟨by omega, by omega⟩, show o + j - o = j by omega, getElem!_pos _ j (by rw [hds]; omega)]
          simp only [List.getElem_toArray]
          rw [List.getElem_append_left (by simpa [natI] using hj)]
          unfold nIt its
          rw [List.getElem?_map, List.getElem?_eq_getElem (by simpa [natI] using hj)]
          rfl
        · rw [if_neg hj, List.getElem?_eq_none (by simp [nIt, natI, its]; omega)]
      · refine ⟨rfl, rfl, rfl, by rw [Sort.size_putRow]; exact Nat.le_refl _, fun k hk hn => ?_⟩
        have hgk : ¬ g = k := by
          rintro rfl; exact hn rfl
        show (w.heap.modify g _)[k]? = _
        rw [Array.getElem?_modify, if_neg hgk]
      · simp [Value.ownBlock] at hi
        subst hi
        exact ⟨_, hbk⟩
end Go.Proofs.YtoadamkmabkldaaGreatDoor
/- Contracts of package pager: commit. -/
namespace Go.Proofs.YtoadamkmabkldaaGreatDoor
open Go.RowKit Go.Shelf
attribute [local go_sem ↓] Go.wp_at_zero Go.wp_at_succ
theorem wls_len (l : List (Nat × List UInt8)) : (wls l).length = l.length := by simp [wls]
theorem nos_wls (l : List (Nat × List UInt8)) : nosOf (wls l) = natI (l.map (·.1)) := by
  unfold nosOf wls natI
  simp [List.map_map, Function.comp]
theorem risB_natI : ∀ (l : List Nat) (y : Int), (∀ k ∈ l, y < (k : Int) ∧ k < 16777216) → l.Pairwise (· < ·) → risB y (natI l) = true
  | [], _, _, _ => rfl
  | k :: r, y, h, hs => by
    obtain ⟨h1, h2⟩ := List.pairwise_cons.1 hs
    obtain ⟨h3, h4⟩ := h k (List.mem_cons_self ..)
    have ih := risB_natI r (k : Int) (fun j hj => ⟨by have := h1 j hj; omega, (h j (List.mem_cons_of_mem _ hj)).2⟩) h2
    unfold natI at ih ⊢
    simp only [List.map_cons, risB, ih]
    simp [fitsB]
    omega
theorem bat_len (h : HdP) (ch : List (Nat × List UInt8)) : (batP h ch).length = ch.length + 1 := by simp [batP]
theorem bat_srt {h : HdP} {ch : List (Nat × List UInt8)} (hs : ch.Pairwise fun p q => p.1 < q.1) (hk : ∀ q ∈ ch, 1 ≤ q.1) : (batP h ch).Pairwise fun p q => p.1 < q.1 := by
  unfold batP
  rw [List.pairwise_map]
  rw [← putK_zero hk]
  exact sorted_putK 0 _ _ hs
theorem bat_mem {h : HdP} {ch : List (Nat × List UInt8)} (hr : h.roots.length = 8) (hk : ∀ q ∈ ch, 1 ≤ q.1 ∧ q.1 < 65536 ∧ q.2.length = 508) {q : Nat × List UInt8} (hq : q ∈ batP h ch) : q.1 < 65536 ∧ q.2.length = 512 := by
  unfold batP at hq
  obtain ⟨p, hp, rfl⟩ := List.mem_map.1 hq
  rcases List.mem_cons.1 hp with rfl | hp
  · exact ⟨by show 0 < 65536; omega, sealB_len _ _ (by rw [hdB_len hr]; omega)⟩
  · exact ⟨(hk p hp).2.1, sealB_len _ _ (by rw [(hk p hp).2.2]; omega)⟩
theorem bat_ok {h : HdP} {ch : List (Nat × List UInt8)} (hr : h.roots.length = 8) (hs : ch.Pairwise fun p q => p.1 < q.1) (hk : ∀ q ∈ ch, 1 ≤ q.1 ∧ q.1 < 65536 ∧ q.2.length = 508) (hl : ch.length < 4096) : walOk (wls (batP h ch)) = true := by
  unfold walOk
  rw [wls_len, bat_len, nos_wls, risB_natI _ _ (fun k hk2 => ?_) ?_, decide_eq_true (by omega)]
  · simp only [Bool.true_and, List.all_eq_true, decide_eq_true_eq]
    intro p hp
    unfold wls at hp
    obtain ⟨q, hq, rfl⟩ := List.mem_map.1 hp
    exact (bat_mem hr hk hq).2
  · rw [List.pairwise_map]
    exact bat_srt hs (fun q hq => (hk q hq).1)
  · obtain ⟨q, hq, rfl⟩ := List.mem_map.1 hk2
    have := (bat_mem hr hk hq).1
    omega
/-- The pager without a kept page. -/
theorem PgM.strike {w w1 w2 : World} {f p mch mcl no n1 A0 : Nat} {nm : ByteArray} {P : PgP} {tch tcl : Nat → SlT} {vrow v3 : Value} (h : PgM w f p nm P mch mcl tch tcl vrow) (hn : P.row.Nodup)
    (m1 : MapI w1 mcl n1 (fun k => if k = no then none else if k ∈ P.row then some (tcl k) else none)) (g1 : w.grownBy w1 (some mcl)) (hA : A0 = w1.heap.size) (h2 : Ch (fun i => vrow.ownBlock = some i) w1 w2)
    (q3 : QuN w2 0 v3 (P.row.filter fun k => k != no)) (hv : v3.ownBlock = vrow.ownBlock) (hb : ∀ i cs, vrow.ownBlock = some i → Bk w1 i 3 cs → ∃ cs', Bk w2 i 3 cs') :
    PgM (w2.setCell ⟨p, 24, none⟩ v3) f p nm { P with row := P.row.filter fun k => k != no } mch mcl tch tcl v3 ∧ Ch (fun i => i = p ∨ i = mcl ∨ vrow.ownBlock = some i) w (w2.setCell ⟨p, 24, none⟩ v3) ∧ Bk w2 p 67 (pgC f nm P.now P.last mch mcl vrow P.reads P.dead) := by
  have hrp : vrow.ownBlock ≠ some p := by
    intro e
    obtain ⟨cs, hb⟩ := h.rb p e
    exact absurd (bk_ty h.hd hb) (by decide)
  have hrm : vrow.ownBlock ≠ some mcl := by
    intro e
    obtain ⟨cs, hb⟩ := h.rb mcl e
    exact (h.cl.ne hb) rfl
  have b1 : Bk w1 p 67 (pgC f nm P.now P.last mch mcl vrow P.reads P.dead) := h.hd.grown g1 (by intro e; injection e with e; exact (h.cl.ne h.hd) e.symm)
  have b2 : Bk w2 p 67 (pgC f nm P.now P.last mch mcl vrow P.reads P.dead) := b1.ch h2 hrp
  have hc1 : Ch (fun i => i = p ∨ i = mcl ∨ vrow.ownBlock = some i) w w1 := (Ch.refl _ _).grown g1 (fun i e => by injection e with e; exact .inl (.inr (.inl e.symm)))
  have hc2 : Ch (fun i => i = p ∨ i = mcl ∨ vrow.ownBlock = some i) w w2 := hc1.trans h2 (fun i e => .inl (.inr (.inr e)))
  have b3 : Bk (w2.setCell ⟨p, 24, none⟩ v3) p 67 (pgC f nm P.now P.last mch mcl v3 P.reads P.dead) := pgC_row f nm P.now P.last mch mcl vrow v3 P.reads P.dead ▸ b2.set 24 v3
  have hc3 : Ch (fun i => i = p ∨ i = mcl ∨ vrow.ownBlock = some i) w (w2.setCell ⟨p, 24, none⟩ v3) := hc2.set (p := ⟨p, 24, none⟩) (.inl (.inl rfl)) v3
  have e3 : ∀ i, i ≠ p → (w2.setCell ⟨p, 24, none⟩ v3).heap[i]? = w2.heap[i]? := fun i hi => Below.heap_setCell w2 ⟨p, 24, none⟩ v3 i hi
  refine ⟨h.rekeep hc3 b3 ?_ (fun k hk => ?_) (q3.heap (Nat.le_of_eq (by simp [World.setCell])) (fun i hi _ => e3 i (by rintro rfl; exact hrp (hv ▸ hi)))) (fun i hi => ?_), hc3, b2⟩
  · have hm2 : MapI (w2.setCell ⟨p, 24, none⟩ v3) mcl n1 (fun k => if k = no then none else if k ∈ P.row then some (tcl k) else none) := m1.heap ((e3 mcl (h.cl.ne h.hd)).trans (h2.block mcl m1.lt hrm))
    refine (hm2.congr (g := fun k => if k ∈ (P.row.filter fun k => k != no) then some (tcl k) else none) (fun k => ?_)).tightN (hn.filter _) (fun k => ?_)
    · by_cases e : k = no
      · subst e; simp
      · simp [e]
    · by_cases e : k ∈ (P.row.filter fun k => k != no)
      · simp [e]
      · simp [e]
  · have hk2 : k ∈ P.row := (List.mem_filter.1 hk).1
    exact (h.lb k hk2).heap (hc3.block _ (h.lb k hk2).lt (h.page_ne (h.lb k hk2)))
  · obtain ⟨cs, hbk⟩ := h.rb i (hv ▸ hi)
    have hb1 : Bk w1 i 3 cs := hbk.grown g1 (by intro e; injection e with e; exact (h.cl.ne hbk) e.symm)
    obtain ⟨cs2, hb2⟩ := hb i cs (hv ▸ hi) hb1
    exact ⟨cs2, (e3 i (by rintro rfl; exact hrp (hv ▸ hi))).trans hb2⟩
theorem syncF_stamp (S : FsP) (n : List UInt8) : (syncF S n).2.stamp ≤ S.stamp := by
  have hb := (burntP_parts S).2.1
  unfold syncF
  split
  · exact Nat.le_refl _
  · split
    · exact Nat.le_refl _
    · split
      · show (burntP S).stamp ≤ _; omega
      · show (burntP S).stamp ≤ _; omega
theorem cutF_stamp (S : FsP) (n : List UInt8) (k : Int) : (cutF S n k).2.stamp ≤ S.stamp + 1 := by
  have hb := (burntP_parts S).2.1
  unfold cutF
  split
  · exact Nat.le_succ _
  · split
    · exact Nat.le_succ _
    · split
      · exact Nat.le_succ _
      · split
        · show (burntP S).stamp ≤ _; omega
        · exact Nat.le_refl _
theorem runS_stamp (c : Nat) : ∀ (l : List (FsP → Nat × FsP)) (S : FsP), (∀ k ∈ l, ∀ S, (k S).2.stamp ≤ S.stamp + c) → (runS S l).2.stamp ≤ S.stamp + c * l.length
  | [], S, _ => by show S.stamp ≤ _; omega
  | k :: r, S, h => by
    have h1 := h k (List.mem_cons_self ..) S
    have h2 := runS_stamp c r (k S).2 (fun j hj => h j (List.mem_cons_of_mem _ hj))
    rw [List.length_cons, Nat.mul_succ]
    show (if (k S).1 = 0 then runS (k S).2 r else k S).2.stamp ≤ _
    generalize c * r.length = m at *
    split
    · omega
    · omega
theorem layP_stamp (nm : List UInt8) (l : List (Nat × List UInt8)) (S : FsP) : (layP nm l S).2.stamp ≤ S.stamp + (l.length + 1) := by
  have := runS_stamp 1 (l.map (layOne nm) ++ [fun S => syncF S (dbN nm)]) S (fun k hk S => by
    rcases List.mem_append.1 hk with hk | hk
    · obtain ⟨q, _, rfl⟩ := List.mem_map.1 hk
      exact writeP_stamp _ _ _ _
    · simp at hk
      subst hk
      have := syncF_stamp S (dbN nm)
      show (syncF S (dbN nm)).2.stamp ≤ S.stamp + 1
      omega)
  unfold layP
  simpa using this
theorem comStep_stamp {nm b : List UInt8} {l : List (Nat × List UInt8)} (hl : l.length ≤ 4096) {k : FsP → Nat × FsP} (hk : k ∈ comSteps nm b l) (S : FsP) : (k S).2.stamp ≤ S.stamp + 5000 := by
  unfold comSteps at hk
  simp only [List.mem_cons, List.not_mem_nil, or_false] at hk
  rcases hk with rfl | rfl | rfl | rfl | rfl | rfl
  · have := writeP_stamp S (logN nm) 0 b; dsimp only; omega
  · have := syncF_stamp S (logN nm); dsimp only; omega
  · have := writeP_stamp S (logN nm) (b.length : Int) doneD; dsimp only; omega
  · have := syncF_stamp S (logN nm); dsimp only; omega
  · have := layP_stamp nm l S; dsimp only; omega
  · have := cutF_stamp S (logN nm) 0; dsimp only; omega
theorem runS_step {S S1 : FsP} {L : List (FsP → Nat × FsP)} {i : Nat} {k : FsP → Nat × FsP} (h : runS S (L.take i) = (0, S1)) (hk : L[i]? = some k) :
    runS S (L.take (i + 1)) = k S1 ∧ ((k S1).1 ≠ 0 → runS S L = k S1) := by
  constructor
  · rw [take_step hk, runS_at _ _ h]
    split
    · rename_i e; show (0, _) = _; rw [← e]
    · rfl
  · intro hne
    have hlt := (List.getElem?_eq_some_iff.1 hk).1
    have e : L = L.take i ++ k :: L.drop (i + 1) := by
      have e2 := List.take_append_drop i L
      rw [List.drop_eq_getElem_cons hlt, (List.getElem?_eq_some_iff.1 hk).2] at e2
      exact e2.symm
    conv => lhs; rw [e]
    rw [runS_at _ _ h, if_neg hne]
theorem CmW.more {W W' : World} {O O2 : Nat → Prop} {f p bp bb : Nat} {nm : ByteArray} {v : Value} (h : CmW W O f p bp bb nm v) (hc : Ch O W W') (hO : ∀ i, O2 i → O i ∨ W.heap.size ≤ i) : CmW W' O2 f p bp bb nm v := by
  have h2 := h.ch hc
  have := h.pl
  have := h.bpl
  have := h.bbl
  exact ⟨h2.p0, h2.p1, h2.bp0, h2.bb0, fun e => by rcases hO p e with e | e; exact h.pn e; omega, fun e => by rcases hO bp e with e | e; exact h.bpn e; omega, fun e => by rcases hO bb e with e | e; exact h.bbn e; omega, h2.pl, h2.bpl, h2.bbl⟩
/-- One step of a commit, whichever. -/
theorem com_step {w6 wr : World} {O' : Nat → Prop} {f p bp bl bb mch mcl n1 c1 N2 c2 i : Nat} {nm : ByteArray} {S Si S2 : FsP} {rc : Nat} {A1 A2 : Option Addr} {b : List UInt8} {l : List (Nat × List UInt8)} {P : PgP} {tch tcl : Nat → SlT} {vrow : Value} {base : Nat}
    (hK1 : CmW w6 O' f p bp bl nm (.slice A1 n1 c1)) (hK2 : CmW w6 O' f p bp bb nm (.slice A2 N2 c2)) (hr1 : RdWr w6 (fun i => base ≤ i) A1 n1 l) (hO' : ∀ i, O' i → i < base) (hbase : base ≤ w6.heap.size) (ho2 : w6.ownsRow base 5 1 (.slice A2 N2 c2) N2 (bys b)) (hN2 : N2 = b.length) (hNb : N2 ≤ 100000) (hN0 : 0 < N2)
    (hM : PgM w6 f p nm P mch mcl tch tcl vrow) (hl : l.length ≤ 4096) (hno : ∀ q ∈ l, q.1 ≤ 16777216) (hlen : ∀ q ∈ l, q.2.length = 512) (hs : nm.size ≤ 100)
    (hF : FsA wr (fun k => O' k ∨ w6.heap.size ≤ k) f Si) (hC : Ch O' w6 wr) (hst : Si.stamp ≤ 950000) (k : FsP → Nat × FsP) (hk : (comSteps nm.data.toList b l)[i]? = some k) (hrc : (rc, S2) = k Si) :
    (i = 0 → Calls Tryz.prog 72 #[.pointer (some ⟨bp, 0, none⟩), .pointer (some ⟨bb, 0, none⟩)] wr fun e w' => e = .returned (.int .i64 (rc : Int)) ∧ FsA w' (fun k => O' k ∨ w6.heap.size ≤ k) f S2 ∧ Ch O' w6 w') ∧
    (i = 1 → Calls Tryz.prog 74 #[.pointer (some ⟨bp, 0, none⟩)] wr fun e w' => e = .returned (.int .i64 (rc : Int)) ∧ FsA w' (fun k => O' k ∨ w6.heap.size ≤ k) f S2 ∧ Ch O' w6 w') ∧
    (i = 2 → Calls Tryz.prog 76 #[.pointer (some ⟨bp, 0, none⟩), .pointer (some ⟨bb, 0, none⟩)] wr fun e w' => e = .returned (.int .i64 (rc : Int)) ∧ FsA w' (fun k => O' k ∨ w6.heap.size ≤ k) f S2 ∧ Ch O' w6 w') ∧
    (i = 3 → Calls Tryz.prog 77 #[.pointer (some ⟨bp, 0, none⟩)] wr fun e w' => e = .returned (.int .i64 (rc : Int)) ∧ FsA w' (fun k => O' k ∨ w6.heap.size ≤ k) f S2 ∧ Ch O' w6 w') ∧
    (i = 4 → Calls Tryz.prog 78 #[.pointer (some ⟨bp, 0, none⟩), .pointer (some ⟨bl, 0, none⟩)] wr fun e w' => e = .returned (.int .i64 (rc : Int)) ∧ FsA w' (fun k => O' k ∨ w6.heap.size ≤ k) f S2 ∧ Ch O' w6 w') ∧
    (i = 5 → Calls Tryz.prog 79 #[.pointer (some ⟨bp, 0, none⟩)] wr fun e w' => e = .returned (.int .i64 (rc : Int)) ∧ FsA w' (fun k => O' k ∨ w6.heap.size ≤ k) f S2 ∧ Ch O' w6 w') := by
  have hz := hC.size
  have hOr : ∀ i, ((O' i ∨ w6.heap.size ≤ i) ∧ i < wr.heap.size) → O' i ∨ w6.heap.size ≤ i := fun i hi => hi.1
  have k1 := hK1.more hC hOr
  have k2 := hK2.more hC hOr
  have kp : CmW wr (fun i => (O' i ∨ w6.heap.size ≤ i) ∧ i < wr.heap.size) f p bp bp nm (.pointer (some ⟨p, 0, none⟩)) := ⟨k1.p0, k1.p1, k1.bp0, k1.bp0, k1.pn, k1.bpn, k1.bpn, k1.pl, k1.bpl, k1.bpl⟩
  have hFr : FsA wr (fun i => (O' i ∨ w6.heap.size ≤ i) ∧ i < wr.heap.size) f Si := hF.mono (fun i hi hl => ⟨hi, hl⟩)
  have post : ∀ {fn : FuncId} {args : Array Value}, (Calls Tryz.prog fn args wr fun e w' => e = .returned (.int .i64 ((k Si).1 : Int)) ∧ FsA w' (fun j => ((O' j ∨ w6.heap.size ≤ j) ∧ j < wr.heap.size) ∨ wr.heap.size ≤ j) f (k Si).2 ∧ Ch (fun i => (O' i ∨ w6.heap.size ≤ i) ∧ i < wr.heap.size) wr w') →
      Calls Tryz.prog fn args wr fun e w' => e = .returned (.int .i64 (rc : Int)) ∧ FsA w' (fun k => O' k ∨ w6.heap.size ≤ k) f S2 ∧ Ch O' w6 w' := fun hc => hc.mono (by
    rintro e w' ⟨rfl, h1, h2⟩
    have e1 : rc = (k Si).1 := congrArg (·.1) hrc
    have e2 : S2 = (k Si).2 := congrArg (·.2) hrc
    rw [e1, e2]
    exact ⟨rfl, h1.mono (fun j hj _ => by
      rcases hj with e | e
      · exact e.1
      · exact .inr (by omega)), hC.trans h2 (fun j hj => hj.1)⟩)
  obtain ⟨g, hg, hrs⟩ := own_rs ho2
  have hgn : 0 < N2 → ¬ ((O' g ∨ w6.heap.size ≤ g) ∧ g < wr.heap.size) := fun h0 e => by
    obtain ⟨_, a2, a3⟩ := hg h0
    rcases e.1 with e | e
    · have := hO' g e; omega
    · omega
  obtain ⟨A2', c2', hv2, hc21, hc22⟩ := own_form ho2
  injection hv2 with v1 _ v3
  subst v1 v3
  have hrs2 : 0 < N2 → Rs wr g A2 b := fun h0 => hrs.heap (hC.block g (hg h0).2.2 (fun e => by have := hO' g e; have := (hg h0).2.1; omega))
  refine ⟨?_, ?_, ?_, ?_, ?_, ?_⟩
  all_goals (rintro rfl; refine post ?_)
  all_goals (unfold comSteps at hk; simp only [List.getElem?_cons_zero, List.getElem?_cons_succ, Option.some.injEq] at hk; subst hk)
  · exact cm1_any f p bp bb _ Si nm wr _ hFr k2 hs (by omega) N2 c2 g A2 b rfl hN2 hNb hc21 hc22 (hrs2 hN0) (hgn hN0) (by have := (hg hN0).2.2; omega)
  · exact cm2_any f p bp bp _ Si nm wr _ hFr kp hs (by omega)
  · have := cm3_any f p bp bb _ Si nm wr _ hFr k2 hs (by omega) N2 c2 A2 rfl
    rw [hN2] at this
    exact this
  · exact cm4_any f p bp bp _ Si nm wr _ hFr kp hs (by omega)
  · have hr2 : RdWr wr (fun i => base ≤ i ∧ i < w6.heap.size) A1 n1 l := (hr1.mono (V' := fun i => base ≤ i ∧ i < w6.heap.size) (fun i hi hl => ⟨hi, hl⟩)).heap hz (fun i hi hl => hC.block i hl (fun e => by have := hO' i e; have := hi.1; omega))
    have hMr := hM.hd.ch hC hK1.pn
    have hn1 := hr1.1
    exact cm5_any f p bp bl _ Si nm wr _ hFr k1 hs (by omega) (fun i => base ≤ i ∧ i < w6.heap.size) n1 c1 A1 l _ hMr rfl hr2 (fun i hi e => by
      rcases e.1 with e | e
      · have := hO' i e; have := hi.1; omega
      · have := hi.2; omega) hno hlen (by omega) (by omega)
  · exact cm6_any f p bp bp _ Si nm wr _ hFr kp hs (by omega)
theorem com_index (bp bl bb : Nat) :
    (∀ W, (Instr.index 110 (.agg #[(.func (.func 72) #[] #[.pointer (some ⟨bp, 0, none⟩), .pointer (some ⟨bb, 0, none⟩)]), (.func (.func 74) #[] #[.pointer (some ⟨bp, 0, none⟩)]), (.func (.func 76) #[] #[.pointer (some ⟨bp, 0, none⟩), .pointer (some ⟨bb, 0, none⟩)]), (.func (.func 77) #[] #[.pointer (some ⟨bp, 0, none⟩)]), (.func (.func 78) #[] #[.pointer (some ⟨bp, 0, none⟩), .pointer (some ⟨bl, 0, none⟩)]), (.func (.func 79) #[] #[.pointer (some ⟨bp, 0, none⟩)])]) (.int .i64 0)).run Tryz.prog W = .ok (.func (.func 72) #[] #[.pointer (some ⟨bp, 0, none⟩), .pointer (some ⟨bb, 0, none⟩)]) W) ∧
    (∀ W, (Instr.index 110 (.agg #[(.func (.func 72) #[] #[.pointer (some ⟨bp, 0, none⟩), .pointer (some ⟨bb, 0, none⟩)]), (.func (.func 74) #[] #[.pointer (some ⟨bp, 0, none⟩)]), (.func (.func 76) #[] #[.pointer (some ⟨bp, 0, none⟩), .pointer (some ⟨bb, 0, none⟩)]), (.func (.func 77) #[] #[.pointer (some ⟨bp, 0, none⟩)]), (.func (.func 78) #[] #[.pointer (some ⟨bp, 0, none⟩), .pointer (some ⟨bl, 0, none⟩)]), (.func (.func 79) #[] #[.pointer (some ⟨bp, 0, none⟩)])]) (.int .i64 1)).run Tryz.prog W = .ok (.func (.func 74) #[] #[.pointer (some ⟨bp, 0, none⟩)]) W) ∧
    (∀ W, (Instr.index 110 (.agg #[(.func (.func 72) #[] #[.pointer (some ⟨bp, 0, none⟩), .pointer (some ⟨bb, 0, none⟩)]), (.func (.func 74) #[] #[.pointer (some ⟨bp, 0, none⟩)]), (.func (.func 76) #[] #[.pointer (some ⟨bp, 0, none⟩), .pointer (some ⟨bb, 0, none⟩)]), (.func (.func 77) #[] #[.pointer (some ⟨bp, 0, none⟩)]), (.func (.func 78) #[] #[.pointer (some ⟨bp, 0, none⟩), .pointer (some ⟨bl, 0, none⟩)]), (.func (.func 79) #[] #[.pointer (some ⟨bp, 0, none⟩)])]) (.int .i64 2)).run Tryz.prog W = .ok (.func (.func 76) #[] #[.pointer (some ⟨bp, 0, none⟩), .pointer (some ⟨bb, 0, none⟩)]) W) ∧
    (∀ W, (Instr.index 110 (.agg #[(.func (.func 72) #[] #[.pointer (some ⟨bp, 0, none⟩), .pointer (some ⟨bb, 0, none⟩)]), (.func (.func 74) #[] #[.pointer (some ⟨bp, 0, none⟩)]), (.func (.func 76) #[] #[.pointer (some ⟨bp, 0, none⟩), .pointer (some ⟨bb, 0, none⟩)]), (.func (.func 77) #[] #[.pointer (some ⟨bp, 0, none⟩)]), (.func (.func 78) #[] #[.pointer (some ⟨bp, 0, none⟩), .pointer (some ⟨bl, 0, none⟩)]), (.func (.func 79) #[] #[.pointer (some ⟨bp, 0, none⟩)])]) (.int .i64 3)).run Tryz.prog W = .ok (.func (.func 77) #[] #[.pointer (some ⟨bp, 0, none⟩)]) W) ∧
    (∀ W, (Instr.index 110 (.agg #[(.func (.func 72) #[] #[.pointer (some ⟨bp, 0, none⟩), .pointer (some ⟨bb, 0, none⟩)]), (.func (.func 74) #[] #[.pointer (some ⟨bp, 0, none⟩)]), (.func (.func 76) #[] #[.pointer (some ⟨bp, 0, none⟩), .pointer (some ⟨bb, 0, none⟩)]), (.func (.func 77) #[] #[.pointer (some ⟨bp, 0, none⟩)]), (.func (.func 78) #[] #[.pointer (some ⟨bp, 0, none⟩), .pointer (some ⟨bl, 0, none⟩)]), (.func (.func 79) #[] #[.pointer (some ⟨bp, 0, none⟩)])]) (.int .i64 4)).run Tryz.prog W = .ok (.func (.func 78) #[] #[.pointer (some ⟨bp, 0, none⟩), .pointer (some ⟨bl, 0, none⟩)]) W) ∧
    (∀ W, (Instr.index 110 (.agg #[(.func (.func 72) #[] #[.pointer (some ⟨bp, 0, none⟩), .pointer (some ⟨bb, 0, none⟩)]), (.func (.func 74) #[] #[.pointer (some ⟨bp, 0, none⟩)]), (.func (.func 76) #[] #[.pointer (some ⟨bp, 0, none⟩), .pointer (some ⟨bb, 0, none⟩)]), (.func (.func 77) #[] #[.pointer (some ⟨bp, 0, none⟩)]), (.func (.func 78) #[] #[.pointer (some ⟨bp, 0, none⟩), .pointer (some ⟨bl, 0, none⟩)]), (.func (.func 79) #[] #[.pointer (some ⟨bp, 0, none⟩)])]) (.int .i64 5)).run Tryz.prog W = .ok (.func (.func 79) #[] #[.pointer (some ⟨bp, 0, none⟩)]) W) :=
  ⟨fun W => by kernel_rfl, fun W => by kernel_rfl, fun W => by kernel_rfl, fun W => by kernel_rfl, fun W => by kernel_rfl, fun W => by kernel_rfl⟩
end Go.Proofs.YtoadamkmabkldaaGreatDoor
