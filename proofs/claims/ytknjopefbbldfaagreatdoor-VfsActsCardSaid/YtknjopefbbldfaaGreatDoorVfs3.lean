/- Contracts of package vfs: grow. -/
import Derived.Test.YtknjopefbbldfaaGreatDoorVfs2
import Derived.Deep.QuietTactic
namespace Go.Proofs.YtknjopefbbldfaaGreatDoor
open Go.RowKit
attribute [local go_sem ↓] Go.wp_at_zero Go.wp_at_succ

theorem byP_zeros (l : List UInt8) (m i : Nat) : byP (l ++ List.replicate m 0) i = byP l i := by
  unfold byP
  rw [List.getElem?_append]
  by_cases h : i < l.length
  · rw [if_pos h]
  · rw [if_neg h, List.getElem?_replicate, List.getElem?_eq_none (by omega : l.length ≤ i)]
    by_cases h2 : i - l.length < m
    · rw [if_pos h2]; rfl
    · rw [if_neg h2]
theorem byP_end {l : List UInt8} {i : Nat} (h : l.length ≤ i) : byP l i = 0 := by unfold byP; rw [List.getElem?_eq_none h]; rfl
theorem getD_falses (l : List Bool) (m i : Nat) : (l ++ List.replicate m false)[i]?.getD false = l[i]?.getD false := by
  rw [List.getElem?_append]
  by_cases h : i < l.length
  · rw [if_pos h]
  · rw [if_neg h, List.getElem?_replicate, List.getElem?_eq_none (by omega : l.length ≤ i)]
    by_cases h2 : i - l.length < m
    · rw [if_pos h2]; rfl
    · rw [if_neg h2]
theorem needN_le {n m : Nat} (h : n ≤ m) : needN n ≤ needN m := by unfold needN; omega
theorem needN_ge (n : Nat) : n ≤ 64 * needN n := by unfold needN; omega
theorem growP_len {x : FlP} (h : x.WF) {n : Nat} (hn : x.B.length ≤ n) : (growP x n).W.length = needN n ∧ (growP x n).B.length = n := by
  have := needN_le hn
  rw [← h.w] at this
  unfold growP
  simp only [List.length_append, List.length_replicate]
  omega
theorem growP_wf {x : FlP} (h : x.WF) {n : Nat} (hn : x.B.length ≤ n) : (growP x n).WF := by
  obtain ⟨h1, h2⟩ := growP_len h hn
  refine ⟨by rw [h1, h2], ?_⟩
  rw [h1]
  have := needN_le hn
  rw [← h.w] at this
  have := h.o
  unfold growP
  simp only [List.length_append, List.length_replicate]
  omega
theorem cellK_grow (x : FlP) (n k r : Nat) : cellK (growP x n) k r = cellK x k r := by
  unfold cellK growP
  simp only [byP_zeros, getD_falses]
/-- Behind the last sector all is zeros. -/
theorem cellK_end {x : FlP} (h : x.WF) {k r : Nat} (hk : x.W.length ≤ k) (hr : r < 129) : cellK x k r = zc r := by
  have h1 := needN_ge x.B.length
  rw [← h.w] at h1
  have h2 := h.o
  unfold cellK zc
  by_cases h3 : r < 64
  · rw [if_pos h3, if_pos (by omega), byP_end (by omega)]; rfl
  · by_cases h4 : r < 128
    · rw [if_neg h3, if_pos h4, if_pos h4, byP_end (by omega)]; rfl
    · rw [if_neg h3, if_neg h4, if_neg h4, List.getElem?_eq_none hk]; rfl
/-- A slice of one slot{}, at the operation. -/
theorem zsl_eq : Tryz.zeroCells81 = zsl := by kernel_rfl
theorem at_bld {P : Program} {w : World} {ops : Array Oper} {rest : List Oper} {a : Act} {Q : Exit → Act → World → Prop} {d : Option Tmp} {ty t : TypeId} {pos : String} {af : Array Edge} {g : Option (Nat × Bool)} {ps : Array (Nat × Operand)}
    (h : wpList P ops Q ({ dst := d, op := .build t ps, type := ty, pos := pos, after := af, guard := g } :: rest) a w) : wpList P ops Q ({ dst := d, op := .build t ps, type := ty, pos := pos, after := af, guard := g } :: rest) a w := h
theorem op_zsl {w : World} {ops : Array Oper} {rest : List Oper} {a : Act} {Q : Exit → Act → World → Prop} {d : Option Tmp} {ty : TypeId} {pos : String} {af : Array Edge} {g : Option (Nat × Bool)}
    (hw : Region.wanted { dst := d, op := .build 81 #[], type := ty, pos := pos, after := af, guard := g } (yielded ops a.tmps) = true)
    (h : wpList Tryz.prog ops Q rest (a.put d (.agg zsl)) w) : wpList Tryz.prog ops Q ({ dst := d, op := .build 81 #[], type := ty, pos := pos, after := af, guard := g } :: rest) a w :=
  BigFrame.wpList_want hw fun _ hK' => by
    unfold Oper.wp execOp
    simp only [List.map_toArray, List.map_nil, Sem.run_bind, run_zsl, Result.andThen_ok]
    exact hK' _ _ h
theorem at_lit {P : Program} {w : World} {ops : Array Oper} {rest : List Oper} {a : Act} {Q : Exit → Act → World → Prop} {d : Option Tmp} {ty t : TypeId} {pos : String} {af : Array Edge} {g : Option (Nat × Bool)} {n : Nat} {ps : Array (Nat × Operand)}
    (h : wpList P ops Q ({ dst := d, op := .buildSlice t n ps, type := ty, pos := pos, after := af, guard := g } :: rest) a w) : wpList P ops Q ({ dst := d, op := .buildSlice t n ps, type := ty, pos := pos, after := af, guard := g } :: rest) a w := h
theorem op_lit {w : World} {ops : Array Oper} {rest : List Oper} {a : Act} {Q : Exit → Act → World → Prop} {d : Option Tmp} {ty : TypeId} {pos : String} {af : Array Edge} {g : Option (Nat × Bool)} {x : Operand} (hx : a.eval x = .agg zsl)
    (hw : Region.wanted { dst := d, op := .buildSlice 71 1 #[(0, x)], type := ty, pos := pos, after := af, guard := g } (yielded ops a.tmps) = true)
    (h : wpList Tryz.prog ops Q rest (a.put d (.slice (some ⟨w.heap.size, 0, none⟩) 1 1)) (w.alloc (.cells zsl 81))) : wpList Tryz.prog ops Q ({ dst := d, op := .buildSlice 71 1 #[(0, x)], type := ty, pos := pos, after := af, guard := g } :: rest) a w :=
  BigFrame.wpList_want hw fun _ hK' => by
    unfold Oper.wp execOp
    simp only [List.map_toArray, List.map_cons, List.map_nil, hx, Sem.run_bind, run_lit_zsl, Result.andThen_ok]
    exact hK' _ _ h
/-- append(l, slot{}), at the operation. -/
theorem ap_slot {w : World} {ops : Array Oper} {rest : List Oper} {a : Act} {Q : Exit → Act → World → Prop} {d : Option Tmp} {ty : TypeId} {pos : String} {af : Array Edge} {g0 : Option (Nat × Bool)} {s x : Operand}
    {sv : Value} {g L : Nat} {f : Nat → Nat → Value} (h : SlQ w sv g L f) (hL : L ≤ 100000) {b : Nat} (hb : Bk w b 81 zsl) (hs : a.eval s = sv) (hx : a.eval x = .slice (some ⟨b, 0, none⟩) 1 1)
    (hw : Region.wanted { dst := d, op := .call { callee := .builtin .append, args := #[s, x], argTypes := #[71, 71] }, type := ty, pos := pos, after := af, guard := g0 } (yielded ops a.tmps) = true)
    (hK : ∀ sv' g' w', SlQ w' sv' g' (L + 1) (fun k r => if k < L then f k r else zc r) → ((0 < L ∧ g' = g) ∨ w.heap.size ≤ g') → Ch (fun i => 0 < L ∧ i = g) w w' → (∀ b' t cs, t ≠ 81 → Bk w b' t cs → Bk w' b' t cs) → wpList Tryz.prog ops Q rest (a.put d sv') w') :
    wpList Tryz.prog ops Q ({ dst := d, op := .call { callee := .builtin .append, args := #[s, x], argTypes := #[71, 71] }, type := ty, pos := pos, after := af, guard := g0 } :: rest) a w :=
  BigFrame.wpList_want hw fun _ hK' => by
    obtain ⟨sv', g', w', hrun, h1, h2, h3⟩ := run_append_slot w ty sv g L f h hL b hb
    unfold Oper.wp execOp
    simp only [resolve, invoke, builtin, Sem.run_bind, Sem.run_pure, Result.andThen_ok, List.map_toArray, List.map_cons, List.map_nil, hs, hx, hrun]
    exact hK' _ _ (hK sv' g' w' h1 h2 h3 (fun b' t cs ht hb' => hb'.ch h3 (by rintro ⟨e1, e2⟩; exact h.ne e1 hb' (Ne.symm ht) e2.symm)))
/-- How long a slice is. -/
def lenS : Value → Nat | .slice _ n _ => n | _ => 0
/-- How long the slice at the head of a block is. -/
def lenAt (w : World) (b : Nat) : Nat := match w.cell? ⟨b, 0, none⟩ with | some (.slice _ n _) => n | _ => 0
theorem lenAt_eq {w : World} {b n c : Nat} {A : Option Addr} (h : w.cell? ⟨b, 0, none⟩ = some (.slice A n c)) : lenAt w b = n := by unfold lenAt; rw [h]
theorem run_max (ats : Array TypeId) (ty : TypeId) (a b c : Int) (h : c = if a < b then b else a) (w : World) : (Builtin.max_ ats ty #[.int .i64 a, .int .i64 b]).run Tryz.prog w = .ok (.int .i64 c) w := by
  subst h
  by_cases h1 : a < b
  · simp [Builtin.max_, Builtin.max2, h1]
  · simp [Builtin.max_, Builtin.max2, h1]
theorem run_min (ats : Array TypeId) (ty : TypeId) (a b c : Int) (h : c = if b < a then b else a) (w : World) : (Builtin.min_ ats ty #[.int .i64 a, .int .i64 b]).run Tryz.prog w = .ok (.int .i64 c) w := by
  subst h
  by_cases h1 : b < a
  · simp [Builtin.min_, Builtin.min2, h1]
  · simp [Builtin.min_, Builtin.min2, h1]
set_option maxHeartbeats 4000000 in
set_option maxRecDepth 100000 in
theorem grow_any (b g : Nat) (sv : Value) (x : FlP) (n : Nat) (w : World) (h : FlM w b g sv x) (hw : x.WF) (hn : n ≤ 5000000) (hB : x.B.length ≤ 5000000) :
    Calls Tryz.prog 42 #[.pointer (some ⟨b, 0, none⟩), .int .i64 (n : Int)] w fun e w' => e = .returned (.tuple #[]) ∧
      ∃ sv' g', FlM w' b g' sv' (growP x (max x.B.length n)) ∧ (0 < needN (max x.B.length n) → (0 < x.W.length ∧ g' = g) ∨ w.heap.size ≤ g') ∧ Ch (fun i => i = b ∨ (0 < x.W.length ∧ i = g)) w w' := by
  have c1 : w.cell? ⟨b, 1, none⟩ = some (.int .i64 (x.B.length : Int)) := h.hd.cell 1
  have f1 := h.hd.free 1
  generalize hM : max x.B.length n = M at *
  have hMB : x.B.length ≤ M := by omega
  have hMn : M ≤ 5000000 := by omega
  have em := fun ats ty => run_max ats ty (x.B.length : Int) (n : Int) (M : Int) (by split <;> omega)
  have hLM : x.W.length ≤ needN M := by rw [hw.w]; exact needN_le hMB
  have hb1 := h.hd.set 1 (.int .i64 (M : Int))
  have hs1 : SlQ (w.setCell ⟨b, 1, none⟩ (.int .i64 (M : Int))) sv g x.W.length (cellK x) := h.sl.heap (fun h0 => Below.heap_setCell w _ _ g (h.ne h0))
  have H0 := Lib.hid (And.intro hb1 (And.intro hs1 ((Ch.refl (fun i => i = b ∨ (0 < x.W.length ∧ i = g)) w).set (p := ⟨b, 1, none⟩) (.inl (.inl rfl)) (.int .i64 (M : Int)))))
  have HW := Lib.hid hw
  have HB := Lib.hid h.hd.lt
  clear h hw hb1 hs1 hM
  go_enter Tryz.func42, Tryz.ntmps42
  go_wp2_with fail
  generalize w.setCell ⟨b, 1, none⟩ (.int .i64 (M : Int)) = w1 at *
  have HQ := Lib.hid (show ∃ sv' g' q, Bk w1 b 73 #[sv', .int .i64 (M : Int), .int .i64 (x.stamp : Int)] ∧ SlQ w1 sv' g' q (cellK x) ∧ x.W.length ≤ q ∧ q ≤ needN M ∧ (0 < q → (0 < x.W.length ∧ g' = g) ∨ w.heap.size ≤ g') ∧ Ch (fun i => i = b ∨ (0 < x.W.length ∧ i = g)) w w1 from
    ⟨sv, g, x.W.length, H0.out.1, H0.out.2.1, Nat.le_refl _, hLM, fun h0 => .inl ⟨h0, rfl⟩, H0.out.2.2⟩)
  clear H0 c1 f1
  go_loopw [] (fun wr => Hid (∃ sv' g' q, Bk wr b 73 #[sv', .int .i64 (M : Int), .int .i64 (x.stamp : Int)] ∧ SlQ wr sv' g' q (cellK x) ∧ x.W.length ≤ q ∧ q ≤ needN M ∧ (0 < q → (0 < x.W.length ∧ g' = g) ∨ w.heap.size ≤ g') ∧ Ch (fun i => i = b ∨ (0 < x.W.length ∧ i = g)) w wr)) (fun wr => needN M - lenAt wr b)
  case atStart => exact HQ
  case round =>
    obtain ⟨sv', g', q, r1, r2, r3, r4, r5, r6⟩ := hrel.out
    obtain ⟨A, c, rfl, _, _⟩ := r2.form
    have d0 : wr.cell? ⟨b, 0, none⟩ = some (.slice A q c) := r1.cell 0
    have d1 : wr.cell? ⟨b, 1, none⟩ = some (.int .i64 (M : Int)) := r1.cell 1
    have hneed := Lib.hid (fun W => need_any M W (by omega))
    have hm := Lib.hid (lenAt_eq d0)
    clear hrel
    by_cases hlt : q < needN M
    · have R := Lib.hid (And.intro r1 (And.intro r2 (And.intro r3 (And.intro r5 r6))))
      have hq : q ≤ 100000 := by unfold needN at hlt; omega
      have hz0 := Lib.hid (show w.heap.size ≤ wr.heap.size from r6.size)
      clear r1 r2 r3 r4 r5 r6
      go_wp2_with fail
      go_quiet ((go_at_call 41; exact Calls.quiet_of_same (hneed.out _)))
      go_wp2_with (first
        | (with_reducible refine at_bld ?_; refine op_zsl (by kernel_rfl) ?_; go_frame)
        | (with_reducible refine at_lit ?_; refine op_lit (by kernel_rfl) (by kernel_rfl) ?_; go_frame)
        | (with_reducible refine at_append ?_; refine ap_slot (R.out.2.1.lit _ _) hq (Bk.new _ _ _) (by kernel_rfl) (by kernel_rfl) (by kernel_rfl) ?_; intro sv2 g2 w2 s1 s2 s3 s4; obtain ⟨A2, c2, rfl, _, _⟩ := s1.form; have hb2 := s4 _ _ _ (by decide) ((R.out.1.drewN _).alloc _); have k0 := hb2.cell 0; have k0f := hb2.free 0; have hb3 := Lib.hid (hb2.set 0 (.slice A2 (q + 1) c2)); have k1 := Lib.hid hb2; clear hb2; replace s1 := Lib.hid s1; replace s3 := Lib.hid s3; replace s2 := Lib.hid s2; clear s4; go_frame))
      go_roundw
      case rel =>
        have hA : Ch (fun i => i = b ∨ (0 < x.W.length ∧ i = g)) w w2 := ((R.out.2.2.2.2.drewN _).alloc _).trans s3.out (by
          rintro i ⟨e1, rfl⟩
          rcases R.out.2.2.2.1 e1 with ⟨e2, rfl⟩ | e2
          · exact .inl (.inr ⟨e2, rfl⟩)
          · exact .inr e2)
        refine Lib.hid ⟨_, g2, q + 1, hb3.out, ?_, by have := R.out.2.2.1; omega, by omega, fun _ => ?_, hA.set (p := ⟨b, 0, none⟩) (.inl (.inl rfl)) _⟩
        · refine (s1.out.congr rfl (fun k hk r hr => ?_)).heap (fun h0 => Below.heap_setCell w2 _ _ g2 (s1.out.ne h0 k1.out (by decide)))
          by_cases hkq : k < q
          · rw [if_pos hkq]
          · rw [if_neg hkq]; exact (cellK_end HW.out (by have := R.out.2.2.1; omega) hr).symm
        · rcases s2.out with ⟨e1, rfl⟩ | e1
          · exact R.out.2.2.2.1 e1
          · refine .inr ?_
            have := hz0.out
            simp at e1
            omega
      case measure =>
        have e1 := lenAt_eq (hb3.out.cell 0)
        rw [e1, hm.out]
        omega
    · have : q = needN M := by omega
      subst this
      have R := Lib.hid (And.intro r1 (And.intro r2 (And.intro r5 r6)))
      clear r1 r2 r3 r4 r5 r6
      go_wp2_with fail
      go_quiet ((go_at_call 41; exact Calls.quiet_of_same (hneed.out _)))
      go_wp2_with fail
      go_end0
      refine ⟨rfl, .slice A (needN M) c, g', ⟨?_, ?_⟩, fun h0 => R.out.2.2.1 h0, R.out.2.2.2.drewN _⟩
      · rw [(growP_len HW.out hMB).2]; exact R.out.1.drewN _
      · exact (R.out.2.1.congr (growP_len HW.out hMB).1.symm (fun k hk r hr => (cellK_grow x M k r).symm)).heap (fun _ => rfl)
end Go.Proofs.YtknjopefbbldfaaGreatDoor
