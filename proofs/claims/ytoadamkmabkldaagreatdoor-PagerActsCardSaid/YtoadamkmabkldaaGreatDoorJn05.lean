/- Lists of files: what inserting, dropping, setting make of them. -/
import Derived.Test.YtoadamkmabkldaaGreatDoorJn01
import Derived.Test.YtoadamkmabkldaaGreatDoorJn04
set_option linter.unusedVariables false
set_option linter.unusedSimpArgs false
namespace Go.Proofs.YtoadamkmabkldaaGreatDoor

theorem lt_tri {a b : List UInt8} (h1 : ¬ a < b) (h2 : a ≠ b) : b < a := by
  rcases List.le_iff_lt_or_eq.1 (List.not_lt.1 h1) with h | h
  · exact h
  · exact absurd h.symm h2
theorem lt_irr (a : List UInt8) : ¬ a < a := List.lt_irrefl a
theorem lt_tr {a b c : List UInt8} (h : a < b) (k : b < c) : a < c := List.lt_trans h k
section
variable {n : List UInt8} {x : FlP} {l : List (List UInt8 × FlP)}
theorem ins_mem {p : List UInt8 × FlP} : p ∈ insP n x l ↔ p = (n, x) ∨ p ∈ l := by
  induction l with
  | nil => simp [insP]
  | cons q r ih =>
    obtain ⟨m, y⟩ := q
    unfold insP
    split
    · simp
    · simp only [List.mem_cons, ih]
      constructor
      · rintro (h | h | h)
        · exact .inr (.inl h)
        · exact .inl h
        · exact .inr (.inr h)
      · rintro (h | h | h)
        · exact .inr (.inl h)
        · exact .inl h
        · exact .inr (.inr h)
theorem ins_sorted (h : l.Pairwise fun p q => p.1 < q.1) (hn : ∀ p ∈ l, p.1 ≠ n) : (insP n x l).Pairwise fun p q => p.1 < q.1 := by
  induction l with
  | nil => simp [insP]
  | cons q r ih =>
    obtain ⟨m, y⟩ := q
    obtain ⟨h1, h2⟩ := List.pairwise_cons.1 h
    unfold insP
    split
    · rename_i hlt
      refine List.pairwise_cons.2 ⟨fun p hp => ?_, h⟩
      rcases List.mem_cons.1 hp with rfl | hp
      · exact hlt
      · exact lt_tr hlt (h1 p hp)
    · rename_i hlt
      refine List.pairwise_cons.2 ⟨fun p hp => ?_, ih h2 (fun p hp => hn p (List.mem_cons_of_mem _ hp))⟩
      rcases ins_mem.1 hp with rfl | hp
      · exact lt_tri hlt (Ne.symm (hn (m, y) (List.mem_cons_self ..)))
      · exact h1 p hp
theorem lookup_ins (hn : ∀ p ∈ l, p.1 ≠ n) (s : List UInt8) : (insP n x l).lookup s = if s = n then some x else l.lookup s := by
  induction l with
  | nil =>
    unfold insP
    rw [List.lookup_cons]
    by_cases h : s = n
    · subst h; simp
    · rw [if_neg h, show (s == n) = false by simpa using h]
  | cons q r ih =>
    obtain ⟨m, y⟩ := q
    unfold insP
    have hm : m ≠ n := hn (m, y) (List.mem_cons_self ..)
    split
    · rw [List.lookup_cons]
      by_cases h : s = n
      · subst h; simp
      · rw [if_neg h, show (s == n) = false by simpa using h]
    · rw [List.lookup_cons, List.lookup_cons, ih (fun p hp => hn p (List.mem_cons_of_mem _ hp))]
      by_cases h : s = m
      · subst h
        simp [hm]
      · rw [show (s == m) = false by simpa using h]
theorem use_ins : useP (insP n x l) = useP l + x.W.length := by
  induction l with
  | nil => simp [insP, useP]
  | cons q r ih =>
    obtain ⟨m, y⟩ := q
    unfold insP
    split
    · simp only [useP, List.map_cons, List.sum_cons]; omega
    · simp only [useP, List.map_cons, List.sum_cons] at ih ⊢; omega
theorem lookup_drop (s : List UInt8) : (dropP n l).lookup s = if s = n then none else l.lookup s := by
  unfold dropP
  induction l with
  | nil => simp
  | cons q r ih =>
    obtain ⟨m, y⟩ := q
    by_cases hm : m = n
    · subst hm
      rw [List.filter_cons_of_neg (by simp), ih]
      by_cases h : s = m
      · rw [if_pos h, if_pos h]
      · rw [if_neg h, if_neg h, List.lookup_cons, show (s == m) = false by simpa using h]
    · rw [List.filter_cons_of_pos (by simpa using hm), List.lookup_cons, List.lookup_cons, ih]
      by_cases h : s = m
      · subst h; simp [hm]
      · rw [show (s == m) = false by simpa using h]
theorem drop_mem {p : List UInt8 × FlP} : p ∈ dropP n l ↔ p ∈ l ∧ p.1 ≠ n := by simp [dropP]
theorem drop_sorted (h : l.Pairwise fun p q => p.1 < q.1) : (dropP n l).Pairwise fun p q => p.1 < q.1 := h.filter _
theorem use_drop : useP (dropP n l) ≤ useP l := by
  unfold dropP
  induction l with
  | nil => exact Nat.le_refl _
  | cons q r ih =>
    cases h : (q.1 != n) with
    | true => rw [List.filter_cons_of_pos (by simpa using h)]; simp only [useP, List.map_cons, List.sum_cons] at ih ⊢; omega
    | false => rw [List.filter_cons_of_neg (by simp [h])]; simp only [useP, List.map_cons, List.sum_cons] at ih ⊢; omega
theorem lookup_set (s : List UInt8) : (setP n x l).lookup s = if s = n then (l.lookup n).map (fun _ => x) else l.lookup s := by
  unfold setP
  induction l with
  | nil => by_cases h : s = n <;> simp [h]
  | cons q r ih =>
    obtain ⟨m, y⟩ := q
    rw [List.map_cons]
    by_cases hm : m = n
    · subst hm
      rw [if_pos rfl, List.lookup_cons, List.lookup_cons, List.lookup_cons, ih]
      by_cases h : s = m
      · subst h; simp
      · rw [show (s == m) = false by simpa using h, if_neg h, if_neg h]
    · rw [if_neg hm, List.lookup_cons, List.lookup_cons, List.lookup_cons, ih, show (n == m) = false by simpa using Ne.symm hm]
      by_cases h : s = m
      · subst h; simp [hm]
      · rw [show (s == m) = false by simpa using h]
theorem set_mem {p : List UInt8 × FlP} (h : p ∈ setP n x l) : p = (n, x) ∨ p ∈ l := by
  unfold setP at h
  obtain ⟨q, hq, rfl⟩ := List.mem_map.1 h
  by_cases e : q.1 = n
  · rw [if_pos e]; exact .inl rfl
  · rw [if_neg e]; exact .inr hq
theorem set_names : (setP n x l).map (·.1) = l.map (·.1) := by
  unfold setP
  rw [List.map_map]
  refine List.map_congr_left fun p _ => ?_
  by_cases e : p.1 = n
  · simp [e]
  · simp [e]
theorem sorted_names {l : List (List UInt8 × FlP)} : (l.Pairwise fun p q => p.1 < q.1) ↔ (l.map (·.1)).Pairwise (· < ·) := by rw [List.pairwise_map]
theorem set_sorted (h : l.Pairwise fun p q => p.1 < q.1) : (setP n x l).Pairwise fun p q => p.1 < q.1 := by
  rw [sorted_names] at h ⊢; rwa [set_names]
theorem use_set {y : FlP} (h : l.Pairwise fun p q => p.1 < q.1) (hy : l.lookup n = some y) : useP (setP n x l) + y.W.length = useP l + x.W.length := by
  unfold setP
  induction l with
  | nil => cases hy
  | cons q r ih =>
    obtain ⟨m, z⟩ := q
    obtain ⟨h1, h2⟩ := List.pairwise_cons.1 h
    rw [List.map_cons]
    rw [List.lookup_cons] at hy
    by_cases hm : m = n
    · subst hm
      simp only [beq_self_eq_true, Option.some.injEq] at hy
      subst hy
      have e : r.map (fun p => if p.1 = m then (m, x) else p) = r := by
        have : ∀ p ∈ r, (if p.1 = m then (m, x) else p) = p := fun p hp => by
          rw [if_neg]
          rintro e
          exact lt_irr _ (e ▸ h1 p hp)
        rw [List.map_congr_left this, List.map_id']
      rw [if_pos rfl, e]
      simp only [useP, List.map_cons, List.sum_cons]
      omega
    · rw [show (n == m) = false by simpa using Ne.symm hm] at hy
      have := ih h2 hy
      rw [if_neg hm]
      simp only [useP, List.map_cons, List.sum_cons] at this ⊢
      omega
end
theorem find_none {S : FsP} {n : List UInt8} (h : findP S n = none) : ∀ p ∈ S.fs, p.1 ≠ n := by
  intro p hp e
  unfold findP at h
  rw [List.lookup_eq_none_iff] at h
  have := h p hp
  simp [e] at this
end Go.Proofs.YtoadamkmabkldaaGreatDoor
/- Contracts of package vfs: Create. -/
namespace Go.Proofs.YtoadamkmabkldaaGreatDoor
open Go.RowKit
attribute [local go_sem ↓] Go.wp_at_zero Go.wp_at_succ

set_option maxRecDepth 100000 in
theorem op_put {w : World} {ops : Array Oper} {rest : List Oper} {a : Act} {Q : Exit → Act → World → Prop} {d : Option Tmp} {ty : TypeId} {pos : String} {af : Array Edge} {g : Option (Nat × Bool)} {x y z : Operand}
    {m n b : Nat} {f : List UInt8 → Option Nat} {s : ByteArray} (h : MapS w m n f) (hsz : s.size ≤ maxLen) (hn : n ≤ 1000000) (hm : a.eval x = .map (some m)) (hs : a.eval y = .string s) (hb : a.eval z = .pointer (some ⟨b, 0, none⟩))
    (hw : Region.wanted { dst := d, op := .mapUpdate 59 x y z, type := ty, pos := pos, after := af, guard := g } (yielded ops a.tmps) = true)
    (hK : ∀ w', MapS w' m (n + 1) (fun t => if t = s.data.toList then some b else f t) → w.grownBy w' (some m) → wpList Tryz.prog ops Q rest (a.put d undef) w') :
    wpList Tryz.prog ops Q ({ dst := d, op := .mapUpdate 59 x y z, type := ty, pos := pos, after := af, guard := g } :: rest) a w :=
  BigFrame.wpList_want hw fun _ hK' => by
    obtain ⟨w', hrun, h1, h2⟩ := h.put hsz hn b
    unfold Oper.wp execOp
    simp only [hm, hs, hb, Sem.run_bind, hrun, Result.andThen_ok, Sem.run_pure]
    exact hK' _ _ (hK w' h1 h2)
theorem FsA.wide {W : World} {O : Nat → Prop} {f B : Nat} {S : FsP} (h : FsA W O f S) : FsA W (fun i => O i ∨ B ≤ i) f S := h.mono fun _ ho _ => .inl ho
theorem rightP_len {n : List UInt8} (h : rightP n = true) : n.length ≤ 24 := by
  unfold rightP at h
  simp only [Bool.and_eq_true, decide_eq_true_eq] at h
  exact h.1.2
theorem madeF_wf {S : FsP} {n : List UInt8} (h : S.WF) (hf : findP S n = none) (hn : n.length ≤ 24) : (madeF S n).WF := by
  have hb := burntP_wf h
  obtain ⟨e1, e2, e3, e4, _⟩ := burntP_parts S
  unfold madeF
  refine ⟨hb.most1, hb.most2, hb.fuse1, hb.fuse2, fun p hp => ?_, ins_sorted h.order (find_none hf), ?_, fun p hp => ?_⟩
  · rcases ins_mem.1 hp with rfl | hp
    · exact ⟨by simp [needN], by simp⟩
    · exact h.files p hp
  · simp only [use_ins, List.length_nil, Nat.add_zero]
    rw [e1]; exact h.room
  · rcases ins_mem.1 hp with rfl | hp
    · simp only; omega
    · exact h.names p hp
theorem find_made {S : FsP} {n : List UInt8} (hf : findP S n = none) (s : List UInt8) : findP (madeF S n) s = if s = n then some ⟨[], [], [], S.stamp + 1⟩ else findP S s := lookup_ins (find_none hf) s
set_option maxHeartbeats 4000000 in
set_option maxRecDepth 100000 in
theorem create_any (f : Nat) (O : Nat → Prop) (S : FsP) (s : ByteArray) (w : World) (h : FsA w O f S) (hs : s.size ≤ 1000000) (hst : S.stamp ≤ 1000000) :
    Calls Tryz.prog 57 #[.pointer (some ⟨f, 0, none⟩), .string s] w fun e w' => e = .returned (.int .i64 ((createP S s.data.toList).1 : Int)) ∧ FsA w' (fun i => O i ∨ w.heap.size ≤ i) f (createP S s.data.toList).2 ∧ Ch O w w' := by
  have hsm : s.size ≤ maxLen := Nat.le_trans hs (by unfold maxLen; decide)
  have HR := Lib.hid (fun w => right_any s w hs)
  have H := Lib.hid h
  obtain ⟨m, bl, gl, sv, hM, hO⟩ := h
  have HM := Lib.hid hM
  have HO := Lib.hid hO
  have HS := Lib.hid (And.intro hsm hst)
  unfold createP
  cases hd : S.down with
  | true =>
    have HA := Lib.hid (at_down f m bl gl sv S s w hM hsm hd)
    clear hM hO hd hs hsm hst
    go_enter Tryz.func57, Tryz.ntmps57
    go_wp2_with fail
    with_reducible refine HA.out.mono ?_
    rintro e w1 ⟨rfl, hw1⟩; subst hw1
    go_wp2_with fail
    go_ret
    exact ⟨rfl, H.out.wide, Ch.refl _ _⟩
  | false =>
    cases hr : rightP s.data.toList with
    | false =>
      cases hf : findP S s.data.toList with
      | none =>
        have HA := Lib.hid (at_none f m bl gl sv S s w hM hsm hd hf)
        rw [hr] at HR
        clear hM hO hd hs hsm hst hf hr
        go_enter Tryz.func57, Tryz.ntmps57
        go_wp2_with fail
        with_reducible refine HA.out.mono ?_
        rintro e w1 ⟨rfl, hw1⟩; subst hw1
        go_wp2_with fail
        with_reducible refine (HR.out _).mono ?_
        rintro e w2 ⟨rfl, b2⟩
        have B2 := Lib.hid b2
        clear b2
        go_wp2_with fail
        go_ret
        exact ⟨rfl, (H.out.below B2.out).wide, Ch.of_below B2.out (Nat.le_refl _)⟩
      | some x =>
        have HA := Lib.hid (at_some f m bl gl sv S s w hM hsm hd hf)
        rw [hr] at HR
        clear hM hO hd hs hsm hst hf hr
        go_enter Tryz.func57, Tryz.ntmps57
        go_wp2_with fail
        with_reducible refine HA.out.mono ?_
        rintro e w1 ⟨rfl, hw1⟩; subst hw1
        go_wp2_with fail
        with_reducible refine (HR.out _).mono ?_
        rintro e w2 ⟨rfl, b2⟩
        have B2 := Lib.hid b2
        clear b2
        go_wp2_with fail
        go_ret
        exact ⟨rfl, (H.out.below B2.out).wide, Ch.of_below B2.out (Nat.le_refl _)⟩
    | true =>
      cases hf : findP S s.data.toList with
      | some x =>
        have HA := Lib.hid (at_some f m bl gl sv S s w hM hsm hd hf)
        rw [hr] at HR
        clear hM hO hd hs hsm hst hf hr
        go_enter Tryz.func57, Tryz.ntmps57
        go_wp2_with fail
        with_reducible refine HA.out.mono ?_
        rintro e w1 ⟨rfl, hw1⟩; subst hw1
        go_wp2_with fail
        with_reducible refine (HR.out _).mono ?_
        rintro e w2 ⟨rfl, b2⟩
        have B2 := Lib.hid b2
        clear b2
        go_wp2_with fail
        go_ret
        exact ⟨rfl, (H.out.below B2.out).wide, Ch.of_below B2.out (Nat.le_refl _)⟩
      | none =>
        have HA := Lib.hid (at_none f m bl gl sv S s w hM hsm hd hf)
        have HF := Lib.hid (And.intro hf (rightP_len hr))
        rw [hr] at HR
        have HB := Lib.hid (fun W h => burn_fs f m bl gl sv S W h)
        cases hb : burnP S with
        | false =>
          rw [hb] at HB
          clear hM hO hd hs hsm hst hf hr hb
          go_enter Tryz.func57, Tryz.ntmps57
          go_wp2_with fail
          with_reducible refine HA.out.mono ?_
          rintro e w1 ⟨rfl, hw1⟩; subst hw1
          go_wp2_with fail
          with_reducible refine (HR.out _).mono ?_
          rintro e w2 ⟨rfl, b2⟩
          have B2 := Lib.hid b2
          clear b2
          go_wp2_with fail
          with_reducible refine (HB.out w2 (HM.out.heap (fun i hi => B2.out.block i (HM.out.lt i hi)))).mono ?_
          rintro e w3 ⟨rfl, h3, k3⟩
          have H3 := Lib.hid h3
          have K3 := Lib.hid k3
          clear h3 k3
          go_wp2_with fail
          go_ret
          obtain ⟨e1, e2, e3, e4, e5⟩ := burntP_parts S
          refine ⟨rfl, ⟨m, bl, gl, sv, H3.out, fun i hi => .inl (HO.out i ((FsO_fs e3 i).1 hi))⟩, (Ch.of_below B2.out (Nat.le_refl _)).trans K3.out (fun i hi => .inl (HO.out i (.inl hi)))⟩
        | true =>
          rw [hb] at HB
          clear hM hO hd hs hsm hst hf hr hb
          go_enter Tryz.func57, Tryz.ntmps57
          go_wp2_with fail
          with_reducible refine HA.out.mono ?_
          rintro e w1 ⟨rfl, hw1⟩; subst hw1
          go_wp2_with fail
          with_reducible refine (HR.out _).mono ?_
          rintro e w2 ⟨rfl, b2⟩
          have B2 := Lib.hid b2
          clear b2
          go_wp2_with fail
          with_reducible refine (HB.out w2 (HM.out.heap (fun i hi => B2.out.block i (HM.out.lt i hi)))).mono ?_
          rintro e w3 ⟨rfl, h3, k3⟩
          have H3 := Lib.hid h3
          have K3 := Lib.hid k3
          have d4 : w3.cell? ⟨f, 4, none⟩ = some (.map (some m)) := h3.hd.cell 4
          clear h3 k3
          obtain ⟨e1, e2, e3, e4, e5⟩ := burntP_parts S
          have hP : ∀ w5, MapS w5 m ((burntP S).stamp + 1) (fun t => if t = s.data.toList then some w3.heap.size else (findP (burntP S) t).map fun _ => bl t) → (w3.alloc (.cells #[.slice none 0 0, .int .i64 0, .int .i64 0] 87)).grownBy w5 (some m) →
              w5.cell? ⟨f, 4, none⟩ = some (.map (some m)) ∧ (Instr.lookup 59 (.map (some m)) (.string s) false).run Tryz.prog w5 = .ok (.pointer (some ⟨w3.heap.size, 0, none⟩)) w5 ∧
              Bk w5 f 61 #[.int .i64 ((burntP S).most : Int), .int .i64 (S.stamp : Int), .int .i64 (burntP S).fuse, .bool (burntP S).down, .map (some m)] ∧ Bk w5 w3.heap.size 87 #[.slice none 0 0, .int .i64 0, .int .i64 0] := by
            intro w5 p1 p2
            have hmf := H3.out.mp.ne H3.out.hd
            have b1 : Bk w5 f 61 _ := (H3.out.hd.alloc (.cells #[.slice none 0 0, .int .i64 0, .int .i64 0] 87)).grown p2 (by intro e; injection e with e; exact hmf e.symm)
            have b2 : Bk w5 w3.heap.size 87 _ := (Bk.new w3 87 #[.slice none 0 0, .int .i64 0, .int .i64 0]).grown p2 (by intro e; injection e with e; have := H3.out.mp.lt; omega)
            refine ⟨b1.cell 4, ?_, by rw [← e2]; exact b1, b2⟩
            have := p1.look HS.out.1
            rwa [if_pos rfl] at this
          have HP := Lib.hid hP
          have HMP := Lib.hid (show MapS (w3.alloc (.cells #[.slice none 0 0, .int .i64 0, .int .i64 0] 87)) m (burntP S).stamp (fun t => (findP (burntP S) t).map fun _ => bl t) from H3.out.mp.heap (Below.heap_alloc _ _ m H3.out.mp.lt))
          have HN := Lib.hid (show (burntP S).stamp ≤ 1000000 by rw [e2]; exact HS.out.2)
          have HCH := Lib.hid (fun W h1 h2 => changed_any f w3.heap.size S.stamp (.int .i64 ((burntP S).most : Int)) (.int .i64 (burntP S).fuse) (.bool (burntP S).down) (.map (some m)) (.slice none 0 0) (.int .i64 0) (.int .i64 0) W h1 h2 HS.out.2)
          clear hP e1 e2 e3 e4 e5
          go_wp2_with (first
            | (at_mapUpdate; (apply op_put (b := w3.heap.size) HMP.out HS.out.1 HN.out); (case hm => kernel_rfl); (case hs => kernel_rfl); (case hb => kernel_rfl); (case hw => kernel_rfl); intro w5 p1 p2; obtain ⟨x1, x2, x3, x4⟩ := HP.out w5 p1 p2; replace x3 := Lib.hid x3; replace x4 := Lib.hid x4; replace p1 := Lib.hid p1; replace p2 := Lib.hid p2; try go_frame)
            | (go_at_call 88; refine (HCH.out _ x3.out x4.out).mono ?_; rintro e w6 ⟨rfl, y1, y2, y3⟩; replace y1 := Lib.hid y1; replace y2 := Lib.hid y2; replace y3 := Lib.hid y3))
          go_ret
          obtain ⟨e1, e2, e3, e4, e5⟩ := burntP_parts S
          have hfs := find_made HF.out.1
          have hold : ∀ n x, n ≠ s.data.toList → findP (madeF S s.data.toList) n = some x → findP (burntP S) n = some x := fun n x hne hx => by
            rw [hfs, if_neg hne] at hx
            unfold findP at hx ⊢; rwa [e3]
          have hnew : ∀ x, findP (madeF S s.data.toList) s.data.toList = some x → x = ⟨[], [], [], S.stamp + 1⟩ := fun x hx => by
            rw [hfs, if_pos rfl] at hx; exact (Option.some.inj hx).symm
          have hlt := fun n x hx => H3.out.lt (bl n) (.inr (.inr ⟨n, x, hx, .inl rfl⟩))
          have hmf := H3.out.mp.ne H3.out.hd
          have hmlt := H3.out.mp.lt
          -- what none of the three steps has turned
          have keep : ∀ i, i < w3.heap.size → i ≠ m → i ≠ f → w6.heap[i]? = w3.heap[i]? := fun i hi h1 h2 =>
            ((y3.out.block i (by have := p2.out.size; simp at this; omega) (by rintro (e | e) <;> omega)).trans (p2.out.block i (by simp; omega) (by intro e; injection e with e; exact h1 e))).trans (Below.heap_alloc _ _ i hi)
          refine ⟨rfl, ⟨m, fun n => if n = s.data.toList then w3.heap.size else bl n, gl, fun n => if n = s.data.toList then .slice none 0 0 else sv n, ⟨?_, ?_, fun n x hx => ?_, fun n x n' x' hx hx' he => ?_, fun n x n' x' hx hx' hp hp' he => ?_, madeF_wf HM.out.wf HF.out.1 HF.out.2⟩, fun i hi => ?_⟩, ?_⟩
          · exact y1.out
          · refine ((p1.out.heap (y3.out.block m (by have := p2.out.size; simp at this; omega) (by rintro (e | e) <;> omega))).mono (by rw [e2]; exact Nat.le_refl _)).congr (fun n => ?_)
            by_cases hn : n = s.data.toList
            · rw [hn, if_pos rfl, hfs, if_pos rfl, if_pos rfl]; rfl
            · rw [if_neg hn, hfs, if_neg hn, if_neg hn]
              unfold findP; rw [e3]
          · by_cases hn : n = s.data.toList
            · subst hn
              obtain rfl := hnew x hx
              simp only [if_pos]
              exact ⟨y2.out, SlQ.nil _ _ _⟩
            · simp only [if_neg hn]
              have hx' := hold n x hn hx
              obtain ⟨z1, z2, _⟩ := H3.out.nef hx'
              exact (H3.out.fl n x hx').heap (keep _ (hlt n x hx') (Ne.symm (H3.out.mp.ne (H3.out.fl n x hx').hd)) z1)
                (fun h0 => by
                  obtain ⟨c, cs, _, _, _, hcs, _⟩ := (H3.out.fl n x hx').sl.pos h0
                  exact keep _ hcs.lt (Ne.symm (H3.out.mp.ne hcs)) (z2 h0))
          · by_cases hn : n = s.data.toList
            · by_cases hn' : n' = s.data.toList
              · rw [hn, hn']
              · simp only [if_pos hn, if_neg hn'] at he
                have := hlt n' x' (hold n' x' hn' hx')
                omega
            · by_cases hn' : n' = s.data.toList
              · simp only [if_neg hn, if_pos hn'] at he
                have := hlt n x (hold n x hn hx)
                omega
              · simp only [if_neg hn, if_neg hn'] at he
                exact H3.out.bi n x n' x' (hold n x hn hx) (hold n' x' hn' hx') he
          · by_cases hn : n = s.data.toList
            · subst hn
              obtain rfl := hnew x hx
              simp at hp
            · by_cases hn' : n' = s.data.toList
              · subst hn'
                obtain rfl := hnew x' hx'
                simp at hp'
              · exact H3.out.si n x n' x' (hold n x hn hx) (hold n' x' hn' hx') hp hp' he
          · have hO3 : ∀ i, FsO f m bl gl (burntP S) i → O i := fun i hi => HO.out i ((FsO_fs e3 i).1 hi)
            rcases hi with rfl | rfl | ⟨n, x, hx, hi⟩
            · exact .inl (hO3 _ (.inl rfl))
            · exact .inl (hO3 _ (.inr (.inl rfl)))
            · by_cases hn : n = s.data.toList
              · subst hn
                obtain rfl := hnew x hx
                simp only [if_pos, List.length_nil, Nat.lt_irrefl, false_and, or_false] at hi
                refine .inr ?_
                have := B2.out.size; have := K3.out.size; omega
              · simp only [if_neg hn] at hi
                exact .inl (hO3 i (.inr (.inr ⟨n, x, hold n x hn hx, hi⟩)))
          · have k1 : Ch O w1 w3 := (Ch.of_below B2.out (Nat.le_refl _)).trans K3.out (fun i hi => .inl (HO.out i (.inl hi)))
            have s13 := k1.size
            have hOm : O m := HO.out m (.inr (.inl rfl))
            have hOf : O f := HO.out f (.inl rfl)
            exact ((k1.alloc _).grown p2.out (fun i hi => by injection hi with hi; exact .inl (hi ▸ hOm))).trans y3.out (fun i hi => by
              rcases hi with hi | hi
              · exact .inl (hi ▸ hOf)
              · exact .inr (by omega))
end Go.Proofs.YtoadamkmabkldaaGreatDoor
