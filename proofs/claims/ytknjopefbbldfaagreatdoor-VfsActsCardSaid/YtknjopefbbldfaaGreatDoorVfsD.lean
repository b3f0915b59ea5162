/- Contracts of package vfs: Delete. -/
import Derived.Test.YtknjopefbbldfaaGreatDoorVfsC
namespace Go.Proofs.YtknjopefbbldfaaGreatDoor
open Go.RowKit
attribute [local go_sem ↓] Go.wp_at_zero Go.wp_at_succ

/-- The files of a store have other names, or are gone. -/
theorem FsM.re {W W' : World} {f m : Nat} {bl gl : List UInt8 → Nat} {sv : List UInt8 → Value} {S S' : FsP} (h : FsM W f m bl gl sv S) (src : List UInt8 → List UInt8)
    (hS : ∀ s z, findP S' s = some z → ∃ x, findP S (src s) = some x ∧ z.W.length = x.W.length ∧ FlM W' (bl (src s)) (gl (src s)) (sv (src s)) z)
    (inj : ∀ s z s' z', findP S' s = some z → findP S' s' = some z' → src s = src s' → s = s')
    (hd : Bk W' f 45 #[.int .i64 (S'.most : Int), .int .i64 (S'.stamp : Int), .int .i64 S'.fuse, .bool S'.down, .map (some m)])
    (mp : MapS W' m S'.stamp (fun n => (findP S' n).map fun _ => bl (src n))) (wf : S'.WF) :
    FsM W' f m (fun n => bl (src n)) (fun n => gl (src n)) (fun n => sv (src n)) S' ∧ ∀ i, FsO f m (fun n => bl (src n)) (fun n => gl (src n)) S' i → FsO f m bl gl S i := by
  refine ⟨⟨hd, mp, fun s z hz => ?_, fun s z s' z' hz hz' he => ?_, fun s z s' z' hz hz' h0 h0' he => ?_, wf⟩, fun i hi => ?_⟩
  · obtain ⟨x, _, _, h3⟩ := hS s z hz; exact h3
  · obtain ⟨x, h1, _, _⟩ := hS s z hz
    obtain ⟨x', h1', _, _⟩ := hS s' z' hz'
    exact inj s z s' z' hz hz' (h.bi _ _ _ _ h1 h1' he)
  · obtain ⟨x, h1, h2, _⟩ := hS s z hz
    obtain ⟨x', h1', h2', _⟩ := hS s' z' hz'
    exact inj s z s' z' hz hz' (h.si _ _ _ _ h1 h1' (by omega) (by omega) he)
  · rcases hi with rfl | rfl | ⟨s, z, hz, hi⟩
    · exact .inl rfl
    · exact .inr (.inl rfl)
    · obtain ⟨x, h1, h2, _⟩ := hS s z hz
      refine .inr (.inr ⟨_, x, h1, ?_⟩)
      rw [h2] at hi
      exact hi
theorem at_delete {P : Program} {w : World} {ops : Array Oper} {rest : List Oper} {a : Act} {Q : Exit → Act → World → Prop} {d : Option Tmp} {ty : TypeId} {pos : String} {af : Array Edge} {g : Option (Nat × Bool)} {xs : Array Operand} {ts : Array TypeId}
    (h : wpList P ops Q ({ dst := d, op := .call { callee := .builtin .delete, args := xs, argTypes := ts }, type := ty, pos := pos, after := af, guard := g } :: rest) a w) : wpList P ops Q ({ dst := d, op := .call { callee := .builtin .delete, args := xs, argTypes := ts }, type := ty, pos := pos, after := af, guard := g } :: rest) a w := h
/-- delete(m, s), at the operation. -/
theorem op_del {w : World} {ops : Array Oper} {rest : List Oper} {a : Act} {Q : Exit → Act → World → Prop} {d : Option Tmp} {ty : TypeId} {pos : String} {af : Array Edge} {g : Option (Nat × Bool)} {x y : Operand}
    {m n : Nat} {f : List UInt8 → Option Nat} {s : ByteArray} (h : MapS w m n f) (hsz : s.size ≤ maxLen) (hm : a.eval x = .map (some m)) (hs : a.eval y = .string s)
    (hw : Region.wanted { dst := d, op := .call { callee := .builtin .delete, args := #[x, y], argTypes := #[43, 9] }, type := ty, pos := pos, after := af, guard := g } (yielded ops a.tmps) = true)
    (hK : ∀ w', MapS w' m n (fun t => if t = s.data.toList then none else f t) → w.grownBy w' (some m) → wpList Tryz.prog ops Q rest (a.put d (.tuple #[])) w') :
    wpList Tryz.prog ops Q ({ dst := d, op := .call { callee := .builtin .delete, args := #[x, y], argTypes := #[43, 9] }, type := ty, pos := pos, after := af, guard := g } :: rest) a w :=
  BigFrame.wpList_want hw fun _ hK' => by
    obtain ⟨w', hrun, h1, h2⟩ := h.del hsz ty
    unfold Oper.wp execOp
    simp only [resolve, invoke, builtin, Sem.run_bind, Sem.run_pure, Result.andThen_ok, List.map_toArray, List.map_cons, List.map_nil, hm, hs, hrun]
    exact hK' _ _ (hK w' h1 h2)
theorem goneF_wf {S : FsP} {n : List UInt8} (h : S.WF) : (goneF S n).WF := by
  have hb := burntP_wf h
  obtain ⟨e1, e2, e3, e4, _⟩ := burntP_parts S
  unfold goneF
  refine ⟨hb.most1, hb.most2, hb.fuse1, hb.fuse2, fun p hp => h.files p (drop_mem.1 hp).1, drop_sorted h.order, ?_, fun p hp => h.names p (drop_mem.1 hp).1⟩
  have := use_drop (n := n) (l := S.fs)
  have := h.room
  show useP (dropP n S.fs) ≤ (burntP S).most
  rw [e1]; omega
theorem find_gone {S : FsP} {n : List UInt8} (s : List UInt8) : findP (goneF S n) s = if s = n then none else findP S s := lookup_drop s
set_option maxHeartbeats 4000000 in
set_option maxRecDepth 100000 in
theorem delete_any (f : Nat) (O : Nat → Prop) (S : FsP) (s : ByteArray) (w : World) (h : FsA w O f S) (hs : s.size ≤ 1000000) (hst : S.stamp ≤ 1000000) :
    Calls Tryz.prog 17 #[.pointer (some ⟨f, 0, none⟩), .string s] w fun e w' => e = .returned (.int .i64 ((deleteP S s.data.toList).1 : Int)) ∧ FsA w' O f (deleteP S s.data.toList).2 ∧ Ch O w w' := by
  have hsm : s.size ≤ maxLen := Nat.le_trans hs (by unfold maxLen; decide)
  have H := Lib.hid h
  obtain ⟨m, bl, gl, sv, hM, hO⟩ := h
  have HM := Lib.hid hM
  have HO := Lib.hid hO
  have HS := Lib.hid (And.intro hsm hst)
  unfold deleteP
  cases hd : S.down with
  | true =>
    have HA := Lib.hid (at_down f m bl gl sv S s w hM hsm hd)
    clear hM hO hd hs hsm hst
    go_enter Tryz.func17, Tryz.ntmps17
    go_wp2_with fail
    with_reducible refine HA.out.mono ?_
    rintro e w1 ⟨rfl, hw1⟩; subst hw1
    go_wp2_with fail
    go_ret
    exact ⟨rfl, H.out, Ch.refl _ _⟩
  | false =>
    cases hf : findP S s.data.toList with
    | none =>
      have HA := Lib.hid (at_none f m bl gl sv S s w hM hsm hd hf)
      clear hM hO hd hs hsm hst hf
      go_enter Tryz.func17, Tryz.ntmps17
      go_wp2_with fail
      with_reducible refine HA.out.mono ?_
      rintro e w1 ⟨rfl, hw1⟩; subst hw1
      go_wp2_with fail
      go_ret
      exact ⟨rfl, H.out, Ch.refl _ _⟩
    | some x =>
      have HA := Lib.hid (at_some f m bl gl sv S s w hM hsm hd hf)
      have HF := Lib.hid (And.intro hf hd)
      have HB := Lib.hid (fun W h => burn_fs f m bl gl sv S W h)
      cases hb : burnP S with
      | false =>
        rw [hb] at HB
        clear hM hO hd hs hsm hst hf hb
        go_enter Tryz.func17, Tryz.ntmps17
        go_wp2_with fail
        with_reducible refine HA.out.mono ?_
        rintro e w1 ⟨rfl, hw1⟩; subst hw1
        go_wp2_with fail
        with_reducible refine (HB.out w1 HM.out).mono ?_
        rintro e w3 ⟨rfl, h3, k3⟩
        have H3 := Lib.hid h3
        have K3 := Lib.hid k3
        clear h3 k3
        go_wp2_with fail
        go_ret
        obtain ⟨e1, e2, e3, e4, e5⟩ := burntP_parts S
        exact ⟨rfl, ⟨m, bl, gl, sv, H3.out, fun i hi => HO.out i ((FsO_fs e3 i).1 hi)⟩, K3.out.mono (fun i hi => hi ▸ HO.out f (.inl rfl))⟩
      | true =>
        rw [hb] at HB
        clear hM hO hd hs hsm hst hf hb
        go_enter Tryz.func17, Tryz.ntmps17
        go_wp2_with fail
        with_reducible refine HA.out.mono ?_
        rintro e w1 ⟨rfl, hw1⟩; subst hw1
        go_wp2_with fail
        with_reducible refine (HB.out w1 HM.out).mono ?_
        rintro e w3 ⟨rfl, h3, k3⟩
        have H3 := Lib.hid h3
        have K3 := Lib.hid k3
        have d4 : w3.cell? ⟨f, 4, none⟩ = some (.map (some m)) := h3.hd.cell 4
        have HMP := Lib.hid h3.mp
        clear h3 k3
        go_wp2_with (with_reducible refine at_delete ?_; (apply op_del HMP.out HS.out.1); (case hm => kernel_rfl); (case hs => kernel_rfl); (case hw => kernel_rfl); intro w5 p1 p2; replace p1 := Lib.hid p1; replace p2 := Lib.hid p2; try go_frame)
        go_ret
        obtain ⟨e1, e2, e3, e4, e5⟩ := burntP_parts S
        have hfs := fun t => find_gone (S := S) (n := s.data.toList) t
        have hold : ∀ n x, findP (goneF S s.data.toList) n = some x → n ≠ s.data.toList ∧ findP (burntP S) n = some x := fun n x hx => by
          rw [hfs] at hx
          by_cases e : n = s.data.toList
          · rw [if_pos e] at hx; cases hx
          · rw [if_neg e] at hx
            refine ⟨e, ?_⟩
            unfold findP at hx ⊢; rwa [e3]
        have hmf := H3.out.mp.ne H3.out.hd
        have keep : ∀ i, i < w3.heap.size → i ≠ m → w5.heap[i]? = w3.heap[i]? := fun i hi h1 => p2.out.block i hi (by intro e; injection e with e; exact h1 e)
        have hre := H3.out.re (W' := w5) (S' := goneF S s.data.toList) id (fun t z hz => by
            obtain ⟨_, hz'⟩ := hold t z hz
            have hfl := H3.out.fl t z hz'
            refine ⟨z, hz', rfl, hfl.heap (keep _ hfl.hd.lt (Ne.symm (H3.out.mp.ne hfl.hd))) (fun h0 => ?_)⟩
            obtain ⟨c, cs, _, _, _, hcs, _⟩ := hfl.sl.pos h0
            exact keep _ hcs.lt (Ne.symm (H3.out.mp.ne hcs))) (fun _ _ _ _ _ _ e => e)
          ((keep f H3.out.hd.lt (Ne.symm hmf)).trans H3.out.hd)
          (p1.out.congr (fun t => by
            rw [hfs]
            by_cases e : t = s.data.toList
            · rw [if_pos e, if_pos e]; rfl
            · rw [if_neg e, if_neg e]; unfold findP; rw [e3]; rfl)) (goneF_wf HM.out.wf)
        refine ⟨rfl, ⟨m, _, _, _, hre.1, fun i hi => HO.out i ((FsO_fs e3 i).1 (hre.2 i hi))⟩, ?_⟩
        exact (K3.out.mono (fun i hi => hi ▸ HO.out f (.inl rfl))).grown p2.out (fun i hi => by injection hi with hi; exact .inl (hi ▸ HO.out m (.inr (.inl rfl))))
end Go.Proofs.YtknjopefbbldfaaGreatDoor
