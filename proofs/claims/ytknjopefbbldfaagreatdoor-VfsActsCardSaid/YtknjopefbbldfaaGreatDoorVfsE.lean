/- Contracts of package vfs: Rename. -/
import Derived.Test.YtknjopefbbldfaaGreatDoorVfsD
namespace Go.Proofs.YtknjopefbbldfaaGreatDoor
open Go.RowKit
attribute [local go_sem ↓] Go.wp_at_zero Go.wp_at_succ

theorem use_dropped {n : List UInt8} {x : FlP} {l : List (List UInt8 × FlP)} (h : l.Pairwise fun p q => p.1 < q.1) (hx : l.lookup n = some x) : useP (dropP n l) + x.W.length = useP l := by
  unfold dropP
  induction l with
  | nil => cases hx
  | cons q r ih =>
    obtain ⟨m, z⟩ := q
    obtain ⟨h1, h2⟩ := List.pairwise_cons.1 h
    rw [List.lookup_cons] at hx
    by_cases hm : m = n
    · subst hm
      simp only [beq_self_eq_true, Option.some.injEq] at hx
      subst hx
      rw [List.filter_cons_of_neg (by simp), List.filter_eq_self.2 (fun p hp => by
        have := h1 p hp
        simp only [bne_iff_ne, ne_eq]
        rintro e
        exact lt_irr _ (e ▸ this))]
      simp only [useP, List.map_cons, List.sum_cons]
      omega
    · rw [show (n == m) = false by simpa using Ne.symm hm] at hx
      have := ih h2 hx
      rw [List.filter_cons_of_pos (by simpa using hm)]
      simp only [useP, List.map_cons, List.sum_cons] at this ⊢
      omega
theorem movedF_wf {S : FsP} {n k : List UInt8} {x : FlP} (h : S.WF) (hx : findP S n = some x) (hk : k.length ≤ 100) : (movedF S n k x).WF := by
  have hb := burntP_wf h
  obtain ⟨e1, e2, e3, e4, _⟩ := burntP_parts S
  have hxw := h.files _ (lookup_mem hx)
  have hd : (dropP n S.fs).Pairwise fun p q => p.1 < q.1 := drop_sorted h.order
  have hd2 : (dropP k (dropP n S.fs)).Pairwise fun p q => p.1 < q.1 := drop_sorted hd
  have huse : useP (dropP n S.fs) + x.W.length = useP S.fs := use_dropped h.order hx
  unfold movedF
  refine ⟨hb.most1, hb.most2, hb.fuse1, hb.fuse2, fun p hp => ?_, ins_sorted hd2 (fun p hp => (drop_mem.1 hp).2), ?_, fun p hp => ?_⟩
  · rcases ins_mem.1 hp with rfl | hp
    · exact ⟨hxw.w, hxw.o⟩
    · exact h.files p (drop_mem.1 (drop_mem.1 hp).1).1
  · have h1 := use_drop (n := k) (l := dropP n S.fs)
    have h2 := h.room
    show useP (insP k _ (dropP k (dropP n S.fs))) ≤ (burntP S).most
    rw [use_ins, e1]
    simp only
    omega
  · rcases ins_mem.1 hp with rfl | hp
    · exact hk
    · exact h.names p (drop_mem.1 (drop_mem.1 hp).1).1
theorem find_moved {S : FsP} {n k : List UInt8} {x : FlP} (s : List UInt8) : findP (movedF S n k x) s = if s = k then some { x with stamp := S.stamp + 1 } else if s = n then none else findP S s := by
  have h1 : findP (movedF S n k x) s = _ := lookup_ins (n := k) (x := { x with stamp := S.stamp + 1 }) (l := dropP k (dropP n S.fs)) (fun p hp => (drop_mem.1 hp).2) s
  rw [h1, lookup_drop, lookup_drop]
  by_cases e : s = k
  · rw [if_pos e, if_pos e]
  · rw [if_neg e, if_neg e, if_neg e]; rfl
set_option maxHeartbeats 4000000 in
set_option maxRecDepth 100000 in
theorem rename_any (f : Nat) (O : Nat → Prop) (S : FsP) (s : ByteArray) (k : ByteArray) (w : World) (h : FsA w O f S) (hs : s.size ≤ 1000000) (hst : S.stamp ≤ 1000000) (hk : k.size ≤ 1000000) :
    Calls Tryz.prog 16 #[.pointer (some ⟨f, 0, none⟩), .string s, .string k] w fun e w' => e = .returned (.int .i64 ((renameP S s.data.toList k.data.toList).1 : Int)) ∧ FsA w' O f (renameP S s.data.toList k.data.toList).2 ∧ Ch O w w' := by
  have hsm : s.size ≤ maxLen := Nat.le_trans hs (by unfold maxLen; decide)
  have H := Lib.hid h
  obtain ⟨m, bl, gl, sv, hM, hO⟩ := h
  have HM := Lib.hid hM
  have HO := Lib.hid hO
  have hkm : k.size ≤ maxLen := Nat.le_trans hk (by unfold maxLen; decide)
  have HS := Lib.hid (And.intro hsm (And.intro hst hkm))
  have HR := Lib.hid (fun w => right_any k w hk)
  clear hk hkm
  unfold renameP
  cases hd : S.down with
  | true =>
    have HA := Lib.hid (at_down f m bl gl sv S s w hM hsm hd)
    clear hM hO hd hs hsm hst
    go_enter Tryz.func16, Tryz.ntmps16
    go_wp2_with fail
    with_reducible refine HA.out.mono ?_
    rintro e w1 ⟨rfl, hw1⟩; subst hw1
    go_wp2_with fail
    go_ret
    exact ⟨rfl, H.out, Ch.refl _ _⟩
  | false =>
    cases hf : findP S s.data.toList with
    | none =>
      have HA := Lib.hid (at_none f m bl gl sv S s w hM hsm hd hf)
      clear hM hO hd hs hsm hst hf
      go_enter Tryz.func16, Tryz.ntmps16
      go_wp2_with fail
      with_reducible refine HA.out.mono ?_
      rintro e w1 ⟨rfl, hw1⟩; subst hw1
      go_wp2_with fail
      go_ret
      exact ⟨rfl, H.out, Ch.refl _ _⟩
    | some x =>
      have HA := Lib.hid (at_some f m bl gl sv S s w hM hsm hd hf)
      have HF := Lib.hid (And.intro hf hd)
      have HB := Lib.hid (fun W h => burn_fs f m bl gl sv S W h)
      cases hr : rightP k.data.toList with
      | false =>
        rw [hr] at HR
        clear hM hO hd hs hsm hst hf hr
        go_enter Tryz.func16, Tryz.ntmps16
        go_wp2_with fail
        with_reducible refine HA.out.mono ?_
        rintro e w1 ⟨rfl, hw1⟩; subst hw1
        go_wp2_with fail
        with_reducible refine (HR.out _).mono ?_
        rintro e w2 ⟨rfl, b2⟩
        have B2 := Lib.hid b2
        clear b2
        go_wp2_with fail
        go_ret
        exact ⟨rfl, H.out.below B2.out, Ch.of_below B2.out (Nat.le_refl _)⟩
      | true =>
        have HL := Lib.hid (rightP_len hr)
        rw [hr] at HR
        cases he : (k.data.toList == s.data.toList) with
        | true =>
          have he2 : (k.toList == s.toList) = true := by rw [ByteArray.toList_eq, ByteArray.toList_eq]; exact he
          clear hM hO hd hs hsm hst hf hr he
          go_enter Tryz.func16, Tryz.ntmps16
          go_wp2_with fail
          with_reducible refine HA.out.mono ?_
          rintro e w1 ⟨rfl, hw1⟩; subst hw1
          go_wp2_with fail
          with_reducible refine (HR.out _).mono ?_
          rintro e w2 ⟨rfl, b2⟩
          have B2 := Lib.hid b2
          clear b2
          go_wp2_with fail
          go_ret
          exact ⟨rfl, H.out.below B2.out, Ch.of_below B2.out (Nat.le_refl _)⟩
        | false =>
          have he2 : (k.toList == s.toList) = false := by rw [ByteArray.toList_eq, ByteArray.toList_eq]; exact he
          have HE := Lib.hid (show k.data.toList ≠ s.data.toList by simpa using he)
          cases hb : burnP S with
          | false =>
            rw [hb] at HB
            clear hM hO hd hs hsm hst hf hr he hb
            go_enter Tryz.func16, Tryz.ntmps16
            go_wp2_with fail
            with_reducible refine HA.out.mono ?_
            rintro e w1 ⟨rfl, hw1⟩; subst hw1
            go_wp2_with fail
            with_reducible refine (HR.out _).mono ?_
            rintro e w2 ⟨rfl, b2⟩
            have B2 := Lib.hid b2
            clear b2
            go_wp2_with fail
            with_reducible refine (HB.out w2 (HM.out.heap (fun i hi => B2.out.block i (HM.out.lt i hi)))).mono ?_
            rintro e w3 ⟨rfl, h3, k3⟩
            have H3 := Lib.hid h3
            have K3 := Lib.hid k3
            clear h3 k3
            go_wp2_with fail
            go_ret
            obtain ⟨e1, e2, e3, e4, e5⟩ := burntP_parts S
            exact ⟨rfl, ⟨m, bl, gl, sv, H3.out, fun i hi => HO.out i ((FsO_fs e3 i).1 hi)⟩, (Ch.of_below B2.out (Nat.le_refl _)).trans K3.out (fun i hi => .inl (hi ▸ HO.out f (.inl rfl)))⟩
          | true =>
            rw [hb] at HB
            clear hM hO hd hs hsm hst hf hr he hb
            go_enter Tryz.func16, Tryz.ntmps16
            go_wp2_with fail
            with_reducible refine HA.out.mono ?_
            rintro e w1 ⟨rfl, hw1⟩; subst hw1
            go_wp2_with fail
            with_reducible refine (HR.out _).mono ?_
            rintro e w2 ⟨rfl, b2⟩
            have B2 := Lib.hid b2
            clear b2
            go_wp2_with fail
            with_reducible refine (HB.out w2 (HM.out.heap (fun i hi => B2.out.block i (HM.out.lt i hi)))).mono ?_
            rintro e w3 ⟨rfl, h3, k3⟩
            have H3 := Lib.hid h3
            have K3 := Lib.hid k3
            have d4 : w3.cell? ⟨f, 4, none⟩ = some (.map (some m)) := h3.hd.cell 4
            have HMP := Lib.hid h3.mp
            clear h3 k3
            obtain ⟨e1, e2, e3, e4, e5⟩ := burntP_parts S
            have hf3 : findP (burntP S) s.data.toList = some x := by have := HF.out.1; unfold findP at this ⊢; rwa [e3]
            have hmf := H3.out.mp.ne H3.out.hd
            have HD := Lib.hid (show ∀ w5, w3.grownBy w5 (some m) → w5.cell? ⟨f, 4, none⟩ = some (.map (some m)) ∧ Bk w5 f 45 #[.int .i64 ((burntP S).most : Int), .int .i64 (S.stamp : Int), .int .i64 (burntP S).fuse, .bool (burntP S).down, .map (some m)] ∧ Bk w5 (bl s.data.toList) 73 #[sv s.data.toList, .int .i64 (x.B.length : Int), .int .i64 (x.stamp : Int)] from fun w5 p => by
              have h1 := H3.out.hd.grown p (by intro e; injection e with e; exact hmf e.symm)
              rw [e2] at h1
              exact ⟨h1.cell 4, h1, (H3.out.fl _ x hf3).hd.grown p (by intro e; injection e with e; exact H3.out.mp.ne (H3.out.fl _ x hf3).hd e.symm)⟩)
            have HN := Lib.hid (show (burntP S).stamp ≤ 1000000 by rw [e2]; exact HS.out.2.1)
            have HCH := Lib.hid (fun W h1 h2 => changed_any f (bl s.data.toList) S.stamp (.int .i64 ((burntP S).most : Int)) (.int .i64 (burntP S).fuse) (.bool (burntP S).down) (.map (some m)) (sv s.data.toList) (.int .i64 (x.B.length : Int)) (.int .i64 (x.stamp : Int)) W h1 h2 HS.out.2.1)
            have HF3 := Lib.hid (And.intro hf3 hmf)
            clear e1 e2 e3 e4 e5 hf3 hmf
            go_wp2_with (first
              | (with_reducible refine at_delete ?_; (apply op_del HMP.out HS.out.1); (case hm => kernel_rfl); (case hs => kernel_rfl); (case hw => kernel_rfl); intro w4 p1 p2; have d5 : w4.cell? ⟨f, 4, none⟩ = some (.map (some m)) := (HD.out w4 p2).1; replace p1 := Lib.hid p1; replace p2 := Lib.hid p2; try go_frame)
              | (at_mapUpdate; (apply op_put (b := bl s.data.toList) p1.out HS.out.2.2 HN.out); (case hm => kernel_rfl); (case hs => kernel_rfl); (case hb => kernel_rfl); (case hw => kernel_rfl); intro w5 q1 q2; have x3 := Lib.hid (HD.out w5 (gb_trans p2.out q2)); replace q1 := Lib.hid q1; replace q2 := Lib.hid (gb_trans p2.out q2); try go_frame)
              | (go_at_call 40; refine (HCH.out _ x3.out.2.1 x3.out.2.2).mono ?_; rintro e w6 ⟨rfl, y1, y2, y3⟩; replace y1 := Lib.hid y1; replace y2 := Lib.hid y2; replace y3 := Lib.hid y3))
            go_ret
            obtain ⟨e1, e2, e3, e4, e5⟩ := burntP_parts S
            obtain ⟨hf3, hmf⟩ := HF3.out
            have hne := HE.out
            have hfs := fun t => find_moved (S := S) (n := s.data.toList) (k := k.data.toList) (x := x) t
            have hb3 : ∀ t, findP (burntP S) t = findP S t := fun t => by unfold findP; rw [e3]
            have hold : ∀ t z, t ≠ k.data.toList → findP (movedF S s.data.toList k.data.toList x) t = some z → t ≠ s.data.toList ∧ findP (burntP S) t = some z := fun t z hk hz => by
              rw [hfs, if_neg hk] at hz
              by_cases e : t = s.data.toList
              · rw [if_pos e] at hz; cases hz
              · rw [if_neg e] at hz; exact ⟨e, by rw [hb3]; exact hz⟩
            have hnew : ∀ z, findP (movedF S s.data.toList k.data.toList x) k.data.toList = some z → z = { x with stamp := S.stamp + 1 } := fun z hz => by
              rw [hfs, if_pos rfl] at hz; exact (Option.some.inj hz).symm
            have s5 := q2.out.size
            have keep : ∀ i, i < w3.heap.size → i ≠ m → i ≠ f → i ≠ bl s.data.toList → w6.heap[i]? = w3.heap[i]? := fun i hi h1 h2 h3 =>
              (y3.out.block i (by omega) (by rintro (e | e); exact h2 e; exact h3 e)).trans (q2.out.block i hi (by intro e; injection e with e; exact h1 e))
            have hx3 := H3.out.fl _ x hf3
            have hmb := H3.out.mp.ne hx3.hd
            have hre := H3.out.re (W' := w6) (S' := movedF S s.data.toList k.data.toList x) (fun t => if t = k.data.toList then s.data.toList else t) (fun t z hz => by
                by_cases e : t = k.data.toList
                · subst e
                  obtain rfl := hnew z hz
                  simp only [if_pos]
                  refine ⟨x, hf3, rfl, y2.out, ?_⟩
                  refine hx3.sl.heap (fun h0 => ?_)
                  obtain ⟨c, cs, _, _, _, hcs, _⟩ := hx3.sl.pos h0
                  exact keep _ hcs.lt (Ne.symm (H3.out.mp.ne hcs)) ((H3.out.nef hf3).2.1 h0) (hx3.ne h0)
                · simp only [if_neg e]
                  obtain ⟨n1, hz'⟩ := hold t z e hz
                  have hfl := H3.out.fl t z hz'
                  refine ⟨z, hz', rfl, hfl.heap (keep _ hfl.hd.lt (Ne.symm (H3.out.mp.ne hfl.hd)) (H3.out.nef hz').1 (fun e2 => n1 (H3.out.bi _ _ _ _ hz' hf3 e2))) (fun h0 => ?_)⟩
                  obtain ⟨c, cs, _, _, _, hcs, _⟩ := hfl.sl.pos h0
                  exact keep _ hcs.lt (Ne.symm (H3.out.mp.ne hcs)) ((H3.out.nef hz').2.1 h0) (hfl.sl.ne h0 hx3.hd (by decide)))
              (fun t z t' z' hz hz' he => by
                by_cases e : t = k.data.toList
                · by_cases e' : t' = k.data.toList
                  · rw [e, e']
                  · simp only [if_pos e, if_neg e'] at he
                    exact absurd he.symm (hold t' z' e' hz').1
                · by_cases e' : t' = k.data.toList
                  · simp only [if_neg e, if_pos e'] at he
                    exact absurd he (hold t z e hz).1
                  · simp only [if_neg e, if_neg e'] at he
                    exact he)
              y1.out
              (((q1.out.heap (y3.out.block m (by have := H3.out.mp.lt; omega) (by rintro (e | e); exact hmf e; exact hmb e))).mono (by rw [e2]; exact Nat.le_refl _)).congr (fun t => by
                rw [hfs]
                by_cases e : t = k.data.toList
                · rw [if_pos e, if_pos e, if_pos e]; rfl
                · rw [if_neg e, if_neg e, if_neg e]
                  by_cases e' : t = s.data.toList
                  · rw [if_pos e', if_pos e']; rfl
                  · rw [if_neg e', if_neg e', hb3])) (movedF_wf HM.out.wf HF.out.1 (by have := HL.out; omega))
            have hOm := HO.out m (.inr (.inl rfl))
            have hOf := HO.out f (.inl rfl)
            have hOb := HO.out (bl s.data.toList) (.inr (.inr ⟨_, x, HF.out.1, .inl rfl⟩))
            refine ⟨rfl, ⟨m, _, _, _, hre.1, fun i hi => HO.out i ((FsO_fs e3 i).1 (hre.2 i hi))⟩, ?_⟩
            exact ((((Ch.of_below B2.out (Nat.le_refl _)).trans K3.out (fun i hi => .inl (hi ▸ hOf))).grown q2.out (fun i hi => by injection hi with hi; exact .inl (hi ▸ hOm)))).trans y3.out (fun i hi => by
              rcases hi with hi | hi
              · exact .inl (hi ▸ hOf)
              · exact .inl (hi ▸ hOb))
end Go.Proofs.YtknjopefbbldfaaGreatDoor
