/- The document's store: one file turned, one more file. -/
import Derived.Test.YtknjopefbbldfaaGreatDoorVfsZi
import Derived.Test.YtknjopefbbldfaaGreatDoorVfsS
import Derived.Test.YtknjopefbbldfaaGreatDoorVfsE
namespace Go.Proofs.YtknjopefbbldfaaGreatDoor
open Go.RowKit

theorem RfF.ner {W : World} {R : RfR} {n : List UInt8} {x : FlP} {r : Nat} {cs : Array Value} (hf : RfF W R n x) (hr : Bk W r 48 cs) : ∀ i, R.has i → i ≠ r := by
  rintro i (rfl | hi | hi | hi)
  · exact Bk.ne hf.hd hr (by decide)
  · exact own_bk_ne hf.b hr (by decide) hi
  · exact own_bk_ne hf.o hr (by decide) hi
  · exact own_bk_ne hf.w hr (by decide) hi
theorem own_ptr_ne {w : World} {base s n : Nat} {e t : TypeId} {v v' : Value} {xs : List Value} {base' s' n' : Nat} {xs' : List Value} (h : w.ownsRow base e s v n xs) (h' : w.ownsRow base' t s' v' n' xs') (hne : e ≠ t) {i : Nat} (hi : v.ownBlock = some i) : v'.ownBlock ≠ some i := own_two h h' hne hi
/-- What a file has is no part of the row of pointers. -/
theorem RfF.nel {W : World} {R : RfR} {n : List UInt8} {x : FlP} {vL : Value} {m : Nat} {xs : List Value} (hf : RfF W R n x) (hl : W.ownsRow 0 59 1 vL m xs) : ∀ i, R.has i → vL.ownBlock ≠ some i := by
  rintro i (rfl | hi | hi | hi) e
  · exact own_bk_ne hl hf.hd (by decide) e rfl
  · exact own_two hf.b hl (by decide) hi e
  · exact own_two hf.o hl (by decide) hi e
  · exact own_two hf.w hl (by decide) hi e
section
variable {W W' : World} {r : Nat} {vL : Value} {Rs : List RfR} {S S' : FsP}
/-- One file has turned, at its place. -/
theorem RfM.setF (h : RfM W r vL Rs S) {i : Nat} {R R' : RfR} {n' : List UInt8} {y : FlP} (hR : Rs[i]? = some R) (hb : R'.b = R.b) (hf : RfF W' R' n' y)
    (hd : Bk W' r 48 #[vL, .int .i64 (S'.most : Int), .int .i64 (S'.stamp : Int), .int .i64 S'.fuse, .bool S'.down])
    (keep : ∀ k, k < W.heap.size → k ≠ r → ¬ R.has k → W'.heap[k]? = W.heap[k]?) (hh : ∀ k, R'.has k → R.has k ∨ W.heap.size ≤ k) (hfs : S'.fs = S.fs.set i (n', y)) (hwf : S'.WF) :
    RfM W' r vL (Rs.set i R') S' ∧ ∀ k, RfO r vL (Rs.set i R') k → RfO r vL Rs k ∨ W.heap.size ≤ k := by
  have hi : i < Rs.length := (List.getElem?_eq_some_iff.1 hR).1
  have hRe : Rs[i] = R := (List.getElem?_eq_some_iff.1 hR).2
  obtain ⟨n0, x0, hx0, hf0⟩ := h.at_ hR
  have apart : ∀ (j : Nat) (Q : RfR), j ≠ i → Rs[j]? = some Q → ∀ k, Q.has k → ¬ R.has k := fun j Q hne hQ k hk hRk => by
    have hj : j < Rs.length := (List.getElem?_eq_some_iff.1 hQ).1
    have hQe : Rs[j] = Q := (List.getElem?_eq_some_iff.1 hQ).2
    rcases Nat.lt_or_gt_of_ne hne with h1 | h1
    · exact (List.pairwise_iff_getElem.1 h.ap j i hj hi h1) k (hQe ▸ hk) (hRe ▸ hRk)
    · exact (List.pairwise_iff_getElem.1 h.ap i j hi hj h1) k (hRe ▸ hRk) (hQe ▸ hk)
  have lt : ∀ (j : Nat) (Q : RfR), Rs[j]? = some Q → ∀ k, Q.has k → k < W.heap.size := fun j Q hQ k hk => h.lt k (.inr (.inr ⟨Q, List.mem_of_getElem? hQ, hk⟩))
  have kf : ∀ (j : Nat) (Q : RfR), j ≠ i → Rs[j]? = some Q → ∀ k, Q.has k → W'.heap[k]? = W.heap[k]? := fun j Q hne hQ k hk =>
    keep k (lt j Q hQ k hk) (h.ner k (.inr ⟨Q, List.mem_of_getElem? hQ, hk⟩)) (apart j Q hne hQ k hk)
  have hrow : (Rs.set i R').map (fun R => Value.pointer (some ⟨R.b, 0, none⟩)) = Rs.map fun R => Value.pointer (some ⟨R.b, 0, none⟩) := by
    rw [List.map_set, hb, ← hRe]
    rw [show Value.pointer (some ⟨Rs[i].b, 0, none⟩) = (Rs.map fun R => Value.pointer (some ⟨R.b, 0, none⟩))[i]'(by simpa using hi) by simp, List.set_getElem_self]
  refine ⟨⟨hd, ?_, by rw [List.length_set, hfs, List.length_set]; exact h.len, fun j Q p hQ hp => ?_, ?_, hwf⟩, fun k hk => ?_⟩
  · rw [hrow, List.length_set]
    exact own_heap' h.row (fun k hk => keep k (h.row.lt k hk).2 (h.ner k (.inl hk)) (fun hRk => hf0.nel h.row k hRk hk))
  · rw [hfs] at hp
    by_cases e : j = i
    · subst e
      rw [List.getElem?_set_self hi] at hQ
      rw [List.getElem?_set_self (by rw [← h.len]; exact hi)] at hp
      injection hQ with hQ
      injection hp with hp
      rw [← hQ, ← hp]; exact hf
    · rw [List.getElem?_set_ne (Ne.symm e)] at hQ hp
      exact (h.fl j Q p hQ hp).heap (kf j Q e hQ)
  · rw [List.pairwise_iff_getElem]
    intro a b ha hb' hab k hk hk'
    rw [List.length_set] at ha hb'
    rw [List.getElem_set] at hk hk'
    by_cases e1 : i = a
    · subst e1
      rw [if_pos rfl] at hk
      rw [if_neg (by omega)] at hk'
      rcases hh k hk with h1 | h1
      · exact apart b Rs[b] (by omega) (List.getElem?_eq_getElem hb') k hk' h1
      · have := lt b Rs[b] (List.getElem?_eq_getElem hb') k hk'; omega
    · rw [if_neg e1] at hk
      by_cases e2 : i = b
      · subst e2
        rw [if_pos rfl] at hk'
        rcases hh k hk' with h1 | h1
        · exact apart a Rs[a] (by omega) (List.getElem?_eq_getElem ha) k hk h1
        · have := lt a Rs[a] (List.getElem?_eq_getElem ha) k hk; omega
      · rw [if_neg e2] at hk'
        exact List.pairwise_iff_getElem.1 h.ap a b ha hb' hab k hk hk'
  · rcases hk with rfl | hk | ⟨Q, hQ, hk⟩
    · exact .inl (.inl rfl)
    · exact .inl (.inr (.inl hk))
    · rcases List.mem_or_eq_of_mem_set hQ with h1 | rfl
      · exact .inl (.inr (.inr ⟨Q, h1, hk⟩))
      · rcases hh k hk with h1 | h1
        · exact .inl (.inr (.inr ⟨R, List.mem_of_getElem? hR, h1⟩))
        · exact .inr h1
end
theorem ins_any (r : Nat) (vL : Value) (Rs : List RfR) (S : FsP) (nm : List UInt8) (x : FlP) (R : RfR) (w : World) (h : RfM w r vL Rs S) (hf : RfF w R nm x) (hap : ∀ R' ∈ Rs, ∀ i, R.has i → ¬ R'.has i) (hn : Rs.length ≤ 999990) (hwf : ({ S with fs := insP nm x S.fs } : FsP).WF) :
    Calls Tryz.prog 49 #[.pointer (some ⟨r, 0, none⟩), .pointer (some ⟨R.b, 0, none⟩)] w fun e w' => e = .returned (.tuple #[]) ∧ ∃ v, RfM w' r v (Rs.take (posP nm S.fs) ++ R :: Rs.drop (posP nm S.fs)) { S with fs := insP nm x S.fs } ∧ (∀ k, v.ownBlock = some k → w.heap.size ≤ k) ∧ Ch (fun k => k = r) w w' := by
  refine (ins_row r vL Rs S nm R _ _ _ _ w h hf.hd hn).mono ?_
  rintro e w' ⟨rfl, v, h1, h2, h3⟩
  have hlen := h.len
  have hpN : posP nm S.fs ≤ S.fs.length := posP_le nm S.fs
  have hpR : posP nm S.fs ≤ Rs.length := by omega
  have kf : ∀ (j : Nat) (Q : RfR), Rs[j]? = some Q → ∀ k, Q.has k → w'.heap[k]? = w.heap[k]? := fun j Q hQ k hk =>
    h3.block k (h.lt k (.inr (.inr ⟨Q, List.mem_of_getElem? hQ, hk⟩))) (h.ner k (.inr ⟨Q, List.mem_of_getElem? hQ, hk⟩))
  have hins := ins_at nm x S.fs
  refine ⟨rfl, v, ⟨h2, ?_, ?_, fun j Q p hQ hp => ?_, ?_, hwf⟩, fun k hk => (h1.lt k hk).1, h3⟩
  · rw [mid_len hpR]; exact own_base h1 (Nat.zero_le _)
  · rw [mid_len hpR]
    show Rs.length + 1 = (insP nm x S.fs).length
    rw [hins, mid_len hpN, hlen]
  · have hp' : (insP nm x S.fs)[j]? = some p := hp
    rw [hins, mid_get hpN] at hp'
    rw [mid_get hpR] at hQ
    by_cases e1 : j < posP nm S.fs
    · rw [if_pos e1] at hQ hp'
      exact (h.fl j Q p hQ hp').heap (kf j Q hQ)
    · rw [if_neg e1] at hQ hp'
      by_cases e2 : j = posP nm S.fs
      · rw [if_pos e2] at hQ hp'
        injection hQ with hQ
        injection hp' with hp'
        rw [← hQ, ← hp']
        exact hf.heap (fun k hk => h3.block k (hf.lt k hk) (hf.ner h.hd k hk))
      · rw [if_neg e2] at hQ hp'
        exact (h.fl (j - 1) Q p hQ hp').heap (kf (j - 1) Q hQ)
  · rw [List.pairwise_append]
    refine ⟨h.ap.sublist (List.take_sublist _ _), List.pairwise_cons.2 ⟨fun Q hQ i hi => hap Q (List.mem_of_mem_drop hQ) i hi, h.ap.sublist (List.drop_sublist _ _)⟩, fun Q hQ Q' hQ' i hi hi' => ?_⟩
    rcases List.mem_cons.1 hQ' with rfl | hQ'
    · exact hap Q (List.mem_of_mem_take hQ) i hi' hi
    · have := h.ap
      rw [← List.take_append_drop (posP nm S.fs) Rs, List.pairwise_append] at this
      exact this.2.2 Q hQ Q' hQ' i hi hi'
/-- How many files there may be. -/
theorem RfM.many {W : World} {r : Nat} {vL : Value} {Rs : List RfR} {S : FsP} (h : RfM W r vL Rs S) {k : Nat} (hk : S.fs.length ≤ k) : Rs.length ≤ k := by rw [h.len]; exact hk
theorem RfA.wide {W : World} {O : Nat → Prop} {r B : Nat} {S : FsP} (h : RfA W O r S) : RfA W (fun i => O i ∨ B ≤ i) r S := h.mono fun _ ho _ => .inl ho
end Go.Proofs.YtknjopefbbldfaaGreatDoor
/- The document's store: Create, Delete. -/
namespace Go.Proofs.YtknjopefbbldfaaGreatDoor
open Go.RowKit
attribute [local go_sem ↓] Go.wp_at_zero Go.wp_at_succ

theorem str_eta (s : ByteArray) : (⟨s.data.toList.toArray⟩ : ByteArray) = s := by cases s; simp
theorem idx_no {S : FsP} (h : S.WF) {n : List UInt8} (hf : findP S n = none) : idxV S n = -1 := by
  rcases find_idx h n with ⟨h1, _⟩ | ⟨i, x, h1, h2, h3⟩
  · unfold idxV; rw [h1]
  · rw [hf] at h3; cases h3
theorem idx_yes {S : FsP} (h : S.WF) {n : List UInt8} {x : FlP} (hf : findP S n = some x) : ∃ i : Nat, idxV S n = (i : Int) ∧ S.fs[i]? = some (n, x) := by
  rcases find_idx h n with ⟨h1, h2⟩ | ⟨i, y, h1, h2, h3⟩
  · rw [hf] at h2; cases h2
  · rw [hf] at h3
    injection h3 with h3
    subst h3
    exact ⟨i, by unfold idxV; rw [h1], h2⟩
set_option maxHeartbeats 4000000 in
set_option maxRecDepth 100000 in
theorem rcreate_any (r : Nat) (O : Nat → Prop) (S : FsP) (s : ByteArray) (w : World) (h : RfA w O r S) (hs : s.size ≤ 1000000) (hst : S.stamp ≤ 1000000) (hm : S.fs.length ≤ 1000) :
    Calls Tryz.prog 20 #[.pointer (some ⟨r, 0, none⟩), .string s] w fun e w' => e = .returned (.int .i64 ((createP S s.data.toList).1 : Int)) ∧ RfA w' (fun i => O i ∨ w.heap.size ≤ i) r (createP S s.data.toList).2 ∧ Ch O w w' := by
  have H := Lib.hid h
  obtain ⟨vL, Rs, hM, hO⟩ := h
  have HM := Lib.hid hM
  have HO := Lib.hid hO
  have d4 : w.cell? ⟨r, 4, none⟩ = some (.bool S.down) := hM.hd.cell 4
  have HR := Lib.hid (rright_any s w hs)
  have HF := Lib.hid (find_any r vL Rs S s w hM)
  have HB := Lib.hid (rburn_fs r vL Rs S w hM)
  have HX := Lib.hid (And.intro hs (And.intro hst hm))
  have hwf := hM.wf
  clear hM hO hs hst hm
  unfold createP
  cases hd : S.down with
  | true =>
    rw [hd] at d4
    clear hd hwf
    go_enter Tryz.func20, Tryz.ntmps20
    go_wp2_with fail
    go_ret
    exact ⟨rfl, H.out.wide, Ch.refl _ _⟩
  | false =>
    rw [hd] at d4
    cases hr : rightP s.data.toList with
    | false =>
      rw [hr] at HR
      clear hd hr hwf
      go_enter Tryz.func20, Tryz.ntmps20
      go_wp2_with fail
      with_reducible refine (HR.out).mono ?_
      rintro e wz ⟨rfl, hwz⟩
      replace hwz := hwz.symm
      subst hwz
      go_wp2_with fail
      go_ret
      exact ⟨rfl, H.out.wide, Ch.refl _ _⟩
    | true =>
      rw [hr] at HR
      cases hf : findP S s.data.toList with
      | some x =>
        obtain ⟨i, hi, _⟩ := idx_yes hwf hf
        rw [hi] at HF
        have hi0 : (0 : Int) ≤ (i : Int) := by omega
        clear hd hr hwf hf hi
        go_enter Tryz.func20, Tryz.ntmps20
        go_wp2_with fail
        with_reducible refine (HR.out).mono ?_
        rintro e wz ⟨rfl, hwz⟩
        replace hwz := hwz.symm
        subst hwz
        go_wp2_with fail
        with_reducible refine (HF.out).mono ?_
        rintro e wz ⟨rfl, hwz⟩
        replace hwz := hwz.symm
        subst hwz
        go_wp2_with fail
        go_ret
        exact ⟨rfl, H.out.wide, Ch.refl _ _⟩
      | none =>
        have hi := idx_no hwf hf
        rw [hi] at HF
        cases hb : burnP S with
        | false =>
          rw [hb] at HB
          clear hd hr hwf hf hi hb
          go_enter Tryz.func20, Tryz.ntmps20
          go_wp2_with fail
          with_reducible refine (HR.out).mono ?_
          rintro e wz ⟨rfl, hwz⟩
          replace hwz := hwz.symm
          subst hwz
          go_wp2_with fail
          with_reducible refine (HF.out).mono ?_
          rintro e wz ⟨rfl, hwz⟩
          replace hwz := hwz.symm
          subst hwz
          go_wp2_with fail
          with_reducible refine (HB.out).mono ?_
          rintro e w1 ⟨rfl, h1, k1⟩
          have H1 := Lib.hid h1
          have K1 := Lib.hid k1
          clear h1 k1
          go_wp2_with fail
          go_ret
          obtain ⟨e1, e2, e3, e4, e5⟩ := burntP_parts S
          refine ⟨rfl, ⟨vL, Rs, H1.out, fun i hi => .inl (HO.out i hi)⟩, K1.out.mono (fun i hi => by rw [hi]; exact HO.out r (.inl rfl))⟩
        | true =>
          rw [hb] at HB
          have Hf := Lib.hid (And.intro hf hr)
          clear hd hr hwf hf hi hb
          go_enter Tryz.func20, Tryz.ntmps20
          go_wp2_with fail
          with_reducible refine (HR.out).mono ?_
          rintro e wz ⟨rfl, hwz⟩
          replace hwz := hwz.symm
          subst hwz
          go_wp2_with fail
          with_reducible refine (HF.out).mono ?_
          rintro e wz ⟨rfl, hwz⟩
          replace hwz := hwz.symm
          subst hwz
          go_wp2_with fail
          with_reducible refine (HB.out).mono ?_
          rintro e w1 ⟨rfl, h1, k1⟩
          have H1 := Lib.hid h1
          have K1 := Lib.hid k1
          clear h1 k1
          go_wp2_with fail
          have HS := Lib.hid (show Calls Tryz.prog 48 #[.pointer (some ⟨r, 0, none⟩), .pointer (some ⟨w1.heap.size, 0, none⟩)] (w1.alloc (.cells #[.string s, .slice none 0 0, .slice none 0 0, .slice none 0 0, .int .i64 0] 62)) _ from
            rstamped_any r w1.heap.size (burntP S).stamp _ _ _ _ _ _ _ _ _ _ (H1.out.hd.alloc _) (Bk.new w1 _ _) (by rw [(burntP_parts S).2.1]; exact HX.out.2.1))
          with_reducible refine HS.out.mono ?_
          rintro e w2 ⟨rfl, h2, b2, k2⟩
          have HB2 := Lib.hid (And.intro h2 (And.intro b2 k2))
          clear h2 b2 k2
          have HI := Lib.hid (show Calls Tryz.prog 49 #[.pointer (some ⟨r, 0, none⟩), .pointer (some ⟨w1.heap.size, 0, none⟩)] w2 fun e w' => e = .returned (.tuple #[]) ∧ RfA w' (fun i => O i ∨ w.heap.size ≤ i) r (madeF S s.data.toList) ∧ Ch O w w' from by
            obtain ⟨e1, e2, e3, e4, e5⟩ := burntP_parts S
            obtain ⟨h2, b2, k2⟩ := HB2.out
            have s1 := K1.out.size
            have s2 := k2.size
            simp only [World.size_alloc] at s2
            rw [e2] at h2 b2
            have hwfm := madeF_wf HM.out.wf Hf.out.1 (rightP_len Hf.out.2)
            have hr1 : r < w1.heap.size := H1.out.hd.lt
            have keep : ∀ i, i < w1.heap.size → i ≠ r → w2.heap[i]? = w1.heap[i]? := fun i hi hne => (k2.block i (by simp; omega) (by rintro (e | e) <;> omega)).trans (Below.heap_alloc w1 _ i hi)
            have hM2 : RfM w2 r vL Rs { burntP S with stamp := S.stamp + 1 } := H1.out.upd h2 (fun i hi hne => keep i (H1.out.lt i hi) hne) H1.out.ner rfl ⟨H1.out.wf.most1, H1.out.wf.most2, H1.out.wf.fuse1, H1.out.wf.fuse2, H1.out.wf.files, H1.out.wf.order, H1.out.wf.room, H1.out.wf.names⟩
            have hF2 : RfF w2 ⟨w1.heap.size, .slice none 0 0, .slice none 0 0, .slice none 0 0⟩ s.data.toList ⟨[], [], [], S.stamp + 1⟩ :=
              ⟨by rw [str_eta]; exact b2, World.ownsRow_nil _ _ _ _, World.ownsRow_nil _ _ _ _, World.ownsRow_nil _ _ _ _, fun i hi => by cases hi⟩
            have hmk : madeF S s.data.toList = { ({ burntP S with stamp := S.stamp + 1 } : FsP) with fs := insP s.data.toList ⟨[], [], [], S.stamp + 1⟩ ({ burntP S with stamp := S.stamp + 1 } : FsP).fs } := by
              unfold madeF
              congr 1
              rw [e3]
            refine (ins_any r vL Rs _ s.data.toList ⟨[], [], [], S.stamp + 1⟩ ⟨w1.heap.size, .slice none 0 0, .slice none 0 0, .slice none 0 0⟩ w2 hM2 hF2 (fun R' hR' i hi hi' => ?_) (by rw [HM.out.len]; have := HX.out.2.2; omega) (by rw [← hmk]; exact hwfm)).mono ?_
            · have hl := H1.out.lt i (.inr (.inr ⟨R', hR', hi'⟩))
              rcases hi with rfl | hi | hi | hi
              · exact Nat.lt_irrefl _ hl
              · cases hi
              · cases hi
              · cases hi
            · rintro e w3 ⟨rfl, v, h3, hv, k3⟩
              rw [← hmk] at h3
              refine ⟨rfl, ⟨v, _, h3, fun i hi => ?_⟩, ((K1.out.alloc _).trans k2 (fun i hi => ?_)).trans k3 (fun i hi => .inl hi) |>.mono (fun i hi => by rw [hi]; exact HO.out r (.inl rfl))⟩
              · rcases hi with rfl | hi | ⟨R', hR', hi⟩
                · exact .inl (HO.out i (.inl rfl))
                · have := hv i hi; exact .inr (by omega)
                · rw [List.mem_append, List.mem_cons] at hR'
                  rcases hR' with hR' | rfl | hR'
                  · exact .inl (HO.out i (.inr (.inr ⟨R', List.mem_of_mem_take hR', hi⟩)))
                  · rcases hi with rfl | hi | hi | hi
                    · exact .inr s1
                    · cases hi
                    · cases hi
                    · cases hi
                  · exact .inl (HO.out i (.inr (.inr ⟨R', List.mem_of_mem_drop hR', hi⟩)))
              · rcases hi with hi | hi
                · exact .inl hi
                · exact .inr (by rw [hi]; exact s1))
          go_wp2_with fail
          with_reducible refine HI.out.mono ?_
          rintro e w3 ⟨rfl, h3, k3⟩
          have H3 := Lib.hid (And.intro h3 k3)
          clear h3 k3
          go_wp2_with fail
          go_ret
          exact ⟨rfl, H3.out.1, H3.out.2⟩
set_option maxHeartbeats 4000000 in
set_option maxRecDepth 100000 in
theorem rdelete_any (r : Nat) (O : Nat → Prop) (S : FsP) (s : ByteArray) (w : World) (h : RfA w O r S) (hm : S.fs.length ≤ 1000) :
    Calls Tryz.prog 24 #[.pointer (some ⟨r, 0, none⟩), .string s] w fun e w' => e = .returned (.int .i64 ((deleteP S s.data.toList).1 : Int)) ∧ RfA w' (fun i => O i ∨ w.heap.size ≤ i) r (deleteP S s.data.toList).2 ∧ Ch O w w' := by
  have H := Lib.hid h
  obtain ⟨vL, Rs, hM, hO⟩ := h
  have HM := Lib.hid hM
  have HO := Lib.hid hO
  have d4 : w.cell? ⟨r, 4, none⟩ = some (.bool S.down) := hM.hd.cell 4
  have HF := Lib.hid (find_any r vL Rs S s w hM)
  have HB := Lib.hid (rburn_fs r vL Rs S w hM)
  have HX := Lib.hid hm
  have hwf := hM.wf
  clear hM hO hm
  unfold deleteP
  cases hd : S.down with
  | true =>
    rw [hd] at d4
    clear hd hwf
    go_enter Tryz.func24, Tryz.ntmps24
    go_wp2_with fail
    go_ret
    exact ⟨rfl, H.out.wide, Ch.refl _ _⟩
  | false =>
    rw [hd] at d4
    cases hf : findP S s.data.toList with
    | none =>
      have hi := idx_no hwf hf
      rw [hi] at HF
      clear hd hwf hf hi
      go_enter Tryz.func24, Tryz.ntmps24
      go_wp2_with fail
      with_reducible refine (HF.out).mono ?_
      rintro e wz ⟨rfl, hwz⟩
      replace hwz := hwz.symm
      subst hwz
      go_wp2_with fail
      go_ret
      exact ⟨rfl, H.out.wide, Ch.refl _ _⟩
    | some x =>
      obtain ⟨i, hi, hfs⟩ := idx_yes hwf hf
      rw [hi] at HF
      have hi0 : ¬ (i : Int) < (0 : Int) := by omega
      cases hb : burnP S with
      | false =>
        rw [hb] at HB
        clear hd hwf hf hi hb hfs
        go_enter Tryz.func24, Tryz.ntmps24
        go_wp2_with fail
        with_reducible refine (HF.out).mono ?_
        rintro e wz ⟨rfl, hwz⟩
        replace hwz := hwz.symm
        subst hwz
        go_wp2_with fail
        with_reducible refine (HB.out).mono ?_
        rintro e w1 ⟨rfl, h1, k1⟩
        have H1 := Lib.hid h1
        have K1 := Lib.hid k1
        clear h1 k1
        go_wp2_with fail
        go_ret
        obtain ⟨e1, e2, e3, e4, e5⟩ := burntP_parts S
        refine ⟨rfl, ⟨vL, Rs, H1.out, fun i hi => .inl (HO.out i hi)⟩, K1.out.mono (fun i hi => by rw [hi]; exact HO.out r (.inl rfl))⟩
      | true =>
        rw [hb] at HB
        have Hf := Lib.hid (And.intro hf hfs)
        clear hd hwf hf hi hb hfs
        go_enter Tryz.func24, Tryz.ntmps24
        go_wp2_with fail
        with_reducible refine (HF.out).mono ?_
        rintro e wz ⟨rfl, hwz⟩
        replace hwz := hwz.symm
        subst hwz
        go_wp2_with fail
        with_reducible refine (HB.out).mono ?_
        rintro e w1 ⟨rfl, h1, k1⟩
        have H1 := Lib.hid h1
        have K1 := Lib.hid k1
        clear h1 k1
        go_wp2_with fail
        have HD := Lib.hid (show Calls Tryz.prog 51 #[.pointer (some ⟨r, 0, none⟩), .int .i64 (i : Int)] w1 fun e w' => e = .returned (.tuple #[]) ∧ RfA w' (fun i => O i ∨ w.heap.size ≤ i) r (goneF S s.data.toList) ∧ Ch O w w' from by
          obtain ⟨e1, e2, e3, e4, e5⟩ := burntP_parts S
          have hil : i < Rs.length := by rw [HM.out.len]; exact (List.getElem?_eq_some_iff.1 Hf.out.2).1
          refine (drop_any r vL Rs (burntP S) i w1 H1.out (by rw [HM.out.len]; have := HX.out; omega) hil).mono ?_
          rintro e w2 ⟨rfl, v, h2, hv, k2⟩
          have hg : goneF S s.data.toList = { burntP S with fs := (burntP S).fs.eraseIdx i } := by
            unfold goneF
            rw [drop_at HM.out.wf.order Hf.out.2, e3]
          rw [← hg] at h2
          refine ⟨rfl, ⟨v, _, h2, fun k hk => ?_⟩, (K1.out.trans k2 (fun k hk => .inl hk)).mono (fun k hk => by rw [hk]; exact HO.out r (.inl rfl))⟩
          rcases hk with rfl | hk | ⟨R', hR', hk⟩
          · exact .inl (HO.out k (.inl rfl))
          · have := hv k hk; have := K1.out.size; exact .inr (by omega)
          · exact .inl (HO.out k (.inr (.inr ⟨R', List.mem_of_mem_eraseIdx hR', hk⟩))))
        with_reducible refine HD.out.mono ?_
        rintro e w3 ⟨rfl, h3, k3⟩
        have H3 := Lib.hid (And.intro h3 k3)
        clear h3 k3
        go_wp2_with fail
        go_ret
        exact ⟨rfl, H3.out.1, H3.out.2⟩
end Go.Proofs.YtknjopefbbldfaaGreatDoor
/- The document's store: Rename. -/
namespace Go.Proofs.YtknjopefbbldfaaGreatDoor
open Go.RowKit
attribute [local go_sem ↓] Go.wp_at_zero Go.wp_at_succ

/-- Another file of the same kind at its place. -/
theorem setAt_wf {S : FsP} {i : Nat} {n : List UInt8} {x y : FlP} (h : S.WF) (hx : S.fs[i]? = some (n, x)) (hy : y.WF) (hr : useP S.fs + y.W.length ≤ S.most + x.W.length) (st : Nat) : ({ S with stamp := st, fs := S.fs.set i (n, y) } : FsP).WF := by
  have hs := set_at y h.order hx
  have hl : S.fs.lookup n = some x := find_mem h (List.mem_of_getElem? hx)
  rw [← hs]
  refine ⟨h.most1, h.most2, h.fuse1, h.fuse2, fun p hp => ?_, set_sorted h.order, ?_, fun p hp => ?_⟩
  · rcases set_mem hp with rfl | hp
    · exact hy
    · exact h.files p hp
  · have := use_set (x := y) h.order hl
    simp only at this ⊢
    omega
  · rcases set_mem hp with rfl | hp
    · exact h.names (n, x) (List.mem_of_getElem? hx)
    · exact h.names p hp
theorem rstamped_fs (r : Nat) (vL : Value) (Rs : List RfR) (S : FsP) (i : Nat) (R : RfR) (n : List UInt8) (x : FlP) (w : World) (h : RfM w r vL Rs S) (hR : Rs[i]? = some R) (hx : S.fs[i]? = some (n, x)) (hst : S.stamp ≤ 1000000) :
    Calls Tryz.prog 48 #[.pointer (some ⟨r, 0, none⟩), .pointer (some ⟨R.b, 0, none⟩)] w fun e w' => e = .returned (.tuple #[]) ∧ RfM w' r vL (Rs.set i R) { S with stamp := S.stamp + 1, fs := S.fs.set i (n, { x with stamp := S.stamp + 1 }) } ∧ (∀ k, RfO r vL (Rs.set i R) k → RfO r vL Rs k) ∧ Ch (fun k => k = r ∨ k = R.b) w w' := by
  have hf := h.fl i R _ hR hx
  have hw := h.wf.files _ (List.mem_of_getElem? hx)
  refine (rstamped_any r R.b S.stamp _ _ _ _ _ _ _ _ _ w h.hd hf.hd hst).mono ?_
  rintro e w' ⟨rfl, h1, h2, h3⟩
  have keep : ∀ k, k < w.heap.size → k ≠ r → ¬ R.has k → w'.heap[k]? = w.heap[k]? := fun k hk h4 h5 => h3.block k hk (by
    rintro (e | e)
    · exact h4 e
    · exact h5 (.inl e))
  have rowk : ∀ k, (R.vB.ownBlock = some k ∨ R.vO.ownBlock = some k ∨ R.vW.ownBlock = some k) → k < w.heap.size → w'.heap[k]? = w.heap[k]? := fun k hk hl => h3.block k hl (by
    rintro (e | e)
    · exact hf.ner h.hd k (.inr hk) e
    · rcases hk with hk | hk | hk
      · exact own_bk_ne hf.b hf.hd (by decide) hk e
      · exact own_bk_ne hf.o hf.hd (by decide) hk e
      · exact own_bk_ne hf.w hf.hd (by decide) hk e)
  have hf' : RfF w' R n { x with stamp := S.stamp + 1 } := ⟨h2, own_heap' hf.b (fun k hk => rowk k (.inl hk) (hf.b.lt k hk).2), own_heap' hf.o (fun k hk => rowk k (.inr (.inl hk)) (hf.o.lt k hk).2), own_heap' hf.w (fun k hk => rowk k (.inr (.inr hk)) (hf.w.lt k hk).2), hf.ne⟩
  obtain ⟨a1, a2⟩ := h.setF (S' := { S with stamp := S.stamp + 1, fs := S.fs.set i (n, { x with stamp := S.stamp + 1 }) }) hR rfl hf' h1 keep (fun k hk => .inl hk) rfl (setAt_wf (y := { x with stamp := S.stamp + 1 }) h.wf hx ⟨hw.w, hw.o⟩ (by have := h.wf.room; simp only; omega) _)
  refine ⟨rfl, a1, fun k hk => ?_, h3⟩
  rcases hk with hk | hk | ⟨Q, hQ, hk⟩
  · exact .inl hk
  · exact .inr (.inl hk)
  · rcases List.mem_or_eq_of_mem_set hQ with h4 | rfl
    · exact .inr (.inr ⟨Q, h4, hk⟩)
    · exact .inr (.inr ⟨_, List.mem_of_getElem? hR, hk⟩)
/-- A store, and a file that is none of it. -/
def RnS (w W : World) (O : Nat → Prop) (r : Nat) (S : FsP) (R : RfR) (n : List UInt8) (x : FlP) : Prop :=
  ∃ v Rs, RfM W r v Rs S ∧ RfF W R n x ∧ (∀ R' ∈ Rs, ∀ i, R.has i → ¬ R'.has i) ∧ (∀ i, RfO r v Rs i → O i ∨ w.heap.size ≤ i) ∧ (∀ i, R.has i → O i) ∧ Ch O w W
theorem ap_out {Rs : List RfR} {i : Nat} {R : RfR} (h : Rs.Pairwise fun R R' => ∀ i : Nat, R.has i → ¬ R'.has i) (hR : Rs[i]? = some R) : ∀ R' ∈ Rs.eraseIdx i, ∀ k, R.has k → ¬ R'.has k := by
  intro R' hR' k hk hk'
  obtain ⟨hi, rfl⟩ := List.getElem?_eq_some_iff.1 hR
  obtain ⟨j, hj, e⟩ := List.mem_iff_getElem.1 hR'
  rw [List.length_eraseIdx, if_pos hi] at hj
  rw [List.getElem_eraseIdx] at e
  split at e
  · rename_i h1
    exact (List.pairwise_iff_getElem.1 h j i (by omega) hi h1) k (e ▸ hk') hk
  · rename_i h1
    exact (List.pairwise_iff_getElem.1 h i (j + 1) hi (by omega) (by omega)) k hk (e ▸ hk')
section
variable {w W : World} {O : Nat → Prop} {r : Nat} {S : FsP} {R : RfR} {n : List UInt8} {x : FlP}
theorem rn_drop1 {vL : Value} {Rs : List RfR} {i : Nat} (h : RfM W r vL Rs S) (hR : Rs[i]? = some R) (hx : S.fs[i]? = some (n, x)) (hO : ∀ i, RfO r vL Rs i → O i) (hk : Ch O w W) (hm : S.fs.length ≤ 1000) :
    Calls Tryz.prog 51 #[.pointer (some ⟨r, 0, none⟩), .int .i64 (i : Int)] W fun e w' => e = .returned (.tuple #[]) ∧ RnS w w' O r { S with fs := S.fs.eraseIdx i } R n x := by
  have hf := h.fl i R _ hR hx
  refine (drop_any r vL Rs S i W h (by rw [h.len]; omega) (List.getElem?_eq_some_iff.1 hR).1).mono ?_
  rintro e w' ⟨rfl, v, h1, h2, h3⟩
  refine ⟨rfl, v, _, h1, hf.heap (fun k hk => h3.block k (hf.lt k hk) (hf.ner h.hd k hk)), ap_out h.ap hR, fun k hk2 => ?_, fun k hk2 => hO k (.inr (.inr ⟨R, List.mem_of_getElem? hR, hk2⟩)), hk.trans h3 (fun k hk2 => .inl (by rw [hk2]; exact hO r (.inl rfl)))⟩
  rcases hk2 with rfl | hk2 | ⟨Q, hQ, hk2⟩
  · exact .inl (hO k (.inl rfl))
  · have := h2 k hk2; have := hk.size; exact .inr (by omega)
  · exact .inl (hO k (.inr (.inr ⟨Q, List.mem_of_mem_eraseIdx hQ, hk2⟩)))
theorem rn_drop2 {k : Nat} (h : RnS w W O r S R n x) (hr : O r) (hk : k < S.fs.length) (hm : S.fs.length ≤ 1000) :
    Calls Tryz.prog 51 #[.pointer (some ⟨r, 0, none⟩), .int .i64 (k : Int)] W fun e w' => e = .returned (.tuple #[]) ∧ RnS w w' O r { S with fs := S.fs.eraseIdx k } R n x := by
  obtain ⟨vL, Rs, h0, hf, hap, hO, hRO, hc⟩ := h
  refine (drop_any r vL Rs S k W h0 (by rw [h0.len]; omega) (by rw [h0.len]; exact hk)).mono ?_
  rintro e w' ⟨rfl, v, h1, h2, h3⟩
  refine ⟨rfl, v, _, h1, hf.heap (fun k hk => h3.block k (hf.lt k hk) (hf.ner h0.hd k hk)), fun Q hQ => hap Q (List.mem_of_mem_eraseIdx hQ), fun k hk2 => ?_, hRO, hc.trans h3 (fun k hk2 => .inl (by rw [hk2]; exact hr))⟩
  rcases hk2 with rfl | hk2 | ⟨Q, hQ, hk2⟩
  · exact .inl hr
  · have := h2 k hk2; have := hc.size; exact .inr (by omega)
  · exact hO k (.inr (.inr ⟨Q, List.mem_of_mem_eraseIdx hQ, hk2⟩))
theorem rn_put (k : ByteArray) (h : RnS w W O r S R n x) : W.cell? ⟨R.b, 0, none⟩ = some (.string ⟨n.toArray⟩) ∧ (∃ cs, Bk W R.b 62 cs) ∧ RnS w (W.setCell ⟨R.b, 0, none⟩ (.string k)) O r S R k.data.toList x := by
  obtain ⟨vL, Rs, h0, hf, hap, hO, hRO, hc⟩ := h
  refine ⟨hf.hd.cell 0, ⟨_, hf.hd⟩, vL, Rs, h0.heap (fun i hi => Below.heap_setCell W ⟨R.b, 0, none⟩ _ i ?_), ⟨by rw [str_eta]; exact hf.hd.set 0 _, own_heap' hf.b (fun i hi => Below.heap_setCell W ⟨R.b, 0, none⟩ _ i (own_bk_ne hf.b hf.hd (by decide) hi)), own_heap' hf.o (fun i hi => Below.heap_setCell W ⟨R.b, 0, none⟩ _ i (own_bk_ne hf.o hf.hd (by decide) hi)), own_heap' hf.w (fun i hi => Below.heap_setCell W ⟨R.b, 0, none⟩ _ i (own_bk_ne hf.w hf.hd (by decide) hi)), hf.ne⟩, hap, hO, hRO, hc.set (p := ⟨R.b, 0, none⟩) (.inl (hRO _ (.inl rfl))) _⟩
  rintro rfl
  rcases hi with hi | hi | ⟨Q, hQ, hi⟩
  · exact hf.ner h0.hd _ (.inl rfl) hi
  · exact hf.nel h0.row _ (.inl rfl) hi
  · exact hap Q hQ _ (.inl rfl) hi
theorem rn_ins (h : RnS w W O r S R n x) (hr : O r) (hm : S.fs.length ≤ 1000) (hwf : ({ S with fs := insP n x S.fs } : FsP).WF) :
    Calls Tryz.prog 49 #[.pointer (some ⟨r, 0, none⟩), .pointer (some ⟨R.b, 0, none⟩)] W fun e w' => e = .returned (.tuple #[]) ∧ ∃ v Rs, RfM w' r v Rs { S with fs := insP n x S.fs } ∧ Rs[posP n S.fs]? = some R ∧ (∀ i, RfO r v Rs i → O i ∨ w.heap.size ≤ i) ∧ Ch O w w' := by
  obtain ⟨vL, Rs, h0, hf, hap, hO, hRO, hc⟩ := h
  refine (ins_any r vL Rs S n x R W h0 hf hap (by rw [h0.len]; omega) hwf).mono ?_
  rintro e w' ⟨rfl, v, h1, h2, h3⟩
  refine ⟨rfl, v, _, h1, by rw [mid_get (by rw [h0.len]; exact posP_le n S.fs), if_neg (by omega), if_pos rfl], fun i hi => ?_, hc.trans h3 (fun k hk2 => .inl (by rw [hk2]; exact hr))⟩
  rcases hi with rfl | hi | ⟨Q, hQ, hi⟩
  · exact .inl hr
  · have := h2 i hi; have := hc.size; exact .inr (by omega)
  · rw [List.mem_append, List.mem_cons] at hQ
    rcases hQ with hQ | rfl | hQ
    · exact hO i (.inr (.inr ⟨Q, List.mem_of_mem_take hQ, hi⟩))
    · exact .inl (hRO i hi)
    · exact hO i (.inr (.inr ⟨Q, List.mem_of_mem_drop hQ, hi⟩))
end
theorem drop_none {n : List UInt8} {l : List (List UInt8 × FlP)} (h : ∀ p ∈ l, p.1 ≠ n) : dropP n l = l := by
  unfold dropP
  rw [List.filter_eq_self]
  intro p hp
  simpa using h p hp
theorem ins_set (n : List UInt8) (x y : FlP) (l : List (List UInt8 × FlP)) : (insP n x l).set (posP n l) (n, y) = insP n y l := by
  have hl : (l.take (posP n l)).length = posP n l := by rw [List.length_take]; have := posP_le n l; omega
  rw [ins_at, ins_at, List.set_append_right _ _ (by omega), hl, Nat.sub_self, List.set_cons_zero]
set_option maxHeartbeats 4000000 in
set_option maxRecDepth 100000 in
theorem rrename_any (r : Nat) (O : Nat → Prop) (S : FsP) (s k : ByteArray) (w : World) (h : RfA w O r S) (hk : k.size ≤ 1000000) (hst : S.stamp ≤ 1000000) (hm : S.fs.length ≤ 1000) :
    Calls Tryz.prog 23 #[.pointer (some ⟨r, 0, none⟩), .string s, .string k] w fun e w' => e = .returned (.int .i64 ((renameP S s.data.toList k.data.toList).1 : Int)) ∧ RfA w' (fun i => O i ∨ w.heap.size ≤ i) r (renameP S s.data.toList k.data.toList).2 ∧ Ch O w w' := by
  have H := Lib.hid h
  obtain ⟨vL, Rs, hM, hO⟩ := h
  have HM := Lib.hid hM
  have HO := Lib.hid hO
  have d4 : w.cell? ⟨r, 4, none⟩ = some (.bool S.down) := hM.hd.cell 4
  have HR := Lib.hid (rright_any k w hk)
  have HF := Lib.hid (find_any r vL Rs S s w hM)
  have HB := Lib.hid (rburn_fs r vL Rs S w hM)
  have HX := Lib.hid (And.intro hk (And.intro hst hm))
  have hwf := hM.wf
  clear hM hO hk hst hm
  unfold renameP
  cases hd : S.down with
  | true =>
    rw [hd] at d4
    clear hd hwf
    go_enter Tryz.func23, Tryz.ntmps23
    go_wp2_with fail
    go_ret
    exact ⟨rfl, H.out.wide, Ch.refl _ _⟩
  | false =>
    rw [hd] at d4
    cases hf : findP S s.data.toList with
    | none =>
      have hi := idx_no hwf hf
      rw [hi] at HF
      clear hd hwf hf hi
      go_enter Tryz.func23, Tryz.ntmps23
      go_wp2_with fail
      with_reducible refine (HF.out).mono ?_
      rintro e wz ⟨rfl, hwz⟩
      replace hwz := hwz.symm
      subst hwz
      go_wp2_with fail
      go_ret
      exact ⟨rfl, H.out.wide, Ch.refl _ _⟩
    | some x =>
      obtain ⟨i, hi, hfs⟩ := idx_yes hwf hf
      rw [hi] at HF
      have hi0 : ¬ (i : Int) < (0 : Int) := by omega
      cases hr : rightP k.data.toList with
      | false =>
        rw [hr] at HR
        clear hd hwf hf hi hfs hr
        go_enter Tryz.func23, Tryz.ntmps23
        go_wp2_with fail
        with_reducible refine (HF.out).mono ?_
        rintro e wz ⟨rfl, hwz⟩
        replace hwz := hwz.symm
        subst hwz
        go_wp2_with fail
        with_reducible refine (HR.out).mono ?_
        rintro e wz ⟨rfl, hwz⟩
        replace hwz := hwz.symm
        subst hwz
        go_wp2_with fail
        go_ret
        exact ⟨rfl, H.out.wide, Ch.refl _ _⟩
      | true =>
        rw [hr] at HR
        cases he : (k.data.toList == s.data.toList) with
        | true =>
          have he2 : (k.toList == s.toList) = true := by rw [ByteArray.toList_eq, ByteArray.toList_eq]; exact he
          clear hd hwf hf hi hfs hr he
          go_enter Tryz.func23, Tryz.ntmps23
          go_wp2_with fail
          with_reducible refine (HF.out).mono ?_
          rintro e wz ⟨rfl, hwz⟩
          replace hwz := hwz.symm
          subst hwz
          go_wp2_with fail
          with_reducible refine (HR.out).mono ?_
          rintro e wz ⟨rfl, hwz⟩
          replace hwz := hwz.symm
          subst hwz
          go_wp2_with fail
          go_ret
          exact ⟨rfl, H.out.wide, Ch.refl _ _⟩
        | false =>
          have he2 : (k.toList == s.toList) = false := by rw [ByteArray.toList_eq, ByteArray.toList_eq]; exact he
          cases hb : burnP S with
          | false =>
            rw [hb] at HB
            clear hd hwf hf hi hfs hr he hb
            go_enter Tryz.func23, Tryz.ntmps23
            go_wp2_with fail
            with_reducible refine (HF.out).mono ?_
            rintro e wz ⟨rfl, hwz⟩
            replace hwz := hwz.symm
            subst hwz
            go_wp2_with fail
            with_reducible refine (HR.out).mono ?_
            rintro e wz ⟨rfl, hwz⟩
            replace hwz := hwz.symm
            subst hwz
            go_wp2_with fail
            with_reducible refine (HB.out).mono ?_
            rintro e w1 ⟨rfl, h1, k1⟩
            have H1 := Lib.hid h1
            have K1 := Lib.hid k1
            clear h1 k1
            go_wp2_with fail
            go_ret
            obtain ⟨e1, e2, e3, e4, e5⟩ := burntP_parts S
            refine ⟨rfl, ⟨vL, Rs, H1.out, fun i hi => .inl (HO.out i hi)⟩, K1.out.mono (fun i hi => by rw [hi]; exact HO.out r (.inl rfl))⟩
          | true =>
            rw [hb] at HB
            obtain ⟨n0, hn0⟩ : ∃ n0, n0 = s.data.toList := ⟨_, rfl⟩
            have Hf := Lib.hid (And.intro hf (And.intro hfs (And.intro hr hn0)))
            clear hd hwf hf hi hb hfs hr he hn0
            go_enter Tryz.func23, Tryz.ntmps23
            go_wp2_with fail
            with_reducible refine (HF.out).mono ?_
            rintro e wz ⟨rfl, hwz⟩
            replace hwz := hwz.symm
            subst hwz
            go_wp2_with fail
            with_reducible refine (HR.out).mono ?_
            rintro e wz ⟨rfl, hwz⟩
            replace hwz := hwz.symm
            subst hwz
            go_wp2_with fail
            with_reducible refine (HB.out).mono ?_
            rintro e w1 ⟨rfl, h1, k1⟩
            have H1 := Lib.hid h1
            have K1 := Lib.hid k1
            clear h1 k1
            have hiR : i < Rs.length := by rw [HM.out.len]; exact (List.getElem?_eq_some_iff.1 Hf.out.2.1).1
            obtain ⟨R, hR⟩ : ∃ R, Rs[i]? = some R := ⟨_, List.getElem?_eq_getElem hiR⟩
            obtain ⟨g, c, hvL, dp⟩ := H1.out.ptr hR
            have d0 : w1.cell? ⟨r, 0, none⟩ = some (.slice (some ⟨g, 0, none⟩) Rs.length c) := by rw [← hvL]; exact H1.out.hd.cell 0
            have hNb : Rs.length ≤ 1000 := by rw [HM.out.len]; exact HX.out.2.2
            have hdr : dropP s.data.toList (burntP S).fs = (burntP S).fs.eraseIdx i := drop_at (burntP_wf HM.out.wf).order (by rw [(burntP_parts S).2.2.1]; exact Hf.out.2.1)
            have HD1 := Lib.hid (show Calls Tryz.prog 51 #[.pointer (some ⟨r, 0, none⟩), .int .i64 (i : Int)] w1 fun e w' => e = .returned (.tuple #[]) ∧ RnS w w' O r { burntP S with fs := dropP s.data.toList (burntP S).fs } R s.data.toList x from by
              rw [hdr]
              exact rn_drop1 H1.out hR (by rw [(burntP_parts S).2.2.1]; exact Hf.out.2.1) HO.out (K1.out.mono (fun q hq => by rw [hq]; exact HO.out r (.inl rfl))) (by rw [(burntP_parts S).2.2.1]; exact HX.out.2.2))
            obtain ⟨S2, hS2⟩ : ∃ S2 : FsP, S2 = { burntP S with fs := dropP s.data.toList (burntP S).fs } := ⟨_, rfl⟩
            rw [← hS2] at HD1
            have hm2 : S2.fs.length ≤ 1000 := by
              rw [hS2]
              have h1 : (dropP s.data.toList (burntP S).fs).length ≤ (burntP S).fs.length := List.length_filter_le _ _
              have h2 : (burntP S).fs.length ≤ 1000 := by rw [(burntP_parts S).2.2.1]; exact HX.out.2.2
              exact Nat.le_trans h1 h2
            obtain ⟨S3, hS3⟩ : ∃ S3 : FsP, S3 = { S2 with fs := dropP k.data.toList S2.fs } := ⟨_, rfl⟩
            have hm3 : S3.fs.length ≤ 1000 := by
              rw [hS3]
              have h1 : (dropP k.data.toList S2.fs).length ≤ S2.fs.length := List.length_filter_le _ _
              exact Nat.le_trans h1 hm2
            have Hr := Lib.hid (HO.out r (.inl rfl))
            -- what is inserted
            have hwfm := movedF_wf HM.out.wf Hf.out.1 (k := k.data.toList) (by have := rightP_len Hf.out.2.2.1; omega)
            have hmv : movedF S s.data.toList k.data.toList x = { ({ S3 with fs := insP k.data.toList x S3.fs } : FsP) with stamp := ({ S3 with fs := insP k.data.toList x S3.fs } : FsP).stamp + 1, fs := ({ S3 with fs := insP k.data.toList x S3.fs } : FsP).fs.set (posP k.data.toList S3.fs) (k.data.toList, { x with stamp := ({ S3 with fs := insP k.data.toList x S3.fs } : FsP).stamp + 1 }) } := by
              dsimp only
              rw [ins_set, hS3, hS2]
              unfold movedF
              dsimp only
              rw [(burntP_parts S).2.2.1, (burntP_parts S).2.1]
            have hwf3 : ({ S3 with fs := insP k.data.toList x S3.fs } : FsP).WF := by
              have hg : ∀ q, (insP k.data.toList q S3.fs).map (·.1) = (insP k.data.toList x S3.fs).map (·.1) := fun q => by rw [ins_at, ins_at]; simp
              have hS3f : S3.fs = dropP k.data.toList (dropP s.data.toList S.fs) := by rw [hS3, hS2]; dsimp only; rw [(burntP_parts S).2.2.1]
              refine ⟨by rw [hS3, hS2]; exact hwfm.most1, by rw [hS3, hS2]; exact hwfm.most2, by rw [hS3, hS2]; exact hwfm.fuse1, by rw [hS3, hS2]; exact hwfm.fuse2, fun p hp => ?_, ?_, ?_, fun p hp => ?_⟩
              · rcases ins_mem.1 hp with rfl | hp
                · show x.WF
                  exact HM.out.wf.files (s.data.toList, x) (lookup_mem Hf.out.1)
                · rw [hS3f] at hp
                  exact HM.out.wf.files p (drop_mem.1 (drop_mem.1 hp).1).1
              · have h1 := hwfm.order
                rw [sorted_names] at h1 ⊢
                have h2 : (movedF S s.data.toList k.data.toList x).fs.map (·.1) = (insP k.data.toList x S3.fs).map (·.1) := by
                  show (insP k.data.toList _ (dropP k.data.toList (dropP s.data.toList S.fs))).map (·.1) = _
                  rw [← hS3f]; exact hg _
                rw [← h2]; exact h1
              · have h1 := hwfm.room
                have h2 : useP (movedF S s.data.toList k.data.toList x).fs = useP (insP k.data.toList x S3.fs) := by
                  rw [use_ins, hS3f]; exact use_ins
                rw [h2] at h1
                rw [hS3, hS2] at h1 ⊢; exact h1
              · rcases ins_mem.1 hp with rfl | hp
                · have := rightP_len Hf.out.2.2.1; simp only; omega
                · rw [hS3f] at hp
                  exact HM.out.wf.names p (drop_mem.1 (drop_mem.1 hp).1).1
            have hst3 : S3.stamp ≤ 1000000 := by rw [hS3, hS2]; dsimp only; rw [(burntP_parts S).2.1]; exact HX.out.2.1
            have HW3 := Lib.hid (And.intro hwf3 (And.intro hst3 hm3))
            have Hmv := Lib.hid hmv
            have HFk := Lib.hid (fun W (h : RnS w W O r S2 R s.data.toList x) => show Calls Tryz.prog 46 #[.pointer (some ⟨r, 0, none⟩), .string k] W fun e w' => e = .returned (.int .i64 (idxV S2 k.data.toList)) ∧ w' = W from by
              obtain ⟨v, Rs', h1, _⟩ := h
              exact find_any r v Rs' S2 k W h1)
            have HPut := Lib.hid (fun W (h : RnS w W O r S3 R s.data.toList x) => rn_put k h)
            have HIns := Lib.hid (fun W (h : RnS w W O r S3 R k.data.toList x) => rn_ins h Hr.out hm3 hwf3)
            have hRm := H1.out.fl i R (s.data.toList, x) hR (by rw [(burntP_parts S).2.2.1]; exact Hf.out.2.1)
            have HS2 := Lib.hid hS2
            have HRb := Lib.hid (HO.out R.b (.inr (.inr ⟨R, List.mem_of_getElem? hR, .inl rfl⟩)))
            have HS3 := Lib.hid hS3
            have Hm2 := Lib.hid hm2
            clear hvL hdr hS2 hS3 hm2 hm3 hwfm hmv hwf3 hst3 hRm hR hiR
            have hiN : i < Rs.length := by rw [HM.out.len]; exact (List.getElem?_eq_some_iff.1 Hf.out.2.1).1
            generalize Rs.length = N at *
            go_wp2_with fail
            with_reducible refine HD1.out.mono ?_
            rintro e w2 ⟨rfl, h2⟩
            have H2 := Lib.hid h2
            clear h2 d0 dp
            have HF2 := Lib.hid (HFk.out w2 H2.out)
            go_wp2_with fail
            cases hf2 : findP S2 k.data.toList with
            | none =>
              have hwf2 : S2.WF := by obtain ⟨v, Rs', h1, _⟩ := H2.out; exact h1.wf
              have h5 := idx_no hwf2 hf2
              have h6 : S3 = S2 := by rw [HS3.out, drop_none (find_none hf2)]
              rw [h5] at HF2
              have H4 := Lib.hid (show RnS w w2 O r S3 R s.data.toList x by rw [h6]; exact H2.out)
              clear hf2 hwf2 h5 h6
              obtain ⟨p1, ⟨cs0, p2⟩, p3⟩ := HPut.out w2 H4.out
              have HI := Lib.hid (HIns.out _ p3)
              have p4 := p2.free 0
              clear p2 p3
              with_reducible refine HF2.out.mono ?_
              rintro e wz ⟨rfl, hwz⟩
              replace hwz := hwz.symm
              subst hwz
              go_wp2_with fail
              with_reducible refine HI.out.mono ?_
              rintro e w5 ⟨rfl, v5, Rs5, h5, q5, o5, k5⟩
              have HSt := Lib.hid (rstamped_fs r v5 Rs5 _ (posP k.data.toList S3.fs) R k.data.toList x w5 h5 q5 (by show (insP k.data.toList x S3.fs)[posP k.data.toList S3.fs]? = _; rw [ins_at, mid_get (posP_le _ _), if_neg (by omega), if_pos rfl]) HW3.out.2.1)
              have H5 := Lib.hid (And.intro o5 k5)
              clear h5 q5 o5 k5
              go_wp2_with fail
              with_reducible refine HSt.out.mono ?_
              rintro e w6 ⟨rfl, h6, o6, k6⟩
              have H6 := Lib.hid (And.intro h6 (And.intro o6 k6))
              clear h6 o6 k6
              go_wp2_with fail
              go_ret
              refine ⟨rfl, ⟨v5, _, ?_, fun q hq => H5.out.1 q (H6.out.2.1 q hq)⟩, H5.out.2.trans H6.out.2.2 (fun q hq => ?_)⟩
              · have := H6.out.1
                rw [← Hmv.out] at this
                exact this
              · rcases hq with hq | hq
                · exact .inl (by rw [hq]; exact Hr.out)
                · exact .inl (by rw [hq]; exact HRb.out)
            | some z =>
              have hwf2 : S2.WF := by obtain ⟨v, Rs', h1, _⟩ := H2.out; exact h1.wf
              obtain ⟨q, h5, h6⟩ := idx_yes hwf2 hf2
              rw [h5] at HF2
              have hq0 : (0 : Int) ≤ (q : Int) := by omega
              have h7 : S3 = { S2 with fs := S2.fs.eraseIdx q } := by rw [HS3.out, drop_at hwf2.order h6]
              have HD2 := Lib.hid (show Calls Tryz.prog 51 #[.pointer (some ⟨r, 0, none⟩), .int .i64 (q : Int)] w2 fun e w' => e = .returned (.tuple #[]) ∧ RnS w w' O r S3 R s.data.toList x from by
                rw [h7]; exact rn_drop2 H2.out Hr.out (List.getElem?_eq_some_iff.1 h6).1 Hm2.out)
              clear hf2 hwf2 h5 h6 h7
              with_reducible refine HF2.out.mono ?_
              rintro e wz ⟨rfl, hwz⟩
              replace hwz := hwz.symm
              subst hwz
              go_wp2_with fail
              with_reducible refine HD2.out.mono ?_
              rintro e w2 ⟨rfl, h4⟩
              have H4 := Lib.hid h4
              clear h4
              obtain ⟨p1, ⟨cs0, p2⟩, p3⟩ := HPut.out w2 H4.out
              have HI := Lib.hid (HIns.out _ p3)
              have p4 := p2.free 0
              clear p2 p3
              go_wp2_with fail
              with_reducible refine HI.out.mono ?_
              rintro e w5 ⟨rfl, v5, Rs5, h5, q5, o5, k5⟩
              have HSt := Lib.hid (rstamped_fs r v5 Rs5 _ (posP k.data.toList S3.fs) R k.data.toList x w5 h5 q5 (by show (insP k.data.toList x S3.fs)[posP k.data.toList S3.fs]? = _; rw [ins_at, mid_get (posP_le _ _), if_neg (by omega), if_pos rfl]) HW3.out.2.1)
              have H5 := Lib.hid (And.intro o5 k5)
              clear h5 q5 o5 k5
              go_wp2_with fail
              with_reducible refine HSt.out.mono ?_
              rintro e w6 ⟨rfl, h6, o6, k6⟩
              have H6 := Lib.hid (And.intro h6 (And.intro o6 k6))
              clear h6 o6 k6
              go_wp2_with fail
              go_ret
              refine ⟨rfl, ⟨v5, _, ?_, fun q hq => H5.out.1 q (H6.out.2.1 q hq)⟩, H5.out.2.trans H6.out.2.2 (fun q hq => ?_)⟩
              · have := H6.out.1
                rw [← Hmv.out] at this
                exact this
              · rcases hq with hq | hq
                · exact .inl (by rw [hq]; exact Hr.out)
                · exact .inl (by rw [hq]; exact HRb.out)
end Go.Proofs.YtknjopefbbldfaaGreatDoor
