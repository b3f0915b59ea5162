/- A pager's block behind SetRoot. -/
import Derived.Test.YtoadamkmabkldaaGreatDoorJn17
import Derived.Test.YtoadamkmabkldaaGreatDoorJn14
import Derived.Test.YtoadamkmabkldaaGreatDoorJn10
set_option linter.unusedVariables false
set_option linter.unusedSimpArgs false
namespace Go.Proofs.YtoadamkmabkldaaGreatDoor
open Go.RowKit
set_option maxHeartbeats 1000000 in
theorem pgC_root (f : Nat) (nm : ByteArray) (now last : HdP) (mch mcl : Nat) (vrow : Value) (reads : Nat) (dead : Bool) (h : now.roots.length = 8) (k no : Nat) (hk : k < 8) :
    (pgC f nm now last mch mcl vrow reads dead).setIfInBounds (4 + k) (.int .i64 (no : Int)) = pgC f nm { now with roots := now.roots.set k no } last mch mcl vrow reads dead := by
  obtain ⟨m, fr, l⟩ := now
  match l, h with
  | [r0, r1, r2, r3, r4, r5, r6, r7], _ =>
    match k, hk with
    | 0, _ | 1, _ | 2, _ | 3, _ | 4, _ | 5, _ | 6, _ | 7, _ => simp [pgC, rtH]
/-- Only the pager's own block was written. -/
theorem PgM.own {w w2 : World} {f p mch mcl : Nat} {nm : ByteArray} {P : PgP} {tch tcl : Nat → SlT} {vrow : Value} (h : PgM w f p nm P mch mcl tch tcl vrow) (now last : HdP) (reads : Nat) (dead : Bool)
    (hp : Bk w2 p 67 (pgC f nm now last mch mcl vrow reads dead)) (h2 : Ch (fun i => i = p) w w2) :
    PgM w2 f p nm { P with now := now, last := last, reads := reads, dead := dead } mch mcl tch tcl vrow := by
  have nb : ∀ {g : Nat} {ty : TypeId} {cs : Array Value}, Bk w g ty cs → ty ≠ 67 → w2.heap[g]? = w.heap[g]? := fun hg ht => h2.block _ hg.lt (fun e => ht (bk_ty (e ▸ hg) h.hd))
  refine ⟨hp, h.ch.heap (h2.block _ h.ch.lt (h.ch.ne h.hd)), h.cl.heap (h2.block _ h.cl.lt (h.cl.ne h.hd)), h.ne, fun k c hc => ?_, fun k hk2 => ?_, h.rw.heap h2.size (fun k hv _ => ?_), fun i hi => ?_⟩
  · obtain ⟨cs, hc1, _⟩ := h.cb k c hc
    exact (h.cb k c hc).heap (nb hc1 (by decide))
  · obtain ⟨cs, hc1, _⟩ := h.lb k hk2
    exact (h.lb k hk2).heap (nb hc1 (by decide))
  · obtain ⟨cs, hc⟩ := h.rb k hv
    exact nb hc (by decide)
  · obtain ⟨cs, hc⟩ := h.rb i hi
    exact ⟨cs, (nb hc (by decide)).trans hc⟩
theorem setroot_any (f p mch mcl : Nat) (nm : ByteArray) (P : PgP) (tch tcl : Nat → SlT) (vrow : Value) (w : World) (k no : Nat) (h : PgM w f p nm P mch mcl tch tcl vrow) (hd : P.dead = false) (hl : P.now.roots.length = 8) (hk : k < 8) (hno : no < P.now.many) :
    Calls Tryz.prog 22 #[.pointer (some ⟨p, 0, none⟩), .int .i64 (k : Int), .int .i64 (no : Int)] w fun e w' => e = .returned (.int .i64 0) ∧ PgM w' f p nm { P with now := { P.now with roots := P.now.roots.set k no } } mch mcl tch tcl vrow ∧ Ch (fun i => i = p) w w' := by
  have c26 : w.cell? ⟨p, 26, none⟩ = some (.bool false) := by have := h.hd.cell 26; rw [← hd]; exact this
  obtain ⟨v, hv⟩ : ∃ v, w.cell? ⟨p, 4 + k, none⟩ = some v := by
    rw [h.hd.cell]
    have : 4 + k < (pgC f nm P.now P.last mch mcl vrow P.reads P.dead).size := by simp [pgC]; omega
    exact ⟨_, Array.getElem?_eq_getElem this⟩
  refine (setroot_set p P.now.many k no v w c26 (h.hd.cell 2) (by omega) hk hv (h.hd.free _)).mono ?_
  rintro e w' ⟨rfl, rfl⟩
  have hc : Ch (fun i => i = p) w (w.setCell ⟨p, 4 + k, none⟩ (.int .i64 (no : Int))) := (Ch.refl (fun i => i = p) w).set (p := ⟨p, 4 + k, none⟩) (.inl rfl) _
  exact ⟨rfl, h.own _ _ _ _ (pgC_root f nm P.now P.last mch mcl vrow P.reads P.dead hl k no hk ▸ h.hd.set (4 + k) _) hc, hc⟩
end Go.Proofs.YtoadamkmabkldaaGreatDoor
/- Alloc of a page at the end. -/
namespace Go.Proofs.YtoadamkmabkldaaGreatDoor
open Go.RowKit
attribute [local go_sem ↓] Go.wp_at_zero Go.wp_at_succ
theorem pgC_many (f : Nat) (nm : ByteArray) (now last : HdP) (mch mcl : Nat) (vrow : Value) (reads : Nat) (dead : Bool) (k : Nat) :
    (pgC f nm now last mch mcl vrow reads dead).setIfInBounds 2 (.int .i64 (k : Int)) = pgC f nm { now with many := k } last mch mcl vrow reads dead := by
  simp [pgC, rtH]
set_option maxHeartbeats 2000000 in
set_option maxRecDepth 100000 in
theorem alloc_new (f p mch mcl : Nat) (nm : ByteArray) (P : PgP) (tch tcl : Nat → SlT) (vrow : Value) (w : World) (h : PgM w f p nm P mch mcl tch tcl vrow) (hd : P.dead = false) (hs : P.ch.Pairwise fun p q => p.1 < q.1) (hl : P.ch.length ≤ 100000) (hf : P.now.free = 0) (hm : P.now.many < 65536) :
    Calls Tryz.prog 12 #[.pointer (some ⟨p, 0, none⟩)] w fun e w' => e = .returned (.tuple #[.int .i64 (P.now.many : Int), .int .i64 0]) ∧
      ∃ t, PgM w' f p nm { P with now := { P.now with many := P.now.many + 1 }, ch := putK P.now.many (List.replicate 508 0) P.ch } mch mcl (fun x => if x = P.now.many then t else tch x) tcl vrow ∧ w.heap.size ≤ t.1 ∧ Ch (fun i => i = p ∨ i = mch) w w' := by
  have c26 : w.cell? ⟨p, 26, none⟩ = some (.bool false) := by have := h.hd.cell 26; rw [← hd]; exact this
  have c2 : w.cell? ⟨p, 2, none⟩ = some (.int .i64 (P.now.many : Int)) := h.hd.cell 2
  have c3 : w.cell? ⟨p, 3, none⟩ = some (.int .i64 0) := by
    have : w.cell? ⟨p, 3, none⟩ = some (.int .i64 (P.now.free : Int)) := h.hd.cell 3
    rw [hf] at this; exact this
  have f2 : w.frozen? ⟨p, 2, none⟩ = false := h.hd.free 2
  have HU := Lib.hid (up_any p false w c26)
  obtain ⟨K, hK⟩ : ∃ K : Nat, K = 508 := ⟨_, rfl⟩
  obtain ⟨M, hM⟩ : ∃ M, M = P.now.many := ⟨_, rfl⟩
  rw [← hM] at c2 hm ⊢
  have q1 : IntKind.i64.wrap ((M : Int) + 1) = ((M + 1 : Nat) : Int) := by rw [IntWalk.i64_in _ (by omega)]; omega
  have q2 : ¬ ((M : Int) = 65536) := by omega
  have hb1 : Bk (w.setCell ⟨p, 2, none⟩ (.int .i64 ((M + 1 : Nat) : Int))) p 67 (pgC f nm { P.now with many := M + 1 } P.last mch mcl vrow P.reads P.dead) := pgC_many f nm P.now P.last mch mcl vrow P.reads P.dead (M + 1) ▸ h.hd.set 2 _
  have hc1 : Ch (fun i => i = p) w (w.setCell ⟨p, 2, none⟩ (.int .i64 ((M + 1 : Nat) : Int))) := (Ch.refl (fun i => i = p) w).set (p := ⟨p, 2, none⟩) (.inl rfl) _
  have h1 := h.own _ _ P.reads P.dead hb1 hc1
  have hl1 := h1.lt
  have h2 : PgM ((w.setCell ⟨p, 2, none⟩ (.int .i64 ((M + 1 : Nat) : Int))).alloc (.cells (bys (List.replicate K 0)).toArray 5)) f p nm _ mch mcl tch tcl vrow := h1.heap (by simp) (fun i hi => Below.heap_alloc _ _ i (hl1 i hi))
  have hrd : Rd ((w.setCell ⟨p, 2, none⟩ (.int .i64 ((M + 1 : Nat) : Int))).alloc (.cells (bys (List.replicate K 0)).toArray 5)) ((w.setCell ⟨p, 2, none⟩ (.int .i64 ((M + 1 : Nat) : Int))).alloc (.cells (bys (List.replicate K 0)).toArray 5)).heap.size 1 (some ⟨w.heap.size, 0, none⟩) K (bys (List.replicate K 0)) :=
    rd_blk (fr := (0, 0)) (by have := heap_alloc_new (w.setCell ⟨p, 2, none⟩ (.int .i64 ((M + 1 : Nat) : Int))) (.cells (bys (List.replicate K 0)).toArray 5); rwa [show (w.setCell ⟨p, 2, none⟩ (.int .i64 ((M + 1 : Nat) : Int))).heap.size = w.heap.size by simp [World.setCell]] at this) (by simp [bys]) (by simp)
  have hc2 : Ch (fun i => i = p ∨ i = mch) w ((w.setCell ⟨p, 2, none⟩ (.int .i64 ((M + 1 : Nat) : Int))).alloc (.cells (bys (List.replicate K 0)).toArray 5)) := (hc1.mono (fun i e => .inl e)).alloc _
  have HC := change_any f p mch mcl M K K nm _ tch tcl vrow _ (List.replicate K 0) _ h2 hs hl hrd (by omega) (by omega) (by omega)
  rw [show ((M + 1 : Nat) : Int) = (M : Int) + 1 by omega] at HC hc2
  replace HC := Lib.hid HC
  have HK2 := Lib.hid hc2
  have mk := fun W => mk_bys K 508 508 (by omega) (by omega) (by omega) W
  have HE : Hid (K = 508) := Lib.hid hK
  clear h hd hs hl hf hm hb1 hc1 h1 hl1 h2 hrd hc2 hM hK
  go_enter Tryz.func12, Tryz.ntmps12
  go_wp2_with fail
  with_reducible refine HU.out.mono ?_
  rintro e wz ⟨rfl, hwz⟩
  replace hwz := hwz.symm
  subst hwz
  go_wp2_with fail
  with_reducible refine HC.out.mono ?_
  rintro e w1 ⟨rfl, t, g1, g2, g3⟩
  have HF := Lib.hid (And.intro g1 (And.intro g2 g3))
  clear g1 g2 g3
  go_wp2_with fail
  go_ret2
  exact ⟨rfl, t, by have := HF.out.1; rw [HE.out] at this; exact this, Nat.le_trans HK2.out.size HF.out.2.1, HK2.out.trans HF.out.2.2 (fun i e => .inl (.inr e))⟩
end Go.Proofs.YtoadamkmabkldaaGreatDoor
/- Contracts of package pager: there. -/
namespace Go.Proofs.YtoadamkmabkldaaGreatDoor
open Go.RowKit
attribute [local go_sem ↓] Go.wp_at_zero Go.wp_at_succ
theorem len_at (f : Nat) (O : Nat → Prop) (S : FsP) (s : ByteArray) (w : World) (h : FsA w O f S) (hs : s.size ≤ 1000000) :
    Calls Tryz.prog 56 #[.pointer (some ⟨f, 0, none⟩), .string s] w fun e w' => e = .returned (lenV S s.data.toList) ∧ w' = w := by
  obtain ⟨m, bl, gl, sv, hM, _⟩ := h
  exact vlen_any f m bl gl sv S s w hM (Nat.le_trans hs (by unfold maxLen; decide))
set_option maxHeartbeats 1000000 in
theorem there_any (f p : Nat) (O : Nat → Prop) (S : FsP) (s : ByteArray) (w : World) (h : FsA w O f S) (c0 : w.cell? ⟨p, 0, none⟩ = some (.pointer (some ⟨f, 0, none⟩))) (hs : s.size ≤ 1000000) (hst : S.stamp ≤ 1000000) :
    Calls Tryz.prog 32 #[.pointer (some ⟨p, 0, none⟩), .string s] w fun e w' => e = .returned (.int .i64 ((thereP S s.data.toList).1 : Int)) ∧ FsA w' (fun i => O i ∨ w.heap.size ≤ i) f (thereP S s.data.toList).2 ∧ Ch O w w' := by
  have HL := Lib.hid (len_at f O S s w h hs)
  have HC := Lib.hid (create_any f O S s w h hs hst)
  have HF := Lib.hid h
  unfold thereP
  unfold lenV at HL
  cases hl : lenP S s.data.toList with
  | none =>
    rw [hl] at HL
    clear h hs hst hl
    go_enter Tryz.func32, Tryz.ntmps32
    go_wp2_with fail
    with_reducible refine HL.out.mono ?_
    rintro e wz ⟨rfl, hwz⟩
    replace hwz := hwz.symm
    subst hwz
    go_wp2_with fail
    with_reducible refine HC.out.mono ?_
    rintro e w1 ⟨rfl, h1, h2⟩
    have H1 := Lib.hid (And.intro h1 h2)
    clear h1 h2
    go_wp2_with fail
    go_ret
    exact ⟨rfl, H1.out.1, H1.out.2⟩
  | some n =>
    rw [hl] at HL
    clear h hs hst hl
    go_enter Tryz.func32, Tryz.ntmps32
    go_wp2_with fail
    with_reducible refine HL.out.mono ?_
    rintro e wz ⟨rfl, hwz⟩
    replace hwz := hwz.symm
    subst hwz
    go_wp2_with fail
    go_ret
    exact ⟨rfl, HF.out.mono (fun i hi _ => .inl hi), Ch.refl _ _⟩
end Go.Proofs.YtoadamkmabkldaaGreatDoor
/- What a crash makes of a file; steps on a store of two files, in plain words. -/
namespace Go.Proofs.YtoadamkmabkldaaGreatDoor

/-- No sector of a file waits. -/
def FlP.quiet (x : FlP) : Prop := ∀ m : Nat, x.W[m]?.getD false = false
theorem byP_mapIdx (l : List UInt8) (f : Nat → UInt8 → UInt8) (j : Nat) (h : ∀ v, f j v = v) : byP (l.mapIdx f) j = byP l j := by
  unfold byP
  rw [List.getElem?_mapIdx]
  cases l[j]? with
  | none => rfl
  | some v => simp [h]
theorem crN_all (keep : UInt64) (i : Nat) (x : FlP) : ∀ k, ∃ c : Nat → Bool,
    (∀ j : Nat, (crN keep (i, x) k).2.B[j]? = x.B[j]?.map fun v => if decide (j / 64 < k) && x.W[j / 64]?.getD false && !c (j / 64) then byP x.O j else v) ∧
    (∀ j, 64 * k ≤ j → byP (crN keep (i, x) k).2.O j = byP x.O j) ∧ (∀ m : Nat, (crN keep (i, x) k).2.W[m]?.getD false = (!decide (m < k) && x.W[m]?.getD false))
  | 0 => ⟨fun _ => false, fun j => by simp [crN], fun j _ => rfl, fun m => by simp [crN]⟩
  | k + 1 => by
    obtain ⟨c, h1, h2, h3⟩ := crN_all keep i x k
    have hk : (crN keep (i, x) k).2.W[k]?.getD false = x.W[k]?.getD false := by rw [h3]; simp
    generalize hs : crN keep (i, x) k = s at h1 h2 h3 hk
    have hun : crN keep (i, x) (k + 1) = crS keep k s := by rw [← hs]; rfl
    rw [hun]
    unfold crS
    cases hw : x.W[k]?.getD false with
    | false =>
      rw [hk, hw, if_neg (by decide)]
      refine ⟨c, fun j => ?_, fun j hj => h2 j (by omega), fun m => ?_⟩
      · rw [h1]
        congr 1; funext v
        by_cases e : j / 64 = k
        · rw [e, hw]; simp
        · rw [show decide (j / 64 < k + 1) = decide (j / 64 < k) from by rw [decide_eq_decide]; omega]
      · rw [h3]
        by_cases e : m = k
        · rw [e, hw]; simp
        · rw [show decide (m < k + 1) = decide (m < k) from by rw [decide_eq_decide]; omega]
    | true =>
      rw [hk, hw, if_pos rfl]
      have hW : ∀ z : FlP, z.W = s.2.W → ∀ m : Nat, (lastP z k).W[m]?.getD false = (!decide (m < k + 1) && x.W[m]?.getD false) := by
        intro z hz m
        unfold lastP
        simp only [hz]
        by_cases e : m = k
        · subst e
          by_cases hl : m < s.2.W.length
          · rw [List.getElem?_set_self hl]; simp
          · rw [List.getElem?_eq_none (by rw [List.length_set]; omega)]; simp
        · rw [List.getElem?_set_ne (Ne.symm e), h3]
          rw [show decide (m < k + 1) = decide (m < k) from by rw [decide_eq_decide]; omega]
      have hO : ∀ z : FlP, z.O = s.2.O → ∀ j, 64 * (k + 1) ≤ j → byP (lastP z k).O j = byP x.O j := by
        intro z hz j hj
        unfold lastP
        simp only [hz]
        rw [byP_mapIdx _ _ _ (fun v => if_neg (by omega))]
        exact h2 j (by omega)
      cases hkb : keepB keep s.1 with
      | true =>
        refine ⟨fun q => if q = k then true else c q, fun j => ?_, hO _ rfl, hW _ rfl⟩
        show s.2.B[j]? = _
        rw [h1]
        congr 1; funext v
        by_cases e : j / 64 = k
        · rw [e]; simp
        · rw [show decide (j / 64 < k + 1) = decide (j / 64 < k) from by rw [decide_eq_decide]; omega]; simp [e]
      | false =>
        refine ⟨fun q => if q = k then false else c q, fun j => ?_, hO _ rfl, hW _ rfl⟩
        show ((s.2.B.mapIdx fun i v => if i / 64 = k then byP s.2.O i else v))[j]? = _
        rw [List.getElem?_mapIdx, h1, Option.map_map]
        congr 1; funext v
        by_cases e : j / 64 = k
        · simp only [Function.comp, e, if_true, hw]
          rw [h2 j (by omega)]; simp
        · rw [show decide (j / 64 < k + 1) = decide (j / 64 < k) from by rw [decide_eq_decide]; omega]; simp [e]
/-- A crash: each byte is what it is, or, in a sector that waits, what lasts. -/
theorem crF_bytes (x : FlP) (keep : UInt64) (i : Nat) : ∃ c : Nat → Bool,
    (∀ j : Nat, (crF keep i x).2.B[j]? = x.B[j]?.map fun v => if x.W[j / 64]?.getD false && !c (j / 64) then byP x.O j else v) ∧ (crF keep i x).2.quiet := by
  obtain ⟨c, h1, _, h3⟩ := crN_all keep i x x.W.length
  refine ⟨c, fun j => ?_, fun m => ?_⟩
  · show (crN keep (i, x) x.W.length).2.B[j]? = _
    rw [h1]
    congr 1; funext v
    by_cases e : j / 64 < x.W.length
    · rw [decide_eq_true e]; simp
    · rw [List.getElem?_eq_none (by omega)]; simp
  · show (crN keep (i, x) x.W.length).2.W[m]?.getD false = false
    rw [h3]
    by_cases e : m < x.W.length
    · rw [decide_eq_true e]; rfl
    · rw [List.getElem?_eq_none (by omega)]; simp
theorem crF_quiet {x : FlP} (hq : x.quiet) (keep : UInt64) (i : Nat) : (crF keep i x).2.B = x.B := by
  obtain ⟨c, h1, _⟩ := crF_bytes x keep i
  apply List.ext_getElem?
  intro j
  rw [h1, hq]; simp
theorem lookup_crash (keep : UInt64) (n : List UInt8) : ∀ (l : List (List UInt8 × FlP)) (i : Nat) {x : FlP}, l.lookup n = some x → ∃ k, (crashL keep i l).lookup n = some (crF keep k x).2
  | [], _, _, h => by cases h
  | (m, y) :: r, i, x, h => by
    unfold crashL
    rw [List.lookup_cons] at h ⊢
    by_cases e : n = m
    · subst e
      simp at h ⊢
      subst h
      exact ⟨i, rfl⟩
    · rw [show (n == m) = false by simpa using e] at h ⊢
      exact lookup_crash keep n r _ h
theorem crash_find {S : FsP} (keep : UInt64) {n : List UInt8} {x : FlP} (hf : findP S n = some x) : ∃ k, findP (crashP S keep) n = some (crF keep k x).2 := lookup_crash keep n S.fs 0 hf
theorem syncN_all (x : FlP) : ∀ k, (syncN x k).B = x.B ∧ (syncN x k).W.length = x.W.length ∧ ∀ m : Nat, (syncN x k).W[m]?.getD false = (!decide (m < k) && x.W[m]?.getD false)
  | 0 => ⟨rfl, rfl, fun m => by simp [syncN]⟩
  | k + 1 => by
    obtain ⟨h1, h2, h3⟩ := syncN_all x k
    refine ⟨h1, ?_, fun m => ?_⟩
    · show ((syncN x k).W.set k false).length = _
      rw [List.length_set, h2]
    · show ((syncN x k).W.set k false)[m]?.getD false = _
      by_cases e : m = k
      · subst e
        by_cases hl : m < (syncN x m).W.length
        · rw [List.getElem?_set_self hl]; simp
        · rw [List.getElem?_eq_none (by rw [List.length_set]; omega)]; simp
      · rw [List.getElem?_set_ne (Ne.symm e), h3, show decide (m < k + 1) = decide (m < k) from by rw [decide_eq_decide]; omega]
theorem syncP_B (x : FlP) : (syncP x).B = x.B := (syncN_all x _).1
theorem syncP_W (x : FlP) : (syncP x).W.length = x.W.length := (syncN_all x _).2.1
theorem syncP_quiet (x : FlP) : (syncP x).quiet := fun m => by
  show (syncN x x.W.length).W[m]?.getD false = false
  rw [(syncN_all x _).2.2]
  by_cases e : m < x.W.length
  · rw [decide_eq_true e]; rfl
  · rw [List.getElem?_eq_none (by omega)]; simp
theorem syncN_O (x : FlP) : ∀ k, (syncN x k).O.length = x.O.length ∧ ∀ j, j / 64 < k → j < x.O.length → byP (syncN x k).O j = byP x.B j
  | 0 => ⟨rfl, fun j h => by omega⟩
  | k + 1 => by
    obtain ⟨h1, h2⟩ := syncN_O x k
    refine ⟨?_, fun j hj hl => ?_⟩
    · show ((syncN x k).O.mapIdx _).length = _
      rw [List.length_mapIdx, h1]
    · show byP ((syncN x k).O.mapIdx fun i o => if i / 64 = k then byP (syncN x k).B i else o) j = _
      by_cases e : j / 64 = k
      · unfold byP
        rw [List.getElem?_mapIdx, List.getElem?_eq_getElem (l := (syncN x k).O) (by omega)]
        simp only [Option.map_some, Option.getD_some, if_pos e]
        rw [(syncN_all x k).1]
      · rw [byP_mapIdx _ _ _ (fun v => if_neg e)]
        exact h2 j (by omega) hl
/-- Behind a sync what lasts is what is. -/
theorem syncP_O {x : FlP} (h : x.WF) {j : Nat} (hj : j < 64 * x.W.length) : byP (syncP x).O j = byP x.B j :=
  (syncN_O x _).2 j (by omega) (by rw [h.o]; exact hj)
/-! ### steps -/
/-- A store that is up as before, one file with other bytes. -/
structure Step (S S' : FsP) (n : List UInt8) (z y : FlP) : Prop where
  down : S'.down = false
  most : S'.most = S.most
  stamp : S'.stamp ≤ S.stamp + 1
  wf : S'.WF
  find : ∀ s, findP S' s = if s = n then some y else findP S s
  use : useP S'.fs + z.W.length = useP S.fs + y.W.length
  fuse : S.fuse = -1 → S'.fuse = -1
theorem burnt_up {S : FsP} (h : S.fuse ≠ 0) : (burntP S).down = S.down ∧ (burntP S).most = S.most ∧ (burntP S).fs = S.fs ∧ (S.fuse = -1 → (burntP S).fuse = -1) := by
  unfold burntP
  rw [if_neg h]
  split
  · exact ⟨rfl, rfl, rfl, fun e => by omega⟩
  · exact ⟨rfl, rfl, rfl, fun e => e⟩
theorem burnP_true {S : FsP} (h : S.fuse ≠ 0) : burnP S = true := by unfold burnP; simpa using h
theorem burnP_false {S : FsP} (h : S.fuse = 0) : burnP S = false := by unfold burnP; simpa using h
theorem step_write {S : FsP} {n b : List UInt8} {z : FlP} {p : Nat} (hw : S.WF) (hd : S.down = false) (hf : findP S n = some z) (hp : p ≤ z.B.length) (hb : b ≠ []) (hroom : useP S.fs + needN (max z.B.length (p + b.length)) ≤ S.most + z.W.length) :
    (S.fuse = 0 ∧ writeP S n (p : Int) b = (9, burntP S)) ∨ (S.fuse ≠ 0 ∧ ∃ S' y, writeP S n (p : Int) b = (0, S') ∧ Step S S' n z y ∧ y.WF ∧ y.B = (putP (growP z (max z.B.length (p + b.length))) p b).B ∧ y.W = (putP (growP z (max z.B.length (p + b.length))) p b).W ∧ y.O = (putP (growP z (max z.B.length (p + b.length))) p b).O) := by
  have hwz : z.WF := hw.files _ (lookup_mem hf)
  have hle : z.W.length ≤ needN (max z.B.length (p + b.length)) := by
    rw [hwz.w]; unfold needN; omega
  have hg := growP_len hwz (show z.B.length ≤ max z.B.length (p + b.length) by omega)
  have hwl : (putP (growP z (max z.B.length (p + b.length))) p b).W.length = needN (max z.B.length (p + b.length)) := by rw [putP_wlen]; exact hg.1
  have hy : (putP (growP z (max z.B.length (p + b.length))) p b).WF := putP_wf (growP_wf hwz (by omega)) (by rw [hg.2]; omega)
  rw [writeP_some b hd hf hp, if_neg (by omega), if_neg hb]
  by_cases h0 : S.fuse = 0
  · left
    refine ⟨h0, ?_⟩
    rw [burnP_false h0]; rfl
  · right
    refine ⟨h0, _, { putP (growP z (max z.B.length (p + b.length))) p b with stamp := S.stamp + 1 }, by rw [burnP_true h0]; rfl, ?_, ⟨hy.w, hy.o⟩, rfl, rfl, rfl⟩
    obtain ⟨e1, e2, e3, e4⟩ := burnt_up h0
    refine ⟨e1.trans hd, e2, Nat.le_refl _, stampF_wf hw hf hy (by rw [hwl]; omega), fun s => find_stamp _ hf s, ?_, e4⟩
    have := use_set (x := { putP (growP z (max z.B.length (p + b.length))) p b with stamp := S.stamp + 1 }) hw.order hf
    exact this
theorem step_sync {S : FsP} {n : List UInt8} {z : FlP} (hw : S.WF) (hd : S.down = false) (hf : findP S n = some z) :
    (S.fuse = 0 ∧ syncF S n = (9, burntP S)) ∨ (S.fuse ≠ 0 ∧ ∃ S', syncF S n = (0, S') ∧ Step S S' n z (syncP z) ∧ (syncP z).WF) := by
  have hwz : z.WF := hw.files _ (lookup_mem hf)
  have hsame : SameF z (syncP z) := by
    unfold syncP
    generalize z.W.length = k
    induction k with
    | zero => exact SameF.refl hwz
    | succ k ih => exact ih.trans (same_last ih.wf k)
  unfold syncF
  rw [hd, hf]
  by_cases h0 : S.fuse = 0
  · left
    refine ⟨h0, ?_⟩
    simp only [burnP_false h0]; rfl
  · right
    refine ⟨h0, keptF S n (syncP z), by simp only [burnP_true h0]; rfl, ?_, hsame.wf⟩
    obtain ⟨e1, e2, e3, e4⟩ := burnt_up h0
    have es : (burntP S).stamp = S.stamp := (burntP_parts S).2.1
    refine ⟨e1.trans hd, e2, by show (burntP S).stamp ≤ _; omega, keptF_wf hw hf hsame, fun s => find_kept _ hf s, ?_, e4⟩
    have := use_set (x := syncP z) hw.order hf
    exact this
theorem step_cut {S : FsP} {n : List UInt8} {z : FlP} (hw : S.WF) (hd : S.down = false) (hf : findP S n = some z) :
    (S.fuse = 0 ∧ cutF S n 0 = (9, burntP S)) ∨ (S.fuse ≠ 0 ∧ ∃ S' y, cutF S n 0 = (0, S') ∧ Step S S' n z y ∧ y.B = [] ∧ y.W = [] ∧ y.O = []) := by
  have hwz : z.WF := hw.files _ (lookup_mem hf)
  unfold cutF
  rw [hd, hf]
  by_cases h0 : S.fuse = 0
  · left
    refine ⟨h0, ?_⟩
    simp only [burnP_false h0]
    rw [if_neg (by decide), if_neg (by omega)]; rfl
  · right
    have hc : cutP z (0 : Int).toNat = { z with B := [], W := [], O := [] } := by
      unfold cutP
      simp [needN]
    refine ⟨h0, stampF S n (cutP z (0 : Int).toNat), { cutP z (0 : Int).toNat with stamp := S.stamp + 1 }, by simp only [burnP_true h0]; rw [if_neg (by decide), if_neg (by omega)]; rfl, ?_, by rw [hc], by rw [hc], by rw [hc]⟩
    obtain ⟨e1, e2, e3, e4⟩ := burnt_up h0
    have hy : (cutP z (0 : Int).toNat).WF := by rw [hc]; exact ⟨by simp [needN], rfl⟩
    have hroom := hw.room
    refine ⟨e1.trans hd, e2, Nat.le_refl _, stampF_wf hw hf hy (by rw [hc]; simp; omega), fun s => find_stamp _ hf s, ?_, e4⟩
    have := use_set (x := { cutP z (0 : Int).toNat with stamp := S.stamp + 1 }) hw.order hf
    exact this
end Go.Proofs.YtoadamkmabkldaaGreatDoor
/- Contracts of package vfs: Write, whatever is asked. -/
namespace Go.Proofs.YtoadamkmabkldaaGreatDoor
open Go.RowKit
attribute [local go_sem ↓] Go.wp_at_zero Go.wp_at_succ

set_option maxHeartbeats 4000000 in
set_option maxRecDepth 100000 in
theorem write_any (f : Nat) (O : Nat → Prop) (S : FsP) (s : ByteArray) (q : Int) (n c b0 : Nat) (bs : List UInt8) (A : Option Addr) (w : World) (hO : ∀ i, w.heap.size ≤ i → O i) (h : FsA w O f S) (hs : s.size ≤ 1000000) (hst : S.stamp ≤ 1000000)
    (hn : n = bs.length) (hnm : n ≤ 100000) (hnc : n ≤ c) (hc : c ≤ maxLen) (hr : Rs w b0 A bs) (hb0 : 0 < n → ¬ O b0) (hb1 : 0 < n → b0 < w.heap.size) :
    Calls Tryz.prog 73 #[.pointer (some ⟨f, 0, none⟩), .string s, .int .i64 q, .slice A n c] w fun e w' => e = .returned (.int .i64 ((writeP S s.data.toList q bs).1 : Int)) ∧ FsA w' O f (writeP S s.data.toList q bs).2 ∧ Ch O w w' := by
  have hsm : s.size ≤ maxLen := Nat.le_trans hs (by unfold maxLen; decide)
  have H := Lib.hid h
  have HY := Lib.hid (fun x hd hf p hp => write_at f O S w hO h s p n c b0 bs A x hs hst hn hnm hnc hc hr hb0 hb1 hd hf hp)
  obtain ⟨m, bl, gl, sv, hM, hOs⟩ := h
  cases hd : S.down with
  | true =>
    have e1 : writeP S s.data.toList q bs = (9, S) := by unfold writeP; rw [hd]; rfl
    rw [e1]
    have HA := Lib.hid (at_down f m bl gl sv S s w hM hsm hd)
    clear hM hO hOs hd hs hsm hst hn hnm hnc hc hr hb0 hb1 HY e1
    go_enter Tryz.func73, Tryz.ntmps73
    go_wp2_with fail
    with_reducible refine HA.out.mono ?_
    rintro e w1 ⟨rfl, hw1⟩; subst hw1
    go_wp2_with fail
    go_ret
    exact ⟨rfl, H.out, Ch.refl _ _⟩
  | false =>
    cases hf : findP S s.data.toList with
    | none =>
      have e1 : writeP S s.data.toList q bs = (6, S) := by unfold writeP; rw [hd, hf]; rfl
      rw [e1]
      have HA := Lib.hid (at_none f m bl gl sv S s w hM hsm hd hf)
      clear hM hO hOs hd hs hsm hst hf hn hnm hnc hc hr hb0 hb1 HY e1
      go_enter Tryz.func73, Tryz.ntmps73
      go_wp2_with fail
      with_reducible refine HA.out.mono ?_
      rintro e w1 ⟨rfl, hw1⟩; subst hw1
      go_wp2_with fail
      go_ret
      exact ⟨rfl, H.out, Ch.refl _ _⟩
    | some x =>
      have HA := Lib.hid (at_some f m bl gl sv S s w hM hsm hd hf)
      have c1 : w.cell? ⟨bl s.data.toList, 1, none⟩ = some (.int .i64 (x.B.length : Int)) := (hM.fl _ x hf).hd.cell 1
      by_cases hbad : q < 0 ∨ (x.B.length : Int) < q
      · have e1 : writeP S s.data.toList q bs = (1, S) := by unfold writeP; rw [hd, hf]; simp only [Bool.false_eq_true, if_false, if_pos hbad]
        rw [e1]
        by_cases h1 : q < 0
        · clear hM hO hOs hd hs hsm hst hf hn hnm hnc hc hr hb0 hb1 HY e1 hbad
          go_enter Tryz.func73, Tryz.ntmps73
          go_wp2_with fail
          with_reducible refine HA.out.mono ?_
          rintro e w1 ⟨rfl, hw1⟩; subst hw1
          go_wp2_with fail
          go_ret
          exact ⟨rfl, H.out, Ch.refl _ _⟩
        · obtain ⟨N, rfl⟩ : ∃ k : Nat, q = (k : Int) := ⟨q.toNat, by omega⟩
          have h2 : x.B.length < N := by omega
          clear hM hO hOs hd hs hsm hst hf hn hnm hnc hc hr hb0 hb1 HY e1 hbad
          go_enter Tryz.func73, Tryz.ntmps73
          go_wp2_with fail
          with_reducible refine HA.out.mono ?_
          rintro e w1 ⟨rfl, hw1⟩; subst hw1
          go_wp2_with fail
          go_ret
          exact ⟨rfl, H.out, Ch.refl _ _⟩
      · obtain ⟨p, rfl⟩ : ∃ k : Nat, q = (k : Int) := ⟨q.toNat, by omega⟩
        exact HY.out x hd hf p (by omega)
end Go.Proofs.YtoadamkmabkldaaGreatDoor
