/- PagerFull: what the walk leans on. -/
import Derived.Test.YtoadamkmabkldaaGreatDoorJn35
import Derived.Test.YtoadamkmabkldaaGreatDoorJn36
import Derived.Test.YtoadamkmabkldaaGreatDoorRows
import Derived.PinnedBridge
import Derived.Stop.LaidErr
namespace Go.Proofs.YtoadamkmabkldaaGreatDoor
open Go.RowKit Go.Shelf
attribute [local go_sem ↓] Go.wp_at_zero Go.wp_at_succ
/-- The document's pages beside a pager and its store. -/
def Sd (W : World) (O1 O2 O K : Nat → Prop) (s : Nat) (st : StP) : Prop := RfA W O K s st ∧ ∀ i, O i ∨ K i → ¬ O1 i ∧ ¬ O2 i ∧ i < W.heap.size
section
variable {w W W' : World} {f p q s k M : Nat} {O1 O2 O3 O4 O K : Nat → Prop} {S : FsP} {P : PgP} {st : StP} {c : Nat → List UInt8}
theorem Sd.next {T : Nat → Prop} (h : Sd W O1 O2 O K s st) (h1 : ∀ i, O3 i → O1 i ∨ W.heap.size ≤ i) (h2 : ∀ i, O4 i → O2 i ∨ W.heap.size ≤ i) (hc : Ch T W W') (hT : ∀ i, T i → i < W.heap.size → O1 i ∨ O2 i) : Sd W' O3 O4 O K s st := by
  have hz := hc.size
  refine ⟨h.1.heap hz (fun i hi hl => hc.block i hl (fun e => ?_)), fun i hi => ⟨fun e => ?_, fun e => ?_, by have := (h.2 i hi).2.2; omega⟩⟩
  · rcases hT i e hl with e | e
    · exact (h.2 i hi).1 e
    · exact (h.2 i hi).2.1 e
  · rcases h1 i e with e | e
    · exact (h.2 i hi).1 e
    · have := (h.2 i hi).2.2; omega
  · rcases h2 i e with e | e
    · exact (h.2 i hi).2.1 e
    · have := (h.2 i hi).2.2; omega
theorem Sd.pwx {P2 : PgP} {S2 : FsP} (h : Sd W O1 O2 O K s st) (hX : PwX w W W' O1 O2 f p xS P2 S2) : ∃ O3 O4, Pw w W' O3 O4 f p xS P2 S2 ∧ Sd W' O3 O4 O K s st := by
  obtain ⟨O3, O4, h1, h2, h3, h4⟩ := hX
  exact ⟨O3, O4, h1, h.next h2 h3 h4 (fun i hi _ => hi)⟩
def gFu (i : Nat) : UInt8 := UInt8.ofNat i
def FuL (w W : World) (f p k s M : Nat) : Prop := ∃ O1 O2 S O, Pw w W O1 O2 f p xS (pgG gFu k) S ∧ (St S xN lN M ∧ S.fuse = -1 ∧ S.stamp ≤ 40000) ∧ Sd W O1 O2 O (fun _ => False) s newS
def FuM (w W : World) (f p k s M : Nat) : Prop := ∃ O1 O2 S O, Pw w W O1 O2 f p xS (pgGa gFu k) S ∧ (St S xN lN M ∧ S.fuse = -1 ∧ S.stamp ≤ 40000) ∧ Sd W O1 O2 O (fun _ => False) s newS
def FuO (w W : World) (f p M : Nat) : Prop := ∃ O1 O2 S, Pw w W O1 O2 f p xS pgN S ∧ St S xN lN M ∧ S.fuse = -1 ∧ S.stamp ≤ 40000
theorem fu_open {m : Int} (hF : Fs w.heap.size W f (newP m)) (hb : Below w.heap.size w W) (hm : (newP m).most = M) (h17 : 17 ≤ M) : Calls Tryz.prog 11 #[.pointer (some ⟨f, 0, none⟩), .string xS] W fun e w' => ∃ p, e = .returned (.tuple #[.pointer (some ⟨p, 0, none⟩), .int .i64 0]) ∧ Hid (FuO w w' f p M) := by
  refine (open_new m f _ w W hF (fun i hi => hi) hb).mono ?_
  rintro e w' (⟨_, p, O1, O2, S, h1, h2, h3, h4, h5, _⟩ | ⟨h1, _⟩)
  · rw [hm] at h3
    exact ⟨p, h1, Lib.hid ⟨O1, O2, S, h2, h3, h4, h5⟩⟩
  · omega
theorem fu_new (h : FuO w W f p M) : Calls Tryz.prog 19 #[] W fun e w' => ∃ s, e = .returned (.pointer (some ⟨s, 0, none⟩)) ∧ Hid (FuL w w' f p 0 s M) := by
  obtain ⟨O1, O2, S, k1, k2⟩ := h
  refine (new_any17 W).mono ?_
  rintro e w' ⟨s, rfl, H⟩
  obtain ⟨r1, r2⟩ := H.out
  have hz := r2.size
  refine ⟨s, rfl, Lib.hid ⟨O1, O2, S, fun i => W.heap.size ≤ i ∧ i < w'.heap.size, k1.keep (T := fun _ => False) (Ch.of_below r2 (Nat.le_refl _)) (fun i h => h.elim), k2, r1.mono (fun i hi hl => ⟨hi, hl⟩) (fun i hi _ => hi), fun i hi => ?_⟩⟩
  rcases hi with hi | hi
  · exact ⟨fun e => by have := (k1.l1 i e).2; omega, fun e => by have := (k1.l2 i e).2; omega, hi.2⟩
  · exact hi.elim
theorem fu_alloc (h : FuL w W f p k s M) (hk : k + 1 < 65536) : Calls Tryz.prog 12 #[.pointer (some ⟨p, 0, none⟩)] W fun e w' => e = .returned (.tuple #[.int .i64 ((k + 1 : Nat) : Int), .int .i64 0]) ∧ FuM w w' f p k s M := by
  obtain ⟨O1, O2, S, O, k1, k2, k3⟩ := h
  refine (gp_alloc k1 hk).mono ?_
  rintro e w' ⟨rfl, hX⟩
  obtain ⟨O3, O4, k4, k5⟩ := k3.pwx hX
  exact ⟨rfl, O3, O4, S, O, k4, k2, k5⟩
theorem fu_write (h : FuM w W f p k s M) (hk : k + 1 < 65536) {x : Int} (hx : x = ((gFu k).toNat : Int)) : Calls Tryz.prog 13 #[.pointer (some ⟨p, 0, none⟩), .int .i64 ((k + 1 : Nat) : Int), .slice (some ⟨W.heap.size, 0, none⟩) 1 1] (W.alloc (.cells #[.int .u8 x] 5)) fun e w' => e = .returned (.int .i64 0) ∧ FuL w w' f p (k + 1) s M := by
  obtain ⟨O1, O2, S, O, k1, k2, k3⟩ := h
  refine (gp_write k1 hk hx).mono ?_
  rintro e w' ⟨rfl, hX⟩
  obtain ⟨O3, O4, k4, k5⟩ := k3.pwx hX
  exact ⟨rfl, O3, O4, S, O, k4, k2, k5⟩
/-- Behind a commit that was done: how many there are. -/
theorem fu_ok (h : FuL w W f p k s M) (hk1 : 1 ≤ k) (hk : k ≤ 6) (hM1 : 18 ≤ M) (hM : M ≤ 100) (hfit : needC (k + 1) (k + 1) 512 ≤ M - 8) :
    Calls Tryz.prog 14 #[.pointer (some ⟨p, 0, none⟩)] W fun e w' => e = .returned (.int .i64 0) ∧ Below w.heap.size w w' ∧ w'.cell? ⟨p, 26, none⟩ = some (.bool false) ∧ w'.cell? ⟨p, 2, none⟩ = some (.int .i64 ((k + 1 : Nat) : Int)) := by
  obtain ⟨O1, O2, S, O, k1, ⟨k2, k3, k4⟩, k5⟩ := h
  have hcl : (pgG gFu k).ch.length = k := chG_len _ _
  refine (com_pw k1 (pgG_ok gFu k (by omega)) rfl k2 (pgG_bat gFu (by omega)) (by rw [hcl]; omega) (by omega) (Nat.le_refl _) (by show 8 * 1 ≤ M; omega) (by omega)).mono ?_
  rintro e w' (⟨r1, _⟩ | ⟨_, r1, _⟩ | ⟨_, _, S2, r1, r2, _, r4, O3, O4, r5, _⟩ | ⟨_, _, r1, _⟩)
  · rw [r1] at hcl
    have : 0 = k := hcl
    omega
  · rw [hcl] at r1
    have r1 : M - 8 * 1 < needC (k + 1) (k + 1) 512 := r1
    omega
  · obtain ⟨m1, m2, _, _, _, hM, _⟩ := r5.pg
    exact ⟨r1, r5.bl, hM.hd.cell 26, hM.hd.cell 2⟩
  · exact absurd k3 r1
/-- Two pagers on one store, and what is told of both. -/
def FuH (w W : World) (f p q s M R : Nat) : Prop := ∃ O1 O2 O3 S O P, FsA W O1 f S ∧ PgA W O2 f p xS P ∧ PgA W O3 f q xS (pgO hd1) ∧ RfA W O (fun _ => False) s newS ∧ St S xN lN M ∧
  (P.now = hd1 ∧ P.last = hd1 ∧ P.ch = [] ∧ P.dead = false ∧ P.Ok ∧ KeptN P (cF lN) ∧ P.reads ≤ R) ∧ (∀ i, O1 i ∨ O2 i ∨ O3 i ∨ O i → i < W.heap.size) ∧ (∀ i, O2 i → w.heap.size ≤ i) ∧ (∀ i, O3 i → w.heap.size ≤ i) ∧ (∀ i, O1 i → ¬ O2 i ∧ ¬ O3 i) ∧ (∀ i, O2 i → ¬ O3 i) ∧ (∀ i, O i → ¬ O1 i ∧ ¬ O2 i ∧ ¬ O3 i) ∧ Below w.heap.size w W
def FuG (w W : World) (f p s M : Nat) : Prop := ∃ O1 O2 S O P, Pw w W O1 O2 f p xS P S ∧ (P.now = hd1 ∧ P.last = hd1 ∧ P.ch = [] ∧ P.dead = false ∧ P.Ok ∧ KeptN P (cF lN) ∧ P.reads ≤ 100) ∧ (St S xN lN M ∧ S.stamp ≤ 40000) ∧ Sd W O1 O2 O (fun _ => False) s newS
theorem fu_full (h : FuL w W f p k s M) (hk1 : 1 ≤ k) (hk : k ≤ 6) (hM1 : 18 ≤ M) (hM : M ≤ 100) (hfit : M - 8 < needC (k + 1) (k + 1) 512) :
    Calls Tryz.prog 14 #[.pointer (some ⟨p, 0, none⟩)] W fun e w' => e = .returned (.int .i64 8) ∧ FuG w w' f p s M := by
  obtain ⟨O1, O2, S, O, k1, ⟨k2, k3, k4⟩, k5⟩ := h
  have hcl : (pgG gFu k).ch.length = k := chG_len _ _
  refine (com_pw k1 (pgG_ok gFu k (by omega)) rfl k2 (pgG_bat gFu (by omega)) (by rw [hcl]; omega) (by omega) (Nat.le_refl _) (by show 8 * 1 ≤ M; omega) (by omega)).mono ?_
  rintro e w' (⟨r1, _⟩ | ⟨_, r1, r2, r3⟩ | ⟨_, r0, S2, _⟩ | ⟨_, _, r1, _⟩)
  · rw [r1] at hcl
    have : 0 = k := hcl
    omega
  · obtain ⟨O3, O4, r4, r5⟩ := k5.pwx r3
    have hok : (giveP (pgG gFu k)).Ok := ⟨List.Pairwise.nil, (fun q hq => by cases hq), List.nodup_nil, Nat.zero_le _, (fun k hk => by cases hk)⟩
    exact ⟨r2, O3, O4, S, O, _, r4, ⟨rfl, rfl, rfl, rfl, hok, (fun k hk _ => by cases hk), by show 0 ≤ 100; omega⟩, ⟨k2, k4⟩, r5⟩
  · rw [hcl] at r0
    have r0 : needC (k + 1) (k + 1) 512 ≤ M - 8 * 1 := r0
    omega
  · exact absurd k3 r1
theorem fu_again (h : FuG w W f p s M) : Calls Tryz.prog 11 #[.pointer (some ⟨f, 0, none⟩), .string xS] W fun e w' => ∃ q, e = .returned (.tuple #[.pointer (some ⟨q, 0, none⟩), .int .i64 0]) ∧ Hid (FuH w w' f p q s M 100) := by
  obtain ⟨O1, O2, S, O, P, k1, k2, ⟨k3, k4⟩, k5⟩ := h
  refine (open_old f M O1 S lN hd1 w W k1.fs k1.l1 k1.bl k3 rfl ⟨by decide, by decide, by decide, rfl, by decide⟩ (by omega)).mono ?_
  rintro e w' ⟨q, O3, O4, rfl, r1, r2, r3, r4⟩
  have hz := r4.size
  refine ⟨q, rfl, Lib.hid ⟨O3, O2, O4, S, O, P, r1.fs, k1.pg.heap hz (fun i hi hl => r4.block i hl (fun e => k1.ne i e hi)), r1.pg, k5.1.heap hz (fun i hi hl => r4.block i hl (fun e => (k5.2 i hi).1 e)), k3, k2, fun i hi => ?_, fun i hi => (k1.l2 i hi).1, fun i hi => (r1.l2 i hi).1, fun i hi => ⟨fun e => ?_, r1.ne i hi⟩, fun i hi e => ?_, fun i hi => ⟨fun e => ?_, (k5.2 i (.inl hi)).2.1, fun e => ?_⟩, r1.bl⟩⟩
  · rcases hi with e | e | e | e
    · exact (r1.l1 i e).2
    · have := (k1.l2 i e).2; omega
    · exact (r1.l2 i e).2
    · have := (k5.2 i (.inl e)).2.2; omega
  · rcases r2 i hi with e2 | e2
    · exact k1.ne i e2 e
    · have := (k1.l2 i e).2; omega
  · have := r3 i e; have := (k1.l2 i hi).2; omega
  · rcases r2 i e with e2 | e2
    · exact (k5.2 i (.inl hi)).1 e2
    · have := (k5.2 i (.inl hi)).2.2; omega
  · have := r3 i e; have := (k5.2 i (.inl hi)).2.2; omega
theorem bat_hd1 : BatOk lN hd1 [] := ⟨rfl, by decide, by decide, List.Pairwise.nil, (fun q hq => by cases hq), Nat.le_refl _, fun k h1 h2 _ => by have h1 : 1 ≤ k := h1; have h2 : k < 1 := h2; omega⟩
theorem fu_good {R : Nat} (hS : St S xN lN M) (h : P.now = hd1 ∧ P.last = hd1 ∧ P.ch = [] ∧ P.dead = false ∧ P.Ok ∧ KeptN P (cF lN) ∧ P.reads ≤ R) : GoodN P S xN (cF lN) ∧ ∀ c, SameP P c [] newS := by
  obtain ⟨h1, h2, h3, h4, h5, h6, _⟩ := h
  refine ⟨good_of h5 h6 h4 hS (by rw [h1, h3]; exact bat_hd1), fun c => ⟨rfl, by rw [h1]; rfl, by rw [h1]; rfl, fun no a b => by rw [h1] at b; have b : no < 1 := b; omega⟩⟩
theorem pgO_facts : (pgO hd1).now = hd1 ∧ (pgO hd1).last = hd1 ∧ (pgO hd1).ch = [] ∧ (pgO hd1).dead = false ∧ (pgO hd1).Ok ∧ KeptN (pgO hd1) (cF lN) ∧ (pgO hd1).reads ≤ 100 := ⟨rfl, rfl, rfl, rfl, pgO_ok _, fun k hk h0 => by
  have hk : k ∈ [0] := hk
  exact absurd (by simpa using hk) h0, by show 1 ≤ 100; omega⟩
theorem fu_same1 (h : FuH w W f p q s M 100) : Calls Tryz.prog 20 #[.pointer (some ⟨p, 0, none⟩), .pointer (some ⟨s, 0, none⟩)] W fun e w' => e = .returned (.bool true) ∧ FuH w w' f p q s M 101 := by
  obtain ⟨O1, O2, O3, S, O, P, k1, k2, k3, k4, k5, k6, k7, k7b, k7c, k8, k9, k10, k11⟩ := h
  obtain ⟨g1, g2⟩ := fu_good k5 k6
  refine (same_any17 f p s O1 O2 O (fun _ => False) S P (cF lN) [] newS W k2 k1 (fun i hi => (k8 i hi).1) (fun i hi => k7 i (.inl hi)) g1 (by have := k6.2.2.2.2.2.2; show P.reads + 0 + 1 ≤ _; omega) (by rw [k6.1]; exact rfl) (by rw [k6.1]; decide) (fun k hk => by cases hk) (by rw [k6.1]; rfl) k4 (fun i hi => by
    rcases hi with hi | hi
    · exact ⟨(k10 i hi).2.1, k7 i (.inr (.inr (.inr hi)))⟩
    · exact hi.elim) (Nat.le_refl _) (by decide) rfl (Nat.zero_le _)).mono ?_
  rintro e w' ⟨r, k, rfl, hr, ⟨Oi, Q, a1, a2, a3, a4, a5⟩, hk⟩
  have hz := a4.size
  have e1 : r = true := hr.2 (g2 _)
  subst e1
  refine ⟨rfl, O1, fun i => Oi i ∧ i < w'.heap.size, O3, S, O, Q, k1.ch a4 (fun i hi => (k8 i hi).1), a1.mono (fun i hi hl => ⟨hi, hl⟩), k3.heap hz (fun i hi hl => a4.block i hl (fun e => k9 i e hi)), a5, k5, ⟨a2.now.trans k6.1, a2.last.trans k6.2.1, a2.ch.trans k6.2.2.1, a2.dead.trans k6.2.2.2.1, a2.ok, a2.kept, ?_⟩, fun i hi => ?_, fun i hi => ?_, k7c, fun i hi => ⟨fun e => ?_, (k8 i hi).2⟩, fun i hi e => ?_, fun i hi => ⟨(k10 i hi).1, fun e => ?_, (k10 i hi).2.2⟩, k11.trans (a4.below k11.size k7b)⟩
  · have h1 := a2.reads
    obtain ⟨_, _, h3, _, _, _, h7⟩ := k6
    have hk : k ≤ 0 + 1 := hk
    omega
  · rcases hi with e | e | e | e
    · have := k7 i (.inl e); omega
    · exact e.2
    · have := k7 i (.inr (.inr (.inl e))); omega
    · have := k7 i (.inr (.inr (.inr e))); omega
  · rcases a3 i hi.1 with e | e
    · exact k7b i e
    · have := k11.size; omega
  · rcases a3 i e.1 with e2 | e2
    · exact (k8 i hi).1 e2
    · have := k7 i (.inl hi); omega
  · rcases a3 i hi.1 with e2 | e2
    · exact k9 i e2 e
    · have := k7 i (.inr (.inr (.inl e))); omega
  · rcases a3 i e.1 with e2 | e2
    · exact (k10 i hi).2.1 e2
    · have := k7 i (.inr (.inr (.inr hi))); omega
theorem fu_changed {R : Nat} (h : FuH w W f p q s M R) : Calls Tryz.prog 21 #[.pointer (some ⟨p, 0, none⟩)] W fun e w' => e = .returned (.bool false) ∧ FuH w w' f p q s M R := by
  obtain ⟨O1, O2, O3, S, O, P, k1, k2, k3, k4, k5, k6, k7, k7b, k7c, k8, k9, k10, k11⟩ := h
  obtain ⟨mch, mcl, tch, tcl, vrow, hM, hO⟩ := k2
  obtain ⟨r, hr, hC⟩ := changed_at f p mch mcl xS P tch tcl vrow W hM k6.2.2.2.1
  obtain rfl : r = false := hr.2 ⟨k6.2.2.1, by rw [k6.1, k6.2.1]⟩
  refine hC.mono ?_
  rintro e w' ⟨rfl, hc⟩
  have hz := hc.size
  refine ⟨rfl, O1, O2, O3, S, O, P, k1.ch hc (fun i _ e => e), ⟨mch, mcl, tch, tcl, vrow, hM.heap hz (fun i hi => hc.block i (hM.lt i hi) (fun e => e)), hO⟩, k3.heap hz (fun i hi hl => hc.block i hl (fun e => e)), k4.ch hc (fun i _ e => e) (fun i _ e => e), k5, k6, fun i hi => by have := k7 i hi; omega, k7b, k7c, k8, k9, k10, k11.trans (hc.below k11.size (fun i e => e.elim))⟩
theorem fu_same2 {R : Nat} (h : FuH w W f p q s M R) : Calls Tryz.prog 20 #[.pointer (some ⟨q, 0, none⟩), .pointer (some ⟨s, 0, none⟩)] W fun e w' => e = .returned (.bool true) ∧ Below w.heap.size w w' := by
  obtain ⟨O1, O2, O3, S, O, P, k1, k2, k3, k4, k5, k6, k7, k7b, k7c, k8, k9, k10, k11⟩ := h
  obtain ⟨g1, g2⟩ := fu_good k5 pgO_facts
  refine (same_any17 f q s O1 O3 O (fun _ => False) S (pgO hd1) (cF lN) [] newS W k3 k1 (fun i hi => (k8 i hi).2) (fun i hi => k7 i (.inl hi)) g1 (by show 1 + 0 + 1 ≤ _; omega) rfl (by decide) (fun k hk => by cases hk) rfl k4 (fun i hi => by
    rcases hi with hi | hi
    · exact ⟨(k10 i hi).2.2, k7 i (.inr (.inr (.inr hi)))⟩
    · exact hi.elim) (Nat.le_refl _) (by decide) rfl (Nat.zero_le _)).mono ?_
  rintro e w' ⟨r, k, rfl, hr, ⟨Oi, Q, a1, a2, a3, a4, a5⟩, hk⟩
  have e1 : r = true := hr.2 (g2 _)
  subst e1
  exact ⟨rfl, k11.trans (a4.below k11.size k7c)⟩
end
end Go.Proofs.YtoadamkmabkldaaGreatDoor
/- PagerFull: a commit for which there is no room. -/
namespace Go.Proofs.YtoadamkmabkldaaGreatDoor
open Go.RowKit Go.Shelf
attribute [local go_sem ↓] Go.wp_at_zero Go.wp_at_succ
theorem pagerFull_laid (W : World) (_ : laidMet Tryz.prog Rows.pagerFullRow.laid W) : True := trivial
set_option maxHeartbeats 8000000 in
set_option maxRecDepth 100000 in
theorem pagerFull_walk (a b : Int) (w : World) (ha : 0 ≤ a ∧ a ≤ 255) (hb : 0 ≤ b ∧ b ≤ 255) (_ : True) :
    Calls Tryz.prog 5 #[.int .u8 a, .int .u8 b] w fun e w' => e = .returned (.bool true) ∧ Below w.heap.size w w' := by
  rename_i hT
  clear hT
  have HW := Lib.hid (pwakes_any w)
  obtain ⟨M, hM⟩ : ∃ M : Nat, M = 18 + (a % 60).toNat := ⟨_, rfl⟩
  obtain ⟨n, hn⟩ : ∃ n : Nat, n = 1 + (b % 6).toNat := ⟨_, rfl⟩
  have ea : a.tmod 60 = ((M - 18 : Nat) : Int) := by rw [Int.tmod_eq_emod_of_nonneg ha.1]; omega
  have eb : b.tmod 6 = ((n - 1 : Nat) : Int) := by rw [Int.tmod_eq_emod_of_nonneg hb.1]; omega
  obtain ⟨M0, hM0⟩ : ∃ M0, M0 = M - 18 := ⟨_, rfl⟩
  obtain ⟨n0, hn0⟩ : ∃ n0, n0 = n - 1 := ⟨_, rfl⟩
  rw [← hM0] at ea
  rw [← hn0] at eb
  have eM : 18 + (M0 : Int) = (M : Int) := by omega
  have en : 1 + (n0 : Int) = (n : Int) := by omega
  have hM1 : 18 ≤ M := by omega
  have hM2 : M ≤ 100 := by omega
  have hn1 : 1 ≤ n := by omega
  have hn6 : n ≤ 6 := by omega
  have hM02 : M0 ≤ 60 := by omega
  have hn02 : n0 ≤ 6 := by omega
  clear hM hn hM0 hn0
  go_enter Tryz.func5, Tryz.ntmps5
  go_wp2_with fail
  with_reducible refine HW.out.mono ?_
  rintro e w0 ⟨rfl, b0⟩
  have B0 := Lib.hid b0
  have HN := Lib.hid (new_fs (M : Int) w0)
  clear b0 HW
  go_wp2_with fail
  with_reducible refine HN.out.mono ?_
  rintro e w1 ⟨f, rfl, h1, b1⟩
  have HO := Lib.hid (fu_open (M := M) h1 b1 (by show (min (max (M : Int) 1) 65536).toNat = M; omega) (by omega))
  clear h1 b1 HN
  go_wp2_with fail
  with_reducible refine HO.out.mono ?_
  rintro e w2 ⟨p, rfl, H2⟩
  have HS := Lib.hid (fu_new H2.out)
  clear HO
  go_wp2_with fail
  with_reducible refine HS.out.mono ?_
  rintro e w3 ⟨s, rfl, H3⟩
  clear HS H2
  go_wp2_with fail
  go_loopw [37] (fun s37 wr => ∃ i : Nat, s37 = .int .i64 (i : Int) ∧ i ≤ n ∧ Hid (FuL w0 wr f p i s M)) (fun s37 _ => n - (intOf s37).toNat)
  case atStart => exact ⟨0, rfl, Nat.zero_le _, H3⟩
  case round =>
    obtain ⟨i, rfl, hin, HI⟩ := hrel
    by_cases hlt : i < n
    · have HA := Lib.hid (by have := fu_alloc HI.out (show i + 1 < 65536 by omega); rw [show ((i + 1 : Nat) : Int) = (i : Int) + 1 by omega] at this; exact this)
      have hlt2 : (i : Int) < (n : Int) := by omega
      have HX := Lib.hid (show (i : Int) = ((gFu i).toNat : Int) by
        unfold gFu
        rw [UInt8.toNat_ofNat', Nat.mod_eq_of_lt (by omega)])
      have e1 : IntKind.u8.wrap (i : Int) = (i : Int) := by simp [IntKind.wrap, IntKind.bits, IntKind.signed]; omega
      go_wp2_with fail
      with_reducible refine HA.out.mono ?_
      rintro e w4 ⟨rfl, h4⟩
      have HWr := Lib.hid (by have := fu_write h4 (show i + 1 < 65536 by omega) HX.out; rw [show ((i + 1 : Nat) : Int) = (i : Int) + 1 by omega] at this; exact this)
      clear h4 HA
      go_wp2_with fail
      with_reducible refine HWr.out.mono ?_
      rintro e w5 ⟨rfl, h5⟩
      have H5 := Lib.hid h5
      clear h5 HWr
      go_wp2_with fail
      go_roundw
      case rel => first | exact ⟨i + 1, rfl, by omega, H5⟩ | ((repeat apply Exists.intro); exact ⟨⟨i + 1, rfl, by omega, H5⟩, rfl⟩)
      case measure => simp [intOf]; omega
    · obtain rfl : i = n := by omega
      by_cases hfit : needC (i + 1) (i + 1) 512 ≤ M - 8
      · have HC := Lib.hid (fu_ok HI.out hn1 hn6 hM1 hM2 hfit)
        clear hfit HI H3
        go_wp2_with fail
        with_reducible refine HC.out.mono ?_
        rintro e w5 ⟨rfl, b5, c26, c2⟩
        have HMa := Lib.hid (by have := many_any p (i + 1) w5 c26 c2; rw [show ((i + 1 : Nat) : Int) = (i : Int) + 1 by omega] at this; exact this)
        have B5 := Lib.hid b5
        clear b5 c26 c2 HC
        go_wp2_with fail
        with_reducible refine HMa.out.mono ?_
        rintro e w6 ⟨rfl, hw6⟩
        subst hw6
        go_wp2_with fail
        go_ret
        exact ⟨rfl, B0.out.trans (B5.out.mono B0.out.size)⟩
      · have HC := Lib.hid (fu_full HI.out hn1 hn6 hM1 hM2 (by omega))
        clear hfit HI H3
        go_wp2_with fail
        with_reducible refine HC.out.mono ?_
        rintro e w5 ⟨rfl, h5⟩
        have HO := Lib.hid (fu_again h5)
        clear h5 HC
        go_wp2_with fail
        with_reducible refine HO.out.mono ?_
        rintro e w6 ⟨q, rfl, H6⟩
        have HS1 := Lib.hid (fu_same1 H6.out)
        clear HO H6
        go_wp2_with fail
        with_reducible refine HS1.out.mono ?_
        rintro e w7 ⟨rfl, h7⟩
        have HCh := Lib.hid (fu_changed h7)
        clear h7 HS1
        go_wp2_with fail
        with_reducible refine HCh.out.mono ?_
        rintro e w8 ⟨rfl, h8⟩
        have HS2 := Lib.hid (fu_same2 h8)
        clear h8 HCh
        go_wp2_with fail
        with_reducible refine HS2.out.mono ?_
        rintro e w9 ⟨rfl, b9⟩
        have B9 := Lib.hid b9
        clear b9 HS2
        go_wp2_with fail
        go_ret
        exact ⟨rfl, B0.out.trans (B9.out.mono B0.out.size)⟩
end Go.Proofs.YtoadamkmabkldaaGreatDoor
