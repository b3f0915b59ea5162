/- A pager opened on a file that is there. -/
import Derived.Test.YtoadamkmabkldaaGreatDoorJn31
set_option linter.unusedVariables false
set_option linter.unusedSimpArgs false
namespace Go.Proofs.YtoadamkmabkldaaGreatDoor
open Go.RowKit Go.Shelf
attribute [local go_sem ↓] Go.wp_at_zero Go.wp_at_succ
/-- The pager of a file whose page 0 tells h. -/
def pgO (h : HdP) : PgP := { pgR pg0 0 (padB (hdB h)) with now := h, last := h }
theorem pgO_row (h : HdP) : (pgO h).row = [0] ∧ (pgO h).ch = [] ∧ (pgO h).reads = 1 ∧ (pgO h).dead = false ∧ ∀ k, (pgO h).cv k = if k = 0 then padB (hdB h) else [] := ⟨rfl, rfl, rfl, rfl, fun k => rfl⟩
/-- What Open gives on a store that has pages. -/
def OoR (w W w' : World) (O : Nat → Prop) (f : Nat) (h : HdP) (S : FsP) (e : Ending) : Prop :=
  ∃ p O1 O2, e = .returned (.tuple #[.pointer (some ⟨p, 0, none⟩), .int .i64 0]) ∧ Pw w w' O1 O2 f p xS (pgO h) S ∧ (∀ i, O1 i → O i ∨ W.heap.size ≤ i) ∧ (∀ i, O2 i → W.heap.size ≤ i) ∧ Ch O W w'
set_option maxHeartbeats 2000000 in
theorem open_old (f M : Nat) (O : Nat → Prop) (S : FsP) (L : List (List UInt8)) (h : HdP) (w W : World) (hF : FsA W O f S) (hO : ∀ i, O i → w.heap.size ≤ i ∧ i < W.heap.size) (hb : Below w.heap.size w W) (hSt : St S xN L M) (hL : L[0]? = some (padB (hdB h))) (hok : h.Ok) (hst : S.stamp ≤ 1000000) :
    Calls Tryz.prog 11 #[.pointer (some ⟨f, 0, none⟩), .string xS] W fun e w' => OoR w W w' O f h S e := by
  have hlen := hSt.len
  have hL1 : 1 ≤ L.length := by have := (List.getElem?_eq_some_iff.1 hL).1; omega
  have t1 : thereP S (dbN xN) = (0, S) := by unfold thereP; rw [hlen.1]; rfl
  have t2 : thereP S (logN xN) = (0, S) := by unfold thereP; rw [hlen.2]; rfl
  obtain ⟨n, hn⟩ : ∃ n, 512 * L.length = n + 1 := ⟨512 * L.length - 1, by omega⟩
  refine (open_run f O S S S S 0 0 0 xS W (fun p m1 m2 O1 W1 k w' => k = 0 ∧ PgA w' (fun i => (i = p ∨ i = m1 ∨ i = m2) ∨ W1.heap.size ≤ i) f p xS (pgO h) ∧ FsA w' (fun i => O1 i ∧ i < W1.heap.size) f S ∧ (∀ i, O1 i → i ≠ p ∧ i ≠ m1 ∧ i ≠ m2) ∧ p < W1.heap.size ∧ m1 < W1.heap.size ∧ m2 < W1.heap.size ∧ W1.heap.size ≤ w'.heap.size) hF hSt.up (by decide) (by decide) hst hst t1 (fun _ => t2) ?_ ?_).mono ?_
  · intro _ _ W1 O1 p bp cs hF1 hK hbk
    refine (again_zero f p O1 S xS W1 hF1 hK.p0 hK.p1 (by decide) hlen.2).mono ?_
    rintro e w' ⟨rfl, q, rfl⟩
    exact ⟨rfl, (hF1.heap (W' := W1.drewN q) (fun _ _ _ => rfl)).mono (fun i hi _ => .inl hi), (Ch.refl _ _).drewN q⟩
  · intro _ _ _ W1 O1 p m1 m2 hM1 hF1 hne
    have hA : PgA W1 (fun i => i = p ∨ i = m1 ∨ i = m2) f p xS pg0 := ⟨m1, m2, _, _, _, hM1, fun i hi => by
      rcases hi with h | h | h | h | ⟨k, c, hk, _⟩ | ⟨k, hk, _⟩
      · exact .inl h
      · exact .inr (.inl h)
      · exact .inr (.inr h)
      · cases h
      · cases hk
      · cases hk⟩
    have hF2 := hF1.mono (O' := fun i => O1 i ∧ i < W1.heap.size) (fun i hi hl => ⟨hi, hl⟩)
    refine (first_old f p O1 _ S xS h n W1 hA hF1 (by decide) (by have := hlen.1; rw [hn] at this; exact this) hok (hSt.hold hL)).mono ?_
    rintro e w' ⟨rfl, h1, h2⟩
    refine ⟨0, rfl, ⟨rfl, h1, hF2.ch h2 (fun i hi e => ?_), hne, hM1.hd.lt, hM1.ch.lt, hM1.cl.lt, h2.size⟩, h2.mono (fun i e => .inr e)⟩
    obtain ⟨n1, n2, n3⟩ := hne i hi.1
    rcases e with e | e | e
    · exact n1 e
    · exact n2 e
    · exact n3 e
  · rintro e w' hR
    rcases hR with ⟨h, _⟩ | ⟨_, h, _⟩ | ⟨_, _, h, _⟩ | ⟨_, _, _, p, m1, m2, O1, W1, k, h1, h2, h3, h4, h5, rfl, ⟨hk, q1, q2, hne, z1, z2, z3, z4⟩, h6⟩
    · exact absurd rfl h
    · exact absurd rfl h
    · exact absurd rfl h
    subst hk
    have hzW := h5.size
    have hbW := hb.size
    refine ⟨p, fun i => O1 i ∧ i < W1.heap.size, fun i => ((i = p ∨ i = m1 ∨ i = m2) ∨ W1.heap.size ≤ i) ∧ i < w'.heap.size, by rw [if_pos rfl]; rfl, ⟨q2, q1.mono (fun i hi hl => ⟨hi, hl⟩), fun i hi => ⟨?_, by have := hi.2; omega⟩, fun i hi => ⟨?_, hi.2⟩, fun i hi e => ?_, hb.trans (h6.below hbW (fun i hi => (hO i hi).1))⟩, fun i hi => ?_, fun i hi => ?_, h6⟩
    · rcases h1 i hi.1 with h | h
      · exact (hO i h).1
      · omega
    · rcases hi.1 with (h | h | h) | h <;> omega
    · obtain ⟨n1, n2, n3⟩ := hne i hi.1
      rcases e.1 with (e | e | e) | e
      · exact n1 e
      · exact n2 e
      · exact n3 e
      · have := hi.2; omega
    · rcases h1 i hi.1 with h | h
      · exact .inl h
      · exact .inr h.1
    · rcases hi.1 with (h | h | h) | h <;> omega
end Go.Proofs.YtoadamkmabkldaaGreatDoor
/- Law 17: the example. -/
namespace Go.Proofs.YtoadamkmabkldaaGreatDoor
open Go.RowKit Go.Shelf
attribute [local go_sem ↓] Go.wp_at_zero Go.wp_at_succ
def hd2 : HdP := ⟨2, 0, List.replicate 8 0⟩
theorem hd2_ok : hd2.Ok := ⟨by decide, by decide, by decide, rfl, by decide⟩
def pgA : PgP := { pgN with now := { pgN.now with many := pgN.now.many + 1 }, ch := putK pgN.now.many (List.replicate 508 0) pgN.ch }
def pgW : PgP := { pgA with ch := putK 1 (padB [97]) pgA.ch }
theorem pgW_ch : pgW.ch = [(1, padB [97])] := rfl
theorem pgN_ok : pgN.Ok := ⟨List.Pairwise.nil, fun q hq => (by cases hq), List.nodup_nil, Nat.zero_le _, fun k hk => (by cases hk)⟩
theorem pgA_ok : pgA.Ok := pgN_ok.put (k := 1) (b := List.replicate 508 0) (by omega) (by omega) List.length_replicate _
theorem pgW_ok : pgW.Ok := pgA_ok.put (k := 1) (b := padB [97]) (by omega) (by omega) (padB_len _ (by decide)) _
theorem lN_len : lN.length = 1 := rfl
theorem bat_W : BatOk lN hd2 pgW.ch := ⟨rfl, by decide, by decide, by rw [pgW_ch]; exact List.pairwise_singleton _ _, fun q hq => by
    rw [pgW_ch] at hq
    simp at hq
    subst hq
    exact ⟨Nat.le_refl _, by decide, padB_len _ (by decide)⟩, by decide, fun k h1 h2 h3 => by
    have : k = 1 := by have h2 : k < 2 := h2; omega
    subst this
    rw [pgW_ch]; rfl⟩
theorem next_W0 : (nextL lN hd2 pgW.ch)[0]? = some (padB (hdB hd2)) := nextL_at _ _ _ (by decide)
theorem next_W1 : (nextL lN hd2 pgW.ch)[1]? = some (padB [97]) := nextL_at _ _ _ (by decide)
section
variable {w w1 : World} {O1 O2 : Nat → Prop} {f p : Nat} {S : FsP}
theorem wk_open (hF : Fs w.heap.size w1 f (newP 1000)) (hb : Below w.heap.size w w1) : Calls Tryz.prog 11 #[.pointer (some ⟨f, 0, none⟩), .string xS] w1 fun e w' => ∃ p O1 O2 S, e = .returned (.tuple #[.pointer (some ⟨p, 0, none⟩), .int .i64 0]) ∧ Hid (Pw w w' O1 O2 f p xS pgN S ∧ St S xN lN 1000 ∧ S.fuse = -1 ∧ S.stamp ≤ 40000) := by
  refine (open_new 1000 f _ w w1 hF (fun i hi => hi) hb).mono ?_
  rintro e w' (⟨_, p, O1, O2, S, h1, h2, h3, h4, h5, _⟩ | ⟨h1, _⟩)
  · exact ⟨p, O1, O2, S, h1, Lib.hid ⟨h2, h3, h4, h5⟩⟩
  · exact absurd h1 (by decide)
theorem wk_alloc (h : Pw w w1 O1 O2 f p xS pgN S) : Calls Tryz.prog 12 #[.pointer (some ⟨p, 0, none⟩)] w1 fun e w' => e = .returned (.tuple #[.int .i64 1, .int .i64 0]) ∧ PwX w w1 w' O1 O2 f p xS pgA S := by
  refine (alloc_at0 f p O2 xS pgN w1 h.pg pgN_ok rfl rfl (by decide)).mono ?_
  rintro e w' ⟨rfl, k1, k2⟩
  exact ⟨rfl, h.pager k1 k2⟩
theorem wk_write (h : Pw w w1 O1 O2 f p xS pgA S) : Calls Tryz.prog 13 #[.pointer (some ⟨p, 0, none⟩), .int .i64 1, .slice (some ⟨w1.heap.size, 0, none⟩) 1 1] (w1.alloc (.cells #[.int .u8 97] 5 (1, 2))) fun e w' => e = .returned (.int .i64 0) ∧ PwX w w1 w' O1 O2 f p xS pgW S := by
  have hb : Below w1.heap.size w1 (w1.alloc (.cells #[.int .u8 97] 5 (1, 2))) := (Below.refl _ _).alloc (Nat.le_refl _) _
  have hblk : (w1.alloc (.cells #[.int .u8 97] 5 (1, 2))).heap[w1.heap.size]? = some (.cells #[.int .u8 97] 5 (1, 2)) := by
    show (w1.heap.push _)[w1.heap.size]? = _
    rw [Array.getElem?_push, if_pos rfl]
  have h1 := pwrite_any f p 1 1 1 O2 xS pgA (some ⟨w1.heap.size, 0, none⟩) [97] (w1.alloc (.cells #[.int .u8 97] 5 (1, 2))) (h.pg.below hb) pgA_ok rfl (by omega) (by decide) (by decide) (rd_blk hblk rfl rfl) (.inr ⟨_, _, rfl⟩) (by omega)
  rw [show ((1 : Nat) : Int) = 1 from rfl] at h1
  refine h1.mono ?_
  rintro e w' ⟨rfl, k1, k2⟩
  have hc : Ch O2 w1 w' := ((Ch.refl O2 w1).alloc _).trans k2 (fun i e => .inl e)
  refine ⟨rfl, h.pager (k1.mono (fun i hi _ => ?_)) hc⟩
  rcases hi with e | e
  · exact .inl e
  · have : w1.heap.size + 1 ≤ i := by simpa using e
    exact .inr (by omega)
theorem wk_commit (h : Pw w w1 O1 O2 f p xS pgW S) (hS : St S xN lN 1000) (hfu : S.fuse = -1) (hst : S.stamp ≤ 40000) : Calls Tryz.prog 14 #[.pointer (some ⟨p, 0, none⟩)] w1 fun e w' => e = .returned (.int .i64 0) ∧ ∃ S2, FsA w' (fun i => w.heap.size ≤ i ∧ i < w'.heap.size) f S2 ∧ Below w.heap.size w w' ∧ St S2 xN (nextL lN hd2 pgW.ch) 1000 ∧ S2.stamp ≤ 1000000 := by
  obtain ⟨S', k1, k2, k3⟩ := com_ok (L := lN) (h := hd2) (ch := pgW.ch) hS hfu bat_W (by show 1 < 180; omega) (by show needC 2 2 512 ≤ 1000 - 8 * 1; decide) (by show 8 * 1 ≤ 1000; omega)
  have hst2 : S'.stamp ≤ 1000000 := by
    have h6 := runS_stamp 5000 (comSteps xN (walB (wls (batP hd2 pgW.ch))) (batP hd2 pgW.ch)) S (fun k hk S => comStep_stamp (by show 2 ≤ 4096; omega) hk S)
    have e : (comP xN (walB (wls (batP hd2 pgW.ch))) (batP hd2 pgW.ch) S).2 = S' := congrArg (·.2) k1
    unfold comP at e
    rw [e] at h6
    have h7 : (comSteps xN (walB (wls (batP hd2 pgW.ch))) (batP hd2 pgW.ch)).length = 6 := rfl
    rw [h7] at h6
    omega
  refine (commit_at f p O1 O2 S xS pgW w1 512 h.pg h.fs h.ne pgW_ok rfl (by decide) (by omega) (by show 1 < 180; omega) hS.up hS.len.1 (by omega) (by decide) rfl).mono ?_
  rintro e w' (⟨r1, _⟩ | ⟨_, ⟨r1, _⟩ | ⟨_, rc, S3, r2, r3, _⟩ | ⟨_, S3, r2, r3, r4, r5, r6⟩⟩)
  · cases r1
  · have hu : useP S.fs = 8 * 1 := hS.use
    have hm := hS.most
    have : S.most - useP S.fs < needC 2 2 512 := r1
    have h25 : needC 2 2 512 = 25 := by decide
    omega
  · have : (rc, S3) = (0, S') := r2.trans k1
    exact absurd (congrArg (·.1) this) r3
  · have e : S3 = S' := congrArg (·.2) (r2.trans k1)
    subst e
    have hz := h.bl.size
    refine ⟨r3, S3, r4.mono (fun i hi hl => ⟨?_, hl⟩), h.bel r6, k2, hst2⟩
    rcases hi with e | e
    · exact (h.l1 i e).1
    · omega
theorem wk_open2 {S2 : FsP} (hF : FsA w1 (fun i => w.heap.size ≤ i ∧ i < w1.heap.size) f S2) (hb : Below w.heap.size w w1) (hS : St S2 xN (nextL lN hd2 pgW.ch) 1000) (hst : S2.stamp ≤ 1000000) : Calls Tryz.prog 11 #[.pointer (some ⟨f, 0, none⟩), .string xS] w1 fun e w' => ∃ p O1 O2, e = .returned (.tuple #[.pointer (some ⟨p, 0, none⟩), .int .i64 0]) ∧ Hid (Pw w w' O1 O2 f p xS (pgO hd2) S2) := by
  refine (open_old f 1000 _ S2 _ hd2 w w1 hF (fun i hi => hi) hb hS next_W0 hd2_ok hst).mono ?_
  rintro e w' ⟨p, O1, O2, h1, h2, _⟩
  exact ⟨p, O1, O2, h1, Lib.hid h2⟩
theorem pgO_ok (h : HdP) : (pgO h).Ok := by
  have := pgR_ok (pg0_ok hd0) (no := 0) (padB (hdB h)) (by omega)
  exact ⟨this.srt, this.chb, this.nd, this.rl, this.rk⟩
theorem wk_read {S2 : FsP} (h : Pw w w1 O1 O2 f p xS (pgO hd2) S2) (hS : St S2 xN (nextL lN hd2 pgW.ch) 1000) : Calls Tryz.prog 16 #[.pointer (some ⟨p, 0, none⟩), .int .i64 1] w1 fun e w' => ∃ g c, e = .returned (.tuple #[.slice (some ⟨g, 0, none⟩) 508 c, .int .i64 0]) ∧ w'.cell? ⟨g, 0, none⟩ = some (.int .u8 97) ∧ Hid (Below w.heap.size w w') := by
  have h1 := pread_any f p 1 O1 O2 S2 xS (pgO hd2) (padB [97]) w1 h.pg h.fs (by decide) (pgO_ok hd2) rfl (by omega) (by decide) (by decide) (by decide) (fun _ _ => hS.hold next_W1) (padB_len _ (by decide))
  rw [show ((1 : Nat) : Int) = 1 from rfl] at h1
  refine h1.mono ?_
  rintro e w' ⟨A, c, B, rfl, h2, h3, h4, h5⟩
  obtain ⟨g, c', hv, _, _, _⟩ := own_pos h3 (by omega)
  injection hv with hA _ _
  subst hA
  have hcell := h3.cells (g := g) rfl 0 (.int .u8 97) rfl
  rw [addLit] at hcell
  exact ⟨g, c, rfl, hcell, Lib.hid (h.bel (h5.mono (fun i e => .inr e)))⟩
end
set_option maxHeartbeats 4000000 in
set_option maxRecDepth 100000 in
theorem pwakes_any (w : World) : Calls Tryz.prog 9 #[] w fun e w' => e = .returned (.bool true) ∧ Below w.heap.size w w' := by
  have HN := Lib.hid (new_fs 1000 w)
  go_enter Tryz.func9, Tryz.ntmps9
  go_wp2_with fail
  with_reducible refine HN.out.mono ?_
  rintro e w1 ⟨f, rfl, h1, b1⟩
  have HO := Lib.hid (wk_open h1 b1)
  clear h1 b1
  go_wp2_with fail
  with_reducible refine HO.out.mono ?_
  rintro e w2 ⟨p, O1, O2, S, rfl, H2⟩
  have HA := Lib.hid (wk_alloc H2.out.1)
  go_wp2_with fail
  with_reducible refine HA.out.mono ?_
  rintro e w3 ⟨rfl, O3, O4, h3, _⟩
  have HW := Lib.hid (wk_write h3)
  clear h3
  have kc := fun (w : World) (C : Array Value) (n c : Nat) => Lib.run_convert_bytes_const (P := Tryz.prog) w 22 5 C n c Tryz.underlying22 Tryz.underlying5
  go_wp2_with fail
  with_reducible refine HW.out.mono ?_
  rintro e w4 ⟨rfl, O5, O6, h4, _⟩
  have HC := Lib.hid (wk_commit h4 H2.out.2.1 H2.out.2.2.1 H2.out.2.2.2)
  clear h4
  go_wp2_with fail
  with_reducible refine HC.out.mono ?_
  rintro e w5 ⟨rfl, S2, k1, k2, k3, k4⟩
  have HO2 := Lib.hid (wk_open2 k1 k2 k3 k4)
  have K3 := Lib.hid k3
  clear k1 k2 k3 k4
  go_wp2_with fail
  with_reducible refine HO2.out.mono ?_
  rintro e w6 ⟨q, O7, O8, rfl, H6⟩
  have HR := Lib.hid (wk_read H6.out K3.out)
  go_wp2_with fail
  with_reducible refine HR.out.mono ?_
  rintro e w7 ⟨g, c, rfl, hcell, H7⟩
  go_wp2_with fail
  go_ret
  exact ⟨rfl, H7.out⟩
end Go.Proofs.YtoadamkmabkldaaGreatDoor
/- The document's pages in memory: what they are; full, New, Is. -/
namespace Go.Proofs.YtoadamkmabkldaaGreatDoor
open Go.RowKit Go.Shelf
attribute [local go_sem ↓] Go.wp_at_zero Go.wp_at_succ
/-- The document's pages in memory. -/
structure RfM (W : World) (s : Nat) (st : StP) (vL vF vR : Value) (cs : List Value) (t : Nat → SlT) : Prop where
  hd : Bk W s 78 #[vL, vF, vR]
  L : W.ownsRow 0 22 1 vL st.L.length cs
  R : W.ownsRow 0 3 1 vR st.roots.length (its (natI st.roots))
  F : QuN W 0 vF st.free
  rows : ∀ k b, 1 ≤ k → st.L[k]? = some b → cs[k]? = some (slV (t k)) ∧ PgB W (t k) b
  Fi : ∀ i, vF.ownBlock = some i → ∃ cs, Bk W i 3 cs
  one : ∀ u ∈ cs, u.oneCell' = true
/-- The blocks that are written, and those that are not. -/
def RfMut (s : Nat) (vL vR : Value) (i : Nat) : Prop := i = s ∨ vL.ownBlock = some i ∨ vR.ownBlock = some i
def RfImm (st : StP) (vF : Value) (t : Nat → SlT) (i : Nat) : Prop := vF.ownBlock = some i ∨ ∃ k b, 1 ≤ k ∧ st.L[k]? = some b ∧ i = (t k).1
/-- .. its blocks told: those that may be written are O's, the others K's. -/
def RfA (W : World) (O K : Nat → Prop) (s : Nat) (st : StP) : Prop := ∃ vL vF vR cs t, RfM W s st vL vF vR cs t ∧ (∀ i, RfMut s vL vR i → O i) ∧ ∀ i, RfImm st vF t i → K i
section
variable {W W' : World} {O O' K K' : Nat → Prop} {s : Nat} {st : StP} {vL vF vR : Value} {cs : List Value} {t : Nat → SlT}
theorem RfM.lt (h : RfM W s st vL vF vR cs t) : ∀ i, RfMut s vL vR i ∨ RfImm st vF t i → i < W.heap.size := by
  rintro i ((rfl | e | e) | (e | ⟨k, b, h1, h2, rfl⟩))
  · exact h.hd.lt
  · exact (h.L.lt i e).2
  · exact (h.R.lt i e).2
  · exact h.F.lt i e
  · exact (h.rows k b h1 h2).2.lt
theorem own_same {W W' : World} {base n : Nat} {e : TypeId} {v : Value} {xs : List Value} (h : W.ownsRow base e 1 v n xs) (hk : ∀ i, v.ownBlock = some i → W'.heap[i]? = W.heap[i]?) : W'.ownsRow base e 1 v n xs := by
  refine ⟨h.1, ?_⟩
  rcases h.2 with h2 | ⟨g, cap, cur, rfl, h3, h4, h5⟩
  · exact .inl h2
  · exact .inr ⟨g, cap, cur, rfl, h3, (hk g rfl).trans h4, h5⟩
theorem RfM.heap (h : RfM W s st vL vF vR cs t) (hz : W.heap.size ≤ W'.heap.size) (hk : ∀ i, RfMut s vL vR i ∨ RfImm st vF t i → W'.heap[i]? = W.heap[i]?) : RfM W' s st vL vF vR cs t :=
  ⟨(hk s (.inl (.inl rfl))).trans h.hd, own_same h.L (fun i e => hk i (.inl (.inr (.inl e)))), own_same h.R (fun i e => hk i (.inl (.inr (.inr e)))), h.F.heap hz (fun i e _ => hk i (.inr (.inl e))), fun k b h1 h2 => ⟨(h.rows k b h1 h2).1, (h.rows k b h1 h2).2.heap (hk _ (.inr (.inr ⟨k, b, h1, h2, rfl⟩)))⟩, fun i e => by
    obtain ⟨cs, hb⟩ := h.Fi i e
    exact ⟨cs, (hk i (.inr (.inl e))).trans hb⟩, h.one⟩
theorem RfA.heap (h : RfA W O K s st) (hz : W.heap.size ≤ W'.heap.size) (hk : ∀ i, O i ∨ K i → i < W.heap.size → W'.heap[i]? = W.heap[i]?) : RfA W' O K s st := by
  obtain ⟨vL, vF, vR, cs, t, h1, h2, h3⟩ := h
  exact ⟨vL, vF, vR, cs, t, h1.heap hz (fun i hi => hk i (hi.imp (h2 i) (h3 i)) (h1.lt i hi)), h2, h3⟩
theorem RfA.mono (h : RfA W O K s st) (hO : ∀ i, O i → i < W.heap.size → O' i) (hK : ∀ i, K i → i < W.heap.size → K' i) : RfA W O' K' s st := by
  obtain ⟨vL, vF, vR, cs, t, h1, h2, h3⟩ := h
  exact ⟨vL, vF, vR, cs, t, h1, fun i hi => hO i (h2 i hi) (h1.lt i (.inl hi)), fun i hi => hK i (h3 i hi) (h1.lt i (.inr hi))⟩
theorem RfA.below (h : RfA W O K s st) (hb : Below W.heap.size W W') : RfA W' O K s st := h.heap hb.size (fun i _ hi => hb.block i hi)
theorem RfA.ch {T : Nat → Prop} (h : RfA W O K s st) (hc : Ch T W W') (hO : ∀ i, O i → ¬ T i) (hK : ∀ i, K i → ¬ T i) : RfA W' O K s st :=
  h.heap hc.size (fun i hi hl => hc.block i hl (by
    rcases hi with hi | hi
    · exact hO i hi
    · exact hK i hi))
end
theorem full_any (A : Option Addr) (n c : Nat) (b : List UInt8) (w : World) (hr : Rd w w.heap.size 1 A n (bys b)) (hn : n ≤ 508) :
    Calls Tryz.prog 82 #[.slice A n c] w fun e w' => ∃ g k, e = .returned (.slice (some ⟨g, 0, none⟩) 508 k) ∧ Hid (PgB w' (g, 508, k) (padB b) ∧ w.heap.size ≤ g ∧ Below w.heap.size w w') := by
  have hlen := hr.blen
  have HR := Lib.hid (And.intro hr hlen)
  clear hr hlen
  go_enter Tryz.func82, Tryz.ntmps82
  go_wp2_with (with_reducible refine at_append ?_; go_loud ((apply ap_bys (c := c) (base := w.heap.size) (w0 := w) (own_nilB w w.heap.size _) HR.out.1 (Below.refl _ _) (Nat.le_refl _) (by omega)); (case hs => kernel_rfl); (case hx => kernel_rfl); (case hw => kernel_rfl); intro v2 w2 h2 b2 _ _; rw [Nat.zero_add, List.nil_append] at h2; obtain ⟨A2, c2, hv2, _, _⟩ := own_form h2; subst hv2; replace h2 := Lib.hid (And.intro h2 b2); clear b2; try go_frame))
  go_loopw [3] (fun s3 wr => ∃ (A : Option Addr) (c m : Nat), s3 = .slice A m c ∧ n ≤ m ∧ m ≤ 508 ∧ Hid (wr.ownsRow w.heap.size 5 1 (.slice A m c) m (bys (b ++ List.replicate (m - n) 0)) ∧ Below w.heap.size w wr)) (fun s3 _ => 508 - slLen s3)
  case atStart => exact ⟨A2, c2, n, rfl, Nat.le_refl _, hn, Lib.hid (by rw [Nat.sub_self, List.replicate_zero, List.append_nil]; exact h2.out)⟩
  case round =>
    obtain ⟨A3, c3, m, rfl, h1, h2, HI⟩ := hrel
    by_cases hm : m < 508
    · have hm2 : (m : Int) < 508 := by omega
      have HO := Lib.hid (And.intro (HI.out.1.alloc (.cells #[.int .u8 0] 5)) (Rd.oneB wr 5 (u := 0) (x := 0) rfl))
      have HB := Lib.hid (HI.out.2.alloc HI.out.2.size (.cells #[.int .u8 0] 5))
      have HZ := Lib.hid HI.out.2.size
      go_wp2_with (with_reducible refine at_append ?_; go_loud ((apply ap_bys (c := 1) (base := w.heap.size) (w0 := w) HO.out.1 HO.out.2 HB.out (by have := HZ.out; simp; omega) (by omega)); (case hs => kernel_rfl); (case hx => kernel_rfl); (case hw => kernel_rfl); intro v4 w4 h4 b4 _ _; obtain ⟨A4, c4, hv4, _, _⟩ := own_form h4; subst hv4; replace h4 := Lib.hid (And.intro h4 b4); clear b4; try go_frame))
      go_roundw
      case rel =>
        have e : b ++ List.replicate (m - n) 0 ++ [0] = b ++ List.replicate (m + 1 - n) 0 := by rw [List.append_assoc, show m + 1 - n = (m - n) + 1 by omega, List.replicate_succ']
        rw [e] at h4
        first | exact ⟨A4, c4, m + 1, rfl, by omega, by omega, h4⟩ | ((repeat apply Exists.intro); exact ⟨⟨A4, c4, m + 1, rfl, by omega, by omega, h4⟩, rfl⟩)
      case measure => simp [slLen]; omega
    · obtain rfl : m = 508 := by omega
      go_wp2_with fail
      go_ret
      have hp : b ++ List.replicate (508 - n) 0 = padB b := by unfold padB; rw [HR.out.2]
      have ho := HI.out.1
      rw [hp] at ho
      obtain ⟨g, rfl, hg, hP⟩ := PgB.of_own ho (by omega)
      exact ⟨g, c3, rfl, Lib.hid ⟨hP, hg, HI.out.2⟩⟩
end Go.Proofs.YtoadamkmabkldaaGreatDoor
/- The document's pages in memory: New, Copy. -/
namespace Go.Proofs.YtoadamkmabkldaaGreatDoor
open Go.RowKit Go.Shelf
attribute [local go_sem ↓] Go.wp_at_zero Go.wp_at_succ
/-- append, as a step of a region that draws its order. -/
theorem step_ap {P : Program} {w : World} {ops : Array Oper} {o : Oper} {a : Act} {K : Act → World → Prop} {Q : Exit → Act → World → Prop} {E : Prop} (hgd : o.guard = none) (s x : Operand) (t : TypeId)
    (ho : o.op = .call { callee := .builtin .append, args := #[s, x], argTypes := #[t, t] })
    {base e size bytes : Nat} {i : TypeInfo} {z : Value} (ht : P.underlying t = some (.slice e)) (hi : P.info? e = some i) (hz : i.zero = some z)
    (hsize : i.size = size) (hby : i.bytes = bytes) (hzs : z.cells.size = size) (hsz : 0 < size)
    {v : Value} {n : Nat} {xs : List Value} (hown : w.ownsRow base e size v n xs)
    {B : Nat} {A : Option Addr} {m c : Nat} {news : List Value} (hr : Rd w B size A m news) (h1 : ∀ u ∈ news, u.oneCell' = true)
    (hbase : base ≤ w.heap.size) (hbytes : (n + m) * bytes ≤ 140737488355328 ∧ n + m ≤ 140737488355328)
    (hs : a.eval s = v) (hx : a.eval x = .slice A m c)
    (h : ∀ v' w', w'.ownsRow base e size v' (n + m) (xs ++ news) → w.grownBy w' v.ownBlock → (v'.ownBlock = v.ownBlock ∨ v'.ownBlock = some w.heap.size) → K (a.put o.dst v') w') :
    if Region.wanted o (yielded ops a.tmps) = true then Oper.wp P o a w K Q else E := by
  have hw : Region.wanted o (yielded ops a.tmps) = true := by simp [Region.wanted, hgd]
  rw [if_pos hw]
  obtain ⟨v', w', hrun, h2, h3, h4⟩ := run_append_rd (P := P) w base t o.type e i z size bytes ht hi hz hsize hby hzs hsz v n xs hown B A m c news hr h1 (by unfold maxLen; omega) hbytes.1 hbase
  unfold Oper.wp
  simp [execOp, ho, resolve, invoke, builtin, hs, hx, hrun, Result.andThen]
  exact h v' w' h2 h3 h4
theorem infoSS : (Tryz.prog.info? 22).map (fun i => (i.zero, i.size, i.bytes)) = some (some (.slice none 0 0), 1, 24) := by kernel_rfl
/-- .. at this program's types. -/
theorem step_apS {w : World} {ops : Array Oper} {o : Oper} {a : Act} {K : Act → World → Prop} {Q : Exit → Act → World → Prop} {E : Prop} (hgd : o.guard = none) (s x : Operand)
    (ho : o.op = .call { callee := .builtin .append, args := #[s, x], argTypes := #[76, 76] }) {base : Nat}
    {v : Value} {n : Nat} {xs : List Value} (hown : w.ownsRow base 22 1 v n xs) {B : Nat} {A : Option Addr} {m c : Nat} {news : List Value} (hr : Rd w B 1 A m news) (h1 : ∀ u ∈ news, u.oneCell' = true)
    (hbase : base ≤ w.heap.size) (hbytes : n + m ≤ 1000000) (hs : a.eval s = v) (hx : a.eval x = .slice A m c)
    (h : ∀ v' w', w'.ownsRow base 22 1 v' (n + m) (xs ++ news) → w.grownBy w' v.ownBlock → (v'.ownBlock = v.ownBlock ∨ v'.ownBlock = some w.heap.size) → K (a.put o.dst v') w') :
    if Region.wanted o (yielded ops a.tmps) = true then Oper.wp Tryz.prog o a w K Q else E := by
  obtain ⟨i0, hi, hz0, hz1, hz2⟩ := info_parts infoSS
  exact step_ap hgd s x _ ho Tryz.underlying76 hi hz0 hz1 hz2 rfl (by decide) hown hr h1 hbase (by omega) hs hx h
/-- .. at this program's types. -/
theorem step_apI {w : World} {ops : Array Oper} {o : Oper} {a : Act} {K : Act → World → Prop} {Q : Exit → Act → World → Prop} {E : Prop} (hgd : o.guard = none) (s x : Operand)
    (ho : o.op = .call { callee := .builtin .append, args := #[s, x], argTypes := #[39, 39] }) {base : Nat}
    {v : Value} {n : Nat} {xs : List Value} (hown : w.ownsRow base 3 1 v n xs) {B : Nat} {A : Option Addr} {m c : Nat} {news : List Value} (hr : Rd w B 1 A m news) (h1 : ∀ u ∈ news, u.oneCell' = true)
    (hbase : base ≤ w.heap.size) (hbytes : n + m ≤ 1000000) (hs : a.eval s = v) (hx : a.eval x = .slice A m c)
    (h : ∀ v' w', w'.ownsRow base 3 1 v' (n + m) (xs ++ news) → w.grownBy w' v.ownBlock → (v'.ownBlock = v.ownBlock ∨ v'.ownBlock = some w.heap.size) → K (a.put o.dst v') w') :
    if Region.wanted o (yielded ops a.tmps) = true then Oper.wp Tryz.prog o a w K Q else E := by
  obtain ⟨i0, hi, hz0, hz1, hz2⟩ := info_parts infoI
  exact step_ap hgd s x _ ho Tryz.underlying39 hi hz0 hz1 hz2 rfl (by decide) hown hr h1 hbase (by omega) hs hx h
/-- What New has made. -/
theorem new_mem {w W : World} {s lb rb : Nat} {CL CR : Array Value} (hs : Bk W s 78 #[.slice (some ⟨lb, 0, none⟩) 1 1, .slice none 0 0, .slice (some ⟨rb, 0, none⟩) 8 8]) (hl : Bk W lb 22 CL) (hr : Bk W rb 3 CR)
    (hCL : CL = #[.slice none 0 0]) (hCR : CR = #[.int .i64 0, .int .i64 0, .int .i64 0, .int .i64 0, .int .i64 0, .int .i64 0, .int .i64 0, .int .i64 0]) (z1 : w.heap.size ≤ s) (z2 : w.heap.size ≤ lb) (z3 : w.heap.size ≤ rb) : RfA W (fun i => w.heap.size ≤ i) (fun _ => False) s newS := by
  subst hCL hCR
  refine ⟨_, _, _, [.slice none 0 0], fun _ => (0, 0, 0), ⟨hs, ⟨rfl, .inr ⟨lb, 1, _, rfl, Nat.zero_le _, hl, by decide, by decide, by decide, rfl⟩⟩, ⟨rfl, .inr ⟨rb, 8, _, rfl, Nat.zero_le _, hr, by decide, by decide, by decide, rfl⟩⟩, .inl ⟨rfl, rfl⟩, fun k b h1 h2 => ?_, (fun i h => by cases h), fun u hu => (by simp at hu; subst hu; rfl)⟩, fun i h => ?_, fun i h => ?_⟩
  · have : k < 1 := (List.getElem?_eq_some_iff.1 h2).1
    omega
  · rcases h with rfl | h | h
    · exact z1
    · have : lb = i := by simpa [Value.ownBlock] using h
      omega
    · have : rb = i := by simpa [Value.ownBlock] using h
      omega
  · rcases h with h | ⟨k, b, h1, h2, _⟩
    · cases h
    · have : k < 1 := (List.getElem?_eq_some_iff.1 h2).1
      omega
theorem new_any17 (w : World) : Calls Tryz.prog 19 #[] w fun e w' => ∃ s, e = .returned (.pointer (some ⟨s, 0, none⟩)) ∧ Hid (RfA w' (fun i => w.heap.size ≤ i) (fun _ => False) s newS ∧ Below w.heap.size w w') := by
  have mkL : ∀ W : World, (Instr.makeSlice 76 (.int .i64 1) (.int .i64 1)).run Tryz.prog W = .ok (.slice (some ⟨W.heap.size, 0, none⟩) 1 1) (W.alloc (.cells #[.slice none 0 0] 22)) := fun W => by kernel_rfl
  have mkR : ∀ W : World, (Instr.makeSlice 39 (.int .i64 8) (.int .i64 8)).run Tryz.prog W = .ok (.slice (some ⟨W.heap.size, 0, none⟩) 8 8) (W.alloc (.cells #[.int .i64 0, .int .i64 0, .int .i64 0, .int .i64 0, .int .i64 0, .int .i64 0, .int .i64 0, .int .i64 0] 3)) := fun W => by kernel_rfl
  go_enter Tryz.func19, Tryz.ntmps19
  go_wp2_with fail
  go_region_with (fail)
  all_goals go_wp2_with fail
  all_goals go_ret
  · refine ⟨_, rfl, Lib.hid ⟨new_mem (lb := w.heap.size) (rb := w.heap.size + 1) (Bk.new' _ _ _ (by simp)).drew (((Bk.new w _ _).alloc _).alloc _).drew ((Bk.new' (w.alloc _) _ _ (by simp)).alloc _).drew rfl rfl (by omega) (by omega) (by omega), ((((Below.refl _ w).alloc (Nat.le_refl _) _).alloc (by simp) _).alloc (by simp; omega) _).drew⟩⟩
  · refine ⟨_, rfl, Lib.hid ⟨new_mem (lb := w.heap.size + 1) (rb := w.heap.size) (Bk.new' _ _ _ (by simp)).drew ((Bk.new' (w.alloc _) _ _ (by simp)).alloc _).drew (((Bk.new w _ _).alloc _).alloc _).drew rfl rfl (by omega) (by omega) (by omega), ((((Below.refl _ w).alloc (Nat.le_refl _) _).alloc (by simp) _).alloc (by simp; omega) _).drew⟩⟩
theorem QuN.rd {W : World} {A : Option Addr} {n c : Nat} {q : List Nat} (h : QuN W 0 (.slice A n c) q) : Rd W W.heap.size 1 A n (its (natI q)) ∧ n = q.length ∧ n ≤ c ∧ c ≤ maxLen := by
  rcases h with ⟨hv, rfl⟩ | ⟨A', n', c', hv, hl, hn, hnc, hc, hh⟩
  · injection hv with e1 e2 e3
    subst e1 e2 e3
    exact ⟨Rd.nil_, rfl, Nat.le_refl _, Nat.zero_le _⟩
  · injection hv with e1 e2 e3
    subst e1 e2 e3
    refine ⟨⟨by rw [Nat.mul_one]; simp [its, natI, hn], fun h0 => ?_⟩, hn.symm, hnc, hc⟩
    rcases hh with rfl | ⟨g, o, cs, rfl, _, hb, _, ht⟩
    · omega
    · refine ⟨g, o, rfl, hb.lt, fun j u hj => ?_⟩
      have hjl : j < n := by
        have := (List.getElem?_eq_some_iff.1 hj).1
        simp [its, natI] at this; omega
      have h1 : ((cs.toList.drop o).take n)[j]? = (nIt q)[j]? := by rw [ht]
      rw [List.getElem?_take, if_pos hjl, List.getElem?_drop, Array.getElem?_toList] at h1
      rw [hb.cell, h1]
      exact hj
end Go.Proofs.YtoadamkmabkldaaGreatDoor
