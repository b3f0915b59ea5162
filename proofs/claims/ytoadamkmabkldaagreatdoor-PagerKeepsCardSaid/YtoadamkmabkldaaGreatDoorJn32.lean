/- A pager opened on a file that is there. -/
import Derived.Test.YtoadamkmabkldaaGreatDoorJn31
namespace Go.Proofs.YtoadamkmabkldaaGreatDoor
open Go.RowKit Go.Shelf
attribute [local go_sem ↓] Go.wp_at_zero Go.wp_at_succ
/-- The pager of a file whose page 0 tells h. -/
def pgO (h : HdP) : PgP := { pgR pg0 0 (padB (hdB h)) with now := h, last := h }
theorem pgO_row (h : HdP) : (pgO h).row = [0] ∧ (pgO h).ch = [] ∧ (pgO h).reads = 1 ∧ (pgO h).dead = false ∧ ∀ k, (pgO h).cv k = if k = 0 then padB (hdB h) else [] := ⟨rfl, rfl, rfl, rfl, fun k => rfl⟩
/-- What Open gives on a store that has pages. -/
def OoR (w W w' : World) (O : Nat → Prop) (f : Nat) (h : HdP) (S : FsP) (e : Ending) : Prop :=
  ∃ p O1 O2, e = .returned (.tuple #[.pointer (some ⟨p, 0, none⟩), .int .i64 0]) ∧ Pw w w' O1 O2 f p xS (pgO h) S ∧ (∀ i, O1 i → O i ∨ W.heap.size ≤ i) ∧ (∀ i, O2 i → W.heap.size ≤ i) ∧ Ch O W w'
set_option maxHeartbeats 2000000 in
theorem open_old (f M : Nat) (O : Nat → Prop) (S : FsP) (L : List (List UInt8)) (h : HdP) (w W : World) (hF : FsA W O f S) (hO : ∀ i, O i → w.heap.size ≤ i ∧ i < W.heap.size) (hb : Below w.heap.size w W) (hSt : St S xN L M) (hL : L[0]? = some (padB (hdB h))) (hok : h.Ok) (hst : S.stamp ≤ 1000000) :
    Calls Tryz.prog 11 #[.pointer (some ⟨f, 0, none⟩), .string xS] W fun e w' => OoR w W w' O f h S e := by
  have hlen := hSt.len
  have hL1 : 1 ≤ L.length := by have := (List.getElem?_eq_some_iff.1 hL).1; omega
  have t1 : thereP S (dbN xN) = (0, S) := by unfold thereP; rw [hlen.1]; rfl
  have t2 : thereP S (logN xN) = (0, S) := by unfold thereP; rw [hlen.2]; rfl
  obtain ⟨n, hn⟩ : ∃ n, 512 * L.length = n + 1 := ⟨512 * L.length - 1, by omega⟩
  refine (open_run f O S S S S 0 0 0 xS W (fun p m1 m2 O1 W1 k w' => k = 0 ∧ PgA w' (fun i => (i = p ∨ i = m1 ∨ i = m2) ∨ W1.heap.size ≤ i) f p xS (pgO h) ∧ FsA w' (fun i => O1 i ∧ i < W1.heap.size) f S ∧ (∀ i, O1 i → i ≠ p ∧ i ≠ m1 ∧ i ≠ m2) ∧ p < W1.heap.size ∧ m1 < W1.heap.size ∧ m2 < W1.heap.size ∧ W1.heap.size ≤ w'.heap.size) hF hSt.up (by decide) (by decide) hst hst t1 (fun _ => t2) ?_ ?_).mono ?_
  · intro _ _ W1 O1 p bp cs hF1 hK hbk
    refine (again_zero f p O1 S xS W1 hF1 hK.p0 hK.p1 (by decide) hlen.2).mono ?_
    rintro e w' ⟨rfl, q, rfl⟩
    exact ⟨rfl, (hF1.heap (W' := W1.drewN q) (fun _ _ _ => rfl)).mono (fun i hi _ => .inl hi), (Ch.refl _ _).drewN q⟩
  · intro _ _ _ W1 O1 p m1 m2 hM1 hF1 hne
    have hA : PgA W1 (fun i => i = p ∨ i = m1 ∨ i = m2) f p xS pg0 := ⟨m1, m2, _, _, _, hM1, fun i hi => by
      rcases hi with h | h | h | h | ⟨k, c, hk, _⟩ | ⟨k, hk, _⟩
      · exact .inl h
      · exact .inr (.inl h)
      · exact .inr (.inr h)
      · cases h
      · cases hk
      · cases hk⟩
    have hF2 := hF1.mono (O' := fun i => O1 i ∧ i < W1.heap.size) (fun i hi hl => ⟨hi, hl⟩)
    refine (first_old f p O1 _ S xS h n W1 hA hF1 (by decide) (by have := hlen.1; rw [hn] at this; exact this) hok (hSt.hold hL)).mono ?_
    rintro e w' ⟨rfl, h1, h2⟩
    refine ⟨0, rfl, ⟨rfl, h1, hF2.ch h2 (fun i hi e => ?_), hne, hM1.hd.lt, hM1.ch.lt, hM1.cl.lt, h2.size⟩, h2.mono (fun i e => .inr e)⟩
    obtain ⟨n1, n2, n3⟩ := hne i hi.1
    rcases e with e | e | e
    · exact n1 e
    · exact n2 e
    · exact n3 e
  · rintro e w' hR
    rcases hR with ⟨h, _⟩ | ⟨_, h, _⟩ | ⟨_, _, h, _⟩ | ⟨_, _, _, p, m1, m2, O1, W1, k, h1, h2, h3, h4, h5, rfl, ⟨hk, q1, q2, hne, z1, z2, z3, z4⟩, h6⟩
    · exact absurd rfl h
    · exact absurd rfl h
    · exact absurd rfl h
    subst hk
    have hzW := h5.size
    have hbW := hb.size
    refine ⟨p, fun i => O1 i ∧ i < W1.heap.size, fun i => ((i = p ∨ i = m1 ∨ i = m2) ∨ W1.heap.size ≤ i) ∧ i < w'.heap.size, by rw [if_pos rfl]; rfl, ⟨q2, q1.mono (fun i hi hl => ⟨hi, hl⟩), fun i hi => ⟨?_, by have := hi.2; omega⟩, fun i hi => ⟨?_, hi.2⟩, fun i hi e => ?_, hb.trans (h6.below hbW (fun i hi => (hO i hi).1))⟩, fun i hi => ?_, fun i hi => ?_, h6⟩
    · rcases h1 i hi.1 with h | h
      · exact (hO i h).1
      · omega
    · rcases hi.1 with (h | h | h) | h <;> omega
    · obtain ⟨n1, n2, n3⟩ := hne i hi.1
      rcases e.1 with (e | e | e) | e
      · exact n1 e
      · exact n2 e
      · exact n3 e
      · have := hi.2; omega
    · rcases h1 i hi.1 with h | h
      · exact .inl h
      · exact .inr h.1
    · rcases hi.1 with (h | h | h) | h <;> omega
end Go.Proofs.YtoadamkmabkldaaGreatDoor
/- Law 17: the example. -/
namespace Go.Proofs.YtoadamkmabkldaaGreatDoor
open Go.RowKit Go.Shelf
attribute [local go_sem ↓] Go.wp_at_zero Go.wp_at_succ
def hd2 : HdP := ⟨2, 0, List.replicate 8 0⟩
theorem hd2_ok : hd2.Ok := ⟨by decide, by decide, by decide, rfl, by decide⟩
def pgA : PgP := { pgN with now := { pgN.now with many := pgN.now.many + 1 }, ch := putK pgN.now.many (List.replicate 508 0) pgN.ch }
def pgW : PgP := { pgA with ch := putK 1 (padB [97]) pgA.ch }
theorem pgW_ch : pgW.ch = [(1, padB [97])] := rfl
theorem pgN_ok : pgN.Ok := ⟨List.Pairwise.nil, fun q hq => (by cases hq), List.nodup_nil, Nat.zero_le _, fun k hk => (by cases hk)⟩
theorem pgA_ok : pgA.Ok := pgN_ok.put (k := 1) (b := List.replicate 508 0) (by omega) (by omega) List.length_replicate _
theorem pgW_ok : pgW.Ok := pgA_ok.put (k := 1) (b := padB [97]) (by omega) (by omega) (padB_len _ (by decide)) _
theorem lN_len : lN.length = 1 := rfl
theorem bat_W : BatOk lN hd2 pgW.ch := ⟨rfl, by decide, by decide, by rw [pgW_ch]; exact List.pairwise_singleton _ _, fun q hq => by
    rw [pgW_ch] at hq
    simp at hq
    subst hq
    exact ⟨Nat.le_refl _, by decide, padB_len _ (by decide)⟩, by decide, fun k h1 h2 h3 => by
    have : k = 1 := by have h2 : k < 2 := h2; omega
    subst this
    rw [pgW_ch]; rfl⟩
theorem next_W0 : (nextL lN hd2 pgW.ch)[0]? = some (padB (hdB hd2)) := nextL_at _ _ _ (by decide)
theorem next_W1 : (nextL lN hd2 pgW.ch)[1]? = some (padB [97]) := nextL_at _ _ _ (by decide)
section
variable {w w1 : World} {O1 O2 : Nat → Prop} {f p : Nat} {S : FsP}
theorem wk_open (hF : Fs w.heap.size w1 f (newP 1000)) (hb : Below w.heap.size w w1) : Calls Tryz.prog 11 #[.pointer (some ⟨f, 0, none⟩), .string xS] w1 fun e w' => ∃ p O1 O2 S, e = .returned (.tuple #[.pointer (some ⟨p, 0, none⟩), .int .i64 0]) ∧ Hid (Pw w w' O1 O2 f p xS pgN S ∧ St S xN lN 1000 ∧ S.fuse = -1 ∧ S.stamp ≤ 40000) := by
  refine (open_new 1000 f _ w w1 hF (fun i hi => hi) hb).mono ?_
  rintro e w' (⟨_, p, O1, O2, S, h1, h2, h3, h4, h5, _⟩ | ⟨h1, _⟩)
  · exact ⟨p, O1, O2, S, h1, Lib.hid ⟨h2, h3, h4, h5⟩⟩
  · exact absurd h1 (by decide)
theorem wk_alloc (h : Pw w w1 O1 O2 f p xS pgN S) : Calls Tryz.prog 12 #[.pointer (some ⟨p, 0, none⟩)] w1 fun e w' => e = .returned (.tuple #[.int .i64 1, .int .i64 0]) ∧ PwX w w1 w' O1 O2 f p xS pgA S := by
  refine (alloc_at0 f p O2 xS pgN w1 h.pg pgN_ok rfl rfl (by decide)).mono ?_
  rintro e w' ⟨rfl, k1, k2⟩
  exact ⟨rfl, h.pager k1 k2⟩
theorem wk_write (h : Pw w w1 O1 O2 f p xS pgA S) : Calls Tryz.prog 13 #[.pointer (some ⟨p, 0, none⟩), .int .i64 1, .slice (some ⟨w1.heap.size, 0, none⟩) 1 1] (w1.alloc (.cells #[.int .u8 97] 5 (1, 2))) fun e w' => e = .returned (.int .i64 0) ∧ PwX w w1 w' O1 O2 f p xS pgW S := by
  have hb : Below w1.heap.size w1 (w1.alloc (.cells #[.int .u8 97] 5 (1, 2))) := (Below.refl _ _).alloc (Nat.le_refl _) _
  have hblk : (w1.alloc (.cells #[.int .u8 97] 5 (1, 2))).heap[w1.heap.size]? = some (.cells #[.int .u8 97] 5 (1, 2)) := by
    show (w1.heap.push _)[w1.heap.size]? = _
    rw [Array.getElem?_push, if_pos rfl]
  have h1 := pwrite_any f p 1 1 1 O2 xS pgA (some ⟨w1.heap.size, 0, none⟩) [97] (w1.alloc (.cells #[.int .u8 97] 5 (1, 2))) (h.pg.below hb) pgA_ok rfl (by omega) (by decide) (by decide) (rd_blk hblk rfl rfl) (.inr ⟨_, _, rfl⟩) (by omega)
  rw [show ((1 : Nat) : Int) = 1 from rfl] at h1
  refine h1.mono ?_
  rintro e w' ⟨rfl, k1, k2⟩
  have hc : Ch O2 w1 w' := ((Ch.refl O2 w1).alloc _).trans k2 (fun i e => .inl e)
  refine ⟨rfl, h.pager (k1.mono (fun i hi _ => ?_)) hc⟩
  rcases hi with e | e
  · exact .inl e
  · have : w1.heap.size + 1 ≤ i := by simpa using e
    exact .inr (by omega)
theorem wk_commit (h : Pw w w1 O1 O2 f p xS pgW S) (hS : St S xN lN 1000) (hfu : S.fuse = -1) (hst : S.stamp ≤ 40000) : Calls Tryz.prog 14 #[.pointer (some ⟨p, 0, none⟩)] w1 fun e w' => e = .returned (.int .i64 0) ∧ ∃ S2, FsA w' (fun i => w.heap.size ≤ i ∧ i < w'.heap.size) f S2 ∧ Below w.heap.size w w' ∧ St S2 xN (nextL lN hd2 pgW.ch) 1000 ∧ S2.stamp ≤ 1000000 := by
  obtain ⟨S', k1, k2, k3⟩ := com_ok (L := lN) (h := hd2) (ch := pgW.ch) hS hfu bat_W (by show 1 < 180; omega) (by show needC 2 2 512 ≤ 1000 - 8 * 1; decide) (by show 8 * 1 ≤ 1000; omega)
  have hst2 : S'.stamp ≤ 1000000 := by
    have h6 := runS_stamp 5000 (comSteps xN (walB (wls (batP hd2 pgW.ch))) (batP hd2 pgW.ch)) S (fun k hk S => comStep_stamp (by show 2 ≤ 4096; omega) hk S)
    have e : (comP xN (walB (wls (batP hd2 pgW.ch))) (batP hd2 pgW.ch) S).2 = S' := congrArg (·.2) k1
    unfold comP at e
    rw [e] at h6
    have h7 : (comSteps xN (walB (wls (batP hd2 pgW.ch))) (batP hd2 pgW.ch)).length = 6 := rfl
    rw [h7] at h6
    omega
  refine (commit_at f p O1 O2 S xS pgW w1 512 h.pg h.fs h.ne pgW_ok rfl (by decide) (by omega) (by show 1 < 180; omega) hS.up hS.len.1 (by omega) (by decide) rfl).mono ?_
  rintro e w' (⟨r1, _⟩ | ⟨_, ⟨r1, _⟩ | ⟨_, rc, S3, r2, r3, _⟩ | ⟨_, S3, r2, r3, r4, r5, r6⟩⟩)
  · cases r1
  · have hu : useP S.fs = 8 * 1 := hS.use
    have hm := hS.most
    have : S.most - useP S.fs < needC 2 2 512 := r1
    have h25 : needC 2 2 512 = 25 := by decide
    omega
  · have : (rc, S3) = (0, S') := r2.trans k1
    exact absurd (congrArg (·.1) this) r3
  · have e : S3 = S' := congrArg (·.2) (r2.trans k1)
    subst e
    have hz := h.bl.size
    refine ⟨r3, S3, r4.mono (fun i hi hl => ⟨?_, hl⟩), h.bel r6, k2, hst2⟩
    rcases hi with e | e
    · exact (h.l1 i e).1
    · omega
theorem wk_open2 {S2 : FsP} (hF : FsA w1 (fun i => w.heap.size ≤ i ∧ i < w1.heap.size) f S2) (hb : Below w.heap.size w w1) (hS : St S2 xN (nextL lN hd2 pgW.ch) 1000) (hst : S2.stamp ≤ 1000000) : Calls Tryz.prog 11 #[.pointer (some ⟨f, 0, none⟩), .string xS] w1 fun e w' => ∃ p O1 O2, e = .returned (.tuple #[.pointer (some ⟨p, 0, none⟩), .int .i64 0]) ∧ Hid (Pw w w' O1 O2 f p xS (pgO hd2) S2) := by
  refine (open_old f 1000 _ S2 _ hd2 w w1 hF (fun i hi => hi) hb hS next_W0 hd2_ok hst).mono ?_
  rintro e w' ⟨p, O1, O2, h1, h2, _⟩
  exact ⟨p, O1, O2, h1, Lib.hid h2⟩
theorem pgO_ok (h : HdP) : (pgO h).Ok := by
  have := pgR_ok (pg0_ok hd0) (no := 0) (padB (hdB h)) (by omega)
  exact ⟨this.srt, this.chb, this.nd, this.rl, this.rk⟩
theorem wk_read {S2 : FsP} (h : Pw w w1 O1 O2 f p xS (pgO hd2) S2) (hS : St S2 xN (nextL lN hd2 pgW.ch) 1000) : Calls Tryz.prog 16 #[.pointer (some ⟨p, 0, none⟩), .int .i64 1] w1 fun e w' => ∃ g c, e = .returned (.tuple #[.slice (some ⟨g, 0, none⟩) 508 c, .int .i64 0]) ∧ w'.cell? ⟨g, 0, none⟩ = some (.int .u8 97) ∧ Hid (Below w.heap.size w w') := by
  have h1 := pread_any f p 1 O1 O2 S2 xS (pgO hd2) (padB [97]) w1 h.pg h.fs (by decide) (pgO_ok hd2) rfl (by omega) (by decide) (by decide) (by decide) (fun _ _ => hS.hold next_W1) (padB_len _ (by decide))
  rw [show ((1 : Nat) : Int) = 1 from rfl] at h1
  refine h1.mono ?_
  rintro e w' ⟨A, c, B, rfl, h2, h3, h4, h5⟩
  obtain ⟨g, c', hv, _, _, _⟩ := own_pos h3 (by omega)
  injection hv with hA _ _
  subst hA
  have hcell := h3.cells (g := g) rfl 0 (.int .u8 97) rfl
  rw [addLit] at hcell
  exact ⟨g, c, rfl, hcell, Lib.hid (h.bel (h5.mono (fun i e => .inr e)))⟩
end
set_option maxHeartbeats 4000000 in
set_option maxRecDepth 100000 in
theorem pwakes_any (w : World) : Calls Tryz.prog 9 #[] w fun e w' => e = .returned (.bool true) ∧ Below w.heap.size w w' := by
  have HN := Lib.hid (new_fs 1000 w)
  go_enter Tryz.func9, Tryz.ntmps9
  go_wp2_with fail
  with_reducible refine HN.out.mono ?_
  rintro e w1 ⟨f, rfl, h1, b1⟩
  have HO := Lib.hid (wk_open h1 b1)
  clear h1 b1
  go_wp2_with fail
  with_reducible refine HO.out.mono ?_
  rintro e w2 ⟨p, O1, O2, S, rfl, H2⟩
  have HA := Lib.hid (wk_alloc H2.out.1)
  go_wp2_with fail
  with_reducible refine HA.out.mono ?_
  rintro e w3 ⟨rfl, O3, O4, h3, _⟩
  have HW := Lib.hid (wk_write h3)
  clear h3
  have kc := fun (w : World) (C : Array Value) (n c : Nat) => Lib.run_convert_bytes_const (P := Tryz.prog) w 22 5 C n c Tryz.underlying22 Tryz.underlying5
  go_wp2_with fail
  with_reducible refine HW.out.mono ?_
  rintro e w4 ⟨rfl, O5, O6, h4, _⟩
  have HC := Lib.hid (wk_commit h4 H2.out.2.1 H2.out.2.2.1 H2.out.2.2.2)
  clear h4
  go_wp2_with fail
  with_reducible refine HC.out.mono ?_
  rintro e w5 ⟨rfl, S2, k1, k2, k3, k4⟩
  have HO2 := Lib.hid (wk_open2 k1 k2 k3 k4)
  have K3 := Lib.hid k3
  clear k1 k2 k3 k4
  go_wp2_with fail
  with_reducible refine HO2.out.mono ?_
  rintro e w6 ⟨q, O7, O8, rfl, H6⟩
  have HR := Lib.hid (wk_read H6.out K3.out)
  go_wp2_with fail
  with_reducible refine HR.out.mono ?_
  rintro e w7 ⟨g, c, rfl, hcell, H7⟩
  go_wp2_with fail
  go_ret
  exact ⟨rfl, H7.out⟩
end Go.Proofs.YtoadamkmabkldaaGreatDoor
/- Contracts of package pager: Commit, on a pager and a store that the call has made, wherever the store goes down. -/
namespace Go.Proofs.YtoadamkmabkldaaGreatDoor
open Go.RowKit Go.Shelf
attribute [local go_sem ↓] Go.wp_at_zero Go.wp_at_succ
theorem comP_stamp (nm b : List UInt8) (l : List (Nat × List UInt8)) (S : FsP) : (comP nm b l S).2.stamp ≤ S.stamp + (l.length + 1) * 6 := by
  have h := runS_stamp (l.length + 1) (comSteps nm b l) S (fun k hk S => by
    unfold comSteps at hk
    simp only [List.mem_cons, List.not_mem_nil, or_false] at hk
    rcases hk with rfl | rfl | rfl | rfl | rfl | rfl
    · have := writeP_stamp S (logN nm) 0 b; dsimp only; omega
    · have := syncF_stamp S (logN nm); dsimp only; omega
    · have := writeP_stamp S (logN nm) (b.length : Int) doneD; dsimp only; omega
    · have := syncF_stamp S (logN nm); dsimp only; omega
    · exact layP_stamp nm l S
    · have := cutF_stamp S (logN nm) 0; dsimp only; omega)
  exact h
theorem cF_at {L : List (List UInt8)} {k : Nat} (h : k < L.length) : L[k]? = some (cF L k) := by
  unfold cF
  rw [List.getElem?_eq_getElem h]; rfl
/-- What a pager on a file's pages is to be. -/
theorem good_of {P : PgP} {S : FsP} {nm : List UInt8} {L : List (List UInt8)} {M : Nat} (hok : P.Ok) (hk : KeptN P (cF L)) (hd : P.dead = false) (hS : St S nm L M) (hb : BatOk L P.now P.ch) : GoodN P S nm (cF L) := by
  have hlt : ∀ no, 1 ≤ no → no < P.now.many → P.ch.lookup no = none → no < L.length := fun no h0 h1 h2 => by
    rcases Nat.lt_or_ge no L.length with h | h
    · exact h
    · have := hb.cl no h h1 (by omega)
      rw [h2] at this; cases this
  refine ⟨hok, hk, hd, hb.m2, fun no h0 h1 h2 => hS.hold (cF_at (hlt no h0 h1 h2)), fun no h0 h1 => ?_⟩
  unfold cont
  cases h2 : P.ch.lookup no with
  | some b => exact (hb.chb _ (lookup_mem2 h2)).2.2
  | none =>
    have := cF_at (hlt no h0 h1 h2)
    exact hS.l5 _ (List.mem_of_getElem? this)
/-- What Commit leaves. -/
def CpR (w W w' : World) (O1 O2 : Nat → Prop) (f p : Nat) (P : PgP) (S : FsP) (L : List (List UInt8)) (M : Nat) (e : Ending) : Prop :=
  (P.ch = [] ∧ hdL P.now = hdL P.last ∧ e = .returned (.int .i64 0) ∧ PwX w W w' O1 O2 f p xS P S) ∨
  (¬ (P.ch = [] ∧ hdL P.now = hdL P.last) ∧ M - 8 * L.length < needC (P.ch.length + 1) P.now.many (512 * L.length) ∧ e = .returned (.int .i64 8) ∧ PwX w W w' O1 O2 f p xS (giveP P) S) ∨
  (¬ (P.ch = [] ∧ hdL P.now = hdL P.last) ∧ needC (P.ch.length + 1) P.now.many (512 * L.length) ≤ M - 8 * L.length ∧ ∃ S2, e = .returned (.int .i64 0) ∧ St S2 xN (nextL L P.now P.ch) M ∧ (S.fuse = -1 → S2.fuse = -1) ∧ S2.stamp ≤ S.stamp + (P.ch.length + 2) * 6 ∧ PwX w W w' O1 O2 f p xS (comD P) S2) ∨
  (¬ (P.ch = [] ∧ hdL P.now = hdL P.last) ∧ needC (P.ch.length + 1) P.now.many (512 * L.length) ≤ M - 8 * L.length ∧ S.fuse ≠ -1 ∧ ∃ S2, e = .returned (.int .i64 9) ∧ Dn S2 xN L (nextL L P.now P.ch) M ∧ S2.stamp ≤ S.stamp + (P.ch.length + 2) * 6 ∧ PwX w W w' O1 O2 f p xS { P with dead := true } S2)
theorem com_pw {w W : World} {O1 O2 : Nat → Prop} {f p : Nat} {P : PgP} {S : FsP} {L : List (List UInt8)} {M : Nat} (h : Pw w W O1 O2 f p xS P S) (hok : P.Ok) (hd : P.dead = false) (hS : St S xN L M) (hb : BatOk L P.now P.ch) (hcl : P.ch.length < 180) (hst : S.stamp ≤ 900000) (hL : 1 ≤ L.length) (hM : 8 * L.length ≤ M) (hM2 : M ≤ 65536) :
    Calls Tryz.prog 14 #[.pointer (some ⟨p, 0, none⟩)] W fun e w' => CpR w W w' O1 O2 f p P S L M e := by
  have hu : useP S.fs = 8 * L.length := hS.use
  have hm := hS.most
  refine (commit_at f p O1 O2 S xS P W (512 * L.length) h.pg h.fs h.ne hok hb.r8 (by decide) hst hcl hS.up hS.len.1 (by omega) hb.m2 hd).mono ?_
  rintro e w' (⟨r1, r2, r3, r4, r5, r6⟩ | ⟨r0, ⟨r1, r2, r3, r4, r5⟩ | ⟨r1, rc, S3, r2, r3, r4, r5, r6, r7⟩ | ⟨r1, S3, r2, r4, r5, r6, r7⟩⟩)
  · exact .inl ⟨r1, r2, r3, h.pager (r4.mono (fun i hi _ => .inl hi)) r6⟩
  · rw [hm, hu] at r1
    exact .inr (.inl ⟨r0, r1, r2, h.pager (r3.mono (fun i hi _ => .inl hi)) r5⟩)
  · rw [hm, hu] at r1
    have hst3 := comP_stamp xN (walB (wls (batP P.now P.ch))) (batP P.now P.ch) S
    rw [bat_len] at hst3
    rcases com_any hS hb hcl r1 hM hL with ⟨S', k1, _⟩ | ⟨S', k1, k2⟩
    · have : (rc, S3) = (0, S') := r2.trans k1
      exact absurd (congrArg (·.1) this) r3
    · have e3 : (rc, S3) = (9, S') := r2.trans k1
      have e1 : rc = 9 := congrArg (·.1) e3
      have e2 : S3 = S' := congrArg (·.2) e3
      subst e1 e2
      refine .inr (.inr (.inr ⟨r0, r1, fun hf => ?_, S3, r4, k2, ?_, h.both r5 r6 r7⟩))
      · obtain ⟨S4, q1, _⟩ := com_ok (L := L) (h := P.now) (ch := P.ch) hS hf hb hcl r1 hM
        have : (9, S3) = (0, S4) := k1.symm.trans q1
        exact absurd (show (9 : Nat) = 0 from congrArg (·.1) this) (by decide)
      · have : (comP xN (walB (wls (batP P.now P.ch))) (batP P.now P.ch) S).2 = S3 := congrArg (·.2) k1
        rw [this] at hst3
        omega
  · rw [hm, hu] at r1
    have hst3 := comP_stamp xN (walB (wls (batP P.now P.ch))) (batP P.now P.ch) S
    rw [bat_len] at hst3
    rcases com_any hS hb hcl r1 hM hL with ⟨S', k1, k2⟩ | ⟨S', k1, k2⟩
    · have e2 : S3 = S' := congrArg (·.2) (r2.trans k1)
      subst e2
      refine .inr (.inr (.inl ⟨r0, r1, S3, r4, k2, fun hf => ?_, ?_, h.both r5 r6 r7⟩))
      · obtain ⟨S4, q1, _, q3⟩ := com_ok (L := L) (h := P.now) (ch := P.ch) hS hf hb hcl r1 hM
        have : S3 = S4 := congrArg (·.2) (k1.symm.trans q1)
        rw [this]; exact q3
      · have : (comP xN (walB (wls (batP P.now P.ch))) (batP P.now P.ch) S).2 = S3 := congrArg (·.2) k1
        rw [this] at hst3
        omega
    · have : (0, S3) = (9, S') := r2.trans k1
      exact absurd (show (0 : Nat) = 9 from congrArg (·.1) this) (by decide)
end Go.Proofs.YtoadamkmabkldaaGreatDoor
/- So many pages taken and written, one byte each: the pager, and what Commit gives; for PagerKeeps and PagerFull. -/
namespace Go.Proofs.YtoadamkmabkldaaGreatDoor
open Go.RowKit Go.Shelf
attribute [local go_sem ↓] Go.wp_at_zero Go.wp_at_succ
def chG (g : Nat → UInt8) (k : Nat) : List (Nat × List UInt8) := (List.range k).map fun i => (i + 1, padB [g i])
def hdG (k : Nat) : HdP := ⟨k + 1, 0, List.replicate 8 0⟩
def pgG (g : Nat → UInt8) (k : Nat) : PgP := { pgN with now := hdG k, ch := chG g k }
/-- A page was taken, not written yet. -/
def pgGa (g : Nat → UInt8) (k : Nat) : PgP := { pgN with now := hdG (k + 1), ch := putK (k + 1) (List.replicate 508 0) (chG g k) }
theorem putK_last (k : Nat) (b : List UInt8) : ∀ l : List (Nat × List UInt8), (∀ q ∈ l, q.1 < k) → putK k b l = l ++ [(k, b)]
  | [], _ => rfl
  | (j, c) :: r, h => by
    have hj := h _ (List.mem_cons_self ..)
    dsimp only at hj
    unfold putK
    rw [if_neg (by omega), if_neg (by omega), putK_last k b r (fun q hq => h q (List.mem_cons_of_mem _ hq))]
    rfl
theorem putK_again (k : Nat) (b c : List UInt8) : ∀ l : List (Nat × List UInt8), (∀ q ∈ l, q.1 < k) → putK k b (l ++ [(k, c)]) = l ++ [(k, b)]
  | [], _ => by
    show putK k b [(k, c)] = _
    unfold putK
    rw [if_neg (by omega), if_pos rfl]; rfl
  | (j, d) :: r, h => by
    have hj := h _ (List.mem_cons_self ..)
    dsimp only at hj
    show putK k b ((j, d) :: (r ++ [(k, c)])) = _
    unfold putK
    rw [if_neg (by omega), if_neg (by omega), putK_again k b c r (fun q hq => h q (List.mem_cons_of_mem _ hq))]
    rfl
theorem chG_succ (g : Nat → UInt8) (k : Nat) : chG g (k + 1) = chG g k ++ [(k + 1, padB [g k])] := by simp [chG, List.range_succ]
theorem chG_mem {g : Nat → UInt8} {k : Nat} {q : Nat × List UInt8} (h : q ∈ chG g k) : 1 ≤ q.1 ∧ q.1 < k + 1 ∧ q.2.length = 508 := by
  unfold chG at h
  obtain ⟨i, hi, rfl⟩ := List.mem_map.1 h
  have : i < k := by simpa using hi
  exact ⟨by dsimp only; omega, by dsimp only; omega, padB_len _ (by simp)⟩
theorem chG_len (g : Nat → UInt8) (k : Nat) : (chG g k).length = k := by simp [chG]
theorem chG_put (g : Nat → UInt8) (k : Nat) : putK (k + 1) (padB [g k]) (putK (k + 1) (List.replicate 508 0) (chG g k)) = chG g (k + 1) := by
  rw [putK_last _ _ _ (fun q hq => (chG_mem hq).2.1), putK_again _ _ _ _ (fun q hq => (chG_mem hq).2.1), chG_succ]
theorem chG_srt (g : Nat → UInt8) : ∀ k, (chG g k).Pairwise fun p q => p.1 < q.1
  | 0 => List.Pairwise.nil
  | k + 1 => by
    rw [chG_succ, List.pairwise_append]
    exact ⟨chG_srt g k, List.pairwise_singleton _ _, fun p hp q hq => by simp at hq; subst hq; exact (chG_mem hp).2.1⟩
theorem chG_look (g : Nat → UInt8) (j : Nat) : ∀ k, (chG g k).lookup j = if 1 ≤ j ∧ j ≤ k then some (padB [g (j - 1)]) else none
  | 0 => by rw [if_neg (by omega)]; rfl
  | k + 1 => by
    rw [chG_succ, List.lookup_append, chG_look g j k]
    by_cases h : 1 ≤ j ∧ j ≤ k
    · rw [if_pos h, if_pos ⟨h.1, by omega⟩]; rfl
    · rw [if_neg h, List.lookup_cons]
      by_cases e : j = k + 1
      · subst e
        rw [if_pos ⟨by omega, Nat.le_refl _⟩]
        simp
      · rw [show (j == k + 1) = false by simpa using e, if_neg (by omega)]; rfl
theorem hdG_ok {k : Nat} (hk : k < 65536) : (hdG k).Ok := ⟨by show 1 ≤ k + 1; omega, by show k + 1 ≤ 65536; omega, by show 0 < k + 1; omega, rfl, fun r hr => by
  have : r = 0 := List.eq_of_mem_replicate hr
  subst this
  show 0 < k + 1; omega⟩
theorem pgG_ok (g : Nat → UInt8) : ∀ k, k < 65536 → (pgG g k).Ok
  | 0, _ => pgN_ok
  | k + 1, h => by
    have h1 := (pgG_ok g k (by omega)).put (k := k + 1) (b := List.replicate 508 0) (by omega) h List.length_replicate (hdG (k + 1))
    have h2 := h1.put (k := k + 1) (b := padB [g k]) (by omega) h (padB_len _ (by simp)) (hdG (k + 1))
    have e : (putK (k + 1) (padB [g k]) (putK (k + 1) (List.replicate 508 0) (chG g k))) = chG g (k + 1) := chG_put g k
    have e2 : ({ ({ (pgG g k) with now := hdG (k + 1), ch := putK (k + 1) (List.replicate 508 0) (pgG g k).ch } : PgP) with now := hdG (k + 1), ch := putK (k + 1) (padB [g k]) ({ (pgG g k) with now := hdG (k + 1), ch := putK (k + 1) (List.replicate 508 0) (pgG g k).ch } : PgP).ch } : PgP) = pgG g (k + 1) := by
      show ({ pgN with now := hdG (k + 1), ch := putK (k + 1) (padB [g k]) (putK (k + 1) (List.replicate 508 0) (chG g k)) } : PgP) = _
      rw [e]; rfl
    rw [e2] at h2
    exact h2
theorem pgGa_ok (g : Nat → UInt8) {k : Nat} (h : k + 1 < 65536) : (pgGa g k).Ok := (pgG_ok g k (by omega)).put (k := k + 1) (b := List.replicate 508 0) (by omega) h List.length_replicate (hdG (k + 1))
theorem pgG_bat (g : Nat → UInt8) {k : Nat} (h : k < 65536) : BatOk lN (pgG g k).now (pgG g k).ch :=
  ⟨rfl, by show 1 ≤ k + 1; omega, by show k + 1 ≤ 65536; omega, chG_srt g k, fun q hq => chG_mem hq, by show 1 ≤ k + 1; omega, fun j h1 h2 h3 => by
    have h2 : j < k + 1 := h2
    show ((chG g k).lookup j).isSome = true
    rw [chG_look, if_pos ⟨by omega, by omega⟩]; rfl⟩
theorem pgG_next (g : Nat → UInt8) {k j : Nat} (h1 : 1 ≤ j) (h2 : j ≤ k) : (nextL lN (pgG g k).now (pgG g k).ch)[j]? = some (padB [g (j - 1)]) := by
  rw [nextL_at lN _ _ (by show j < k + 1; omega), if_neg (by omega)]
  show some (((chG g k).lookup j).getD _) = _
  rw [chG_look, if_pos ⟨h1, h2⟩]; rfl
theorem pgG_next0 (g : Nat → UInt8) (k : Nat) : (nextL lN (pgG g k).now (pgG g k).ch)[0]? = some (padB (hdB (hdG k))) := by
  rw [nextL_at lN _ _ (by show 0 < k + 1; omega), if_pos rfl]; rfl
section
variable {w w1 : World} {O1 O2 : Nat → Prop} {f p k : Nat} {S : FsP} {g : Nat → UInt8}
theorem gp_alloc (h : Pw w w1 O1 O2 f p xS (pgG g k) S) (hk : k + 1 < 65536) : Calls Tryz.prog 12 #[.pointer (some ⟨p, 0, none⟩)] w1 fun e w' => e = .returned (.tuple #[.int .i64 ((k + 1 : Nat) : Int), .int .i64 0]) ∧ PwX w w1 w' O1 O2 f p xS (pgGa g k) S := by
  refine (alloc_at0 f p O2 xS (pgG g k) w1 h.pg (pgG_ok g k (by omega)) rfl rfl hk).mono ?_
  rintro e w' ⟨rfl, k1, k2⟩
  exact ⟨rfl, h.pager k1 k2⟩
theorem gp_write (h : Pw w w1 O1 O2 f p xS (pgGa g k) S) (hk : k + 1 < 65536) {x : Int} (hx : x = ((g k).toNat : Int)) : Calls Tryz.prog 13 #[.pointer (some ⟨p, 0, none⟩), .int .i64 ((k + 1 : Nat) : Int), .slice (some ⟨w1.heap.size, 0, none⟩) 1 1] (w1.alloc (.cells #[.int .u8 x] 5)) fun e w' => e = .returned (.int .i64 0) ∧ PwX w w1 w' O1 O2 f p xS (pgG g (k + 1)) S := by
  subst hx
  have hb : Below w1.heap.size w1 (w1.alloc (.cells #[.int .u8 ((g k).toNat : Int)] 5)) := (Below.refl _ _).alloc (Nat.le_refl _) _
  have hr := (Rd.oneB w1 5 (u := g k) rfl).more (B' := (w1.alloc (.cells #[.int .u8 ((g k).toNat : Int)] 5)).heap.size) (by simp)
  have h1 := pwrite_any f p (k + 1) 1 1 O2 xS (pgGa g k) (some ⟨w1.heap.size, 0, none⟩) [g k] (w1.alloc (.cells #[.int .u8 ((g k).toNat : Int)] 5)) (h.pg.below hb) (pgGa_ok g hk) rfl (by omega) (by show k + 1 < k + 2; omega) (by show k + 2 ≤ 65536; omega) hr (.inr ⟨_, _, rfl⟩) (by omega)
  refine h1.mono ?_
  rintro e w' ⟨rfl, k1, k2⟩
  have e2 : ({ pgGa g k with ch := putK (k + 1) (padB [g k]) (pgGa g k).ch } : PgP) = pgG g (k + 1) := by
    show ({ pgN with now := hdG (k + 1), ch := putK (k + 1) (padB [g k]) (putK (k + 1) (List.replicate 508 0) (chG g k)) } : PgP) = _
    rw [chG_put]; rfl
  rw [e2] at k1
  have hc : Ch O2 w1 w' := ((Ch.refl O2 w1).alloc _).trans k2 (fun i e => .inl e)
  refine ⟨rfl, h.pager (k1.mono (fun i hi _ => ?_)) hc⟩
  rcases hi with e | e
  · exact .inl e
  · have : w1.heap.size + 1 ≤ i := by simpa using e
    exact .inr (by omega)
end
end Go.Proofs.YtoadamkmabkldaaGreatDoor
/- PagerReuses: a map of marks, and pages freed and taken again, plain. -/
namespace Go.Proofs.YtoadamkmabkldaaGreatDoor
open Go.RowKit Go.Shelf
open Go.Maps (Keyed)
open Go.Sort
/-- How a mark reads. -/
def blR (v : Value) : Option (DataW Unit × List MemPlace) :=
  match v with
  | .bool b => some (.lit (.bool b), [])
  | _ => none
theorem blR_inv {v : Value} {b : Bool} {ps : List MemPlace} (h : blR v = some (.lit (.bool b), ps)) : v = .bool b := by
  unfold blR at h
  split at h
  · simp at h; rw [h.1]
  · cases h
theorem zeroBl (w : World) : (zeroValue 4).run Tryz.prog w = .ok (.bool false) w := by kernel_rfl
/-- A map of marks. -/
def MapM (W : World) (m n : Nat) (f : Nat → Bool) : Prop :=
  ∃ D : DataW Unit, W.ownsMap Tryz.prog 3 blR m n D ∧ (∀ k : Nat, Maps.has D (.int .i64 (k : Int)) = f k) ∧ ∀ k : Nat, f k = true → ∀ z, D.atKey (.int .i64 (k : Int)) z = .lit (.bool true)
section
variable {w w' : World} {m n : Nat} {f : Nat → Bool}
theorem MapM.new (w : World) : MapM (w.alloc (.map #[] 0)) w.heap.size 0 (fun _ => false) := ⟨.map [], World.ownsMap_made _ _ _ _, fun _ => rfl, fun _ h => (by cases h)⟩
theorem MapM.lt (h : MapM w m n f) : m < w.heap.size := by obtain ⟨D, h1, _⟩ := h; exact h1.lt
theorem MapM.heap (h : MapM w m n f) (hw : w'.heap[m]? = w.heap[m]?) : MapM w' m n f := by
  obtain ⟨D, ⟨es, cl, hb, r⟩, h2⟩ := h; exact ⟨D, ⟨es, cl, hw.trans hb, r⟩, h2⟩
theorem MapM.ne {b : Nat} {cs : Array Value} {t : TypeId} (h : MapM w m n f) (hg : Bk w b t cs) : m ≠ b := by
  obtain ⟨D, ⟨es, cl, hb, _⟩, _⟩ := h
  rintro rfl
  unfold Bk at hg
  rw [hb] at hg; cases hg
theorem MapM.look (h : MapM w m n f) {k : Nat} (hk : k ≤ 9223372036854775807) :
    (Instr.lookup 34 (.map (some m)) (.int .i64 (k : Int)) false).run Tryz.prog w = .ok (.bool (f k)) w := by
  obtain ⟨D, h1, h2, h3⟩ := h
  obtain ⟨v, ps, hrun, hv⟩ := h1.lookup lawI Tryz.underlying34 (zeroBl w) (zd := .lit (.bool false)) (zp := []) rfl (wfI hk)
  rw [hrun]
  cases hf : f k with
  | false =>
    have h4 := h2 k
    rw [hf] at h4
    rw [Maps.atKey_of_not_has h4] at hv
    rw [blR_inv hv]
  | true =>
    rw [h3 _ hf] at hv
    rw [blR_inv hv]
theorem MapM.put (h : MapM w m n f) {k : Nat} (hk : k ≤ 9223372036854775807) (hn : n ≤ 1000000) :
    ∃ w', (Instr.mapUpdate 34 (.map (some m)) (.int .i64 (k : Int)) (.bool true)).run Tryz.prog w = .ok () w' ∧ MapM w' m (n + 1) (fun x => if x = k then true else f x) ∧ w.grownBy w' (some m) := by
  obtain ⟨D, h1, h2, h3⟩ := h
  obtain ⟨w', hrun, h5, h6⟩ := h1.update lawI Tryz.underlying34 (Nat.lt_of_le_of_lt hn (by unfold maxLen; decide)) (wfI hk) (show blR (.bool true) = some (.lit (.bool true), []) from rfl)
  have hlit := lawI.key (wfI hk)
  have hM : Maps.IsMap D := h1.isMap
  refine ⟨w', hrun, ⟨_, h5, fun x => ?_, fun x hv z => ?_⟩, h6⟩
  · dsimp only
    by_cases hx : x = k
    · rw [if_pos hx, hx]; exact Maps.has_put_same hM hlit _
    · rw [if_neg hx, Maps.has_put_other (lit_ne hx)]; exact h2 x
  · dsimp only at hv
    by_cases hx : x = k
    · rw [hx]; exact Maps.atKey_put_same hM hlit _ _
    · rw [if_neg hx] at hv; rw [Maps.atKey_put_other (lit_ne hx)]; exact h3 x hv z
end
/-- Free pages, each of them among the changed ones. -/
def Chn (ch : List (Nat × List UInt8)) : Nat → List Nat → Prop
  | x, [] => x = 0
  | x, y :: r => x = y ∧ 1 ≤ y ∧ y < 65536 ∧ ∃ n, ch.lookup y = some (frB n) ∧ n ≤ 65536 ∧ Chn ch n r
theorem Chn.put {ch : List (Nat × List UInt8)} (hs : ch.Pairwise fun p q => p.1 < q.1) {k : Nat} {b : List UInt8} : ∀ {F : List Nat} {x : Nat}, Chn ch x F → k ∉ F → Chn (putK k b ch) x F
  | [], _, h, _ => h
  | y :: r, _, ⟨h1, h2, h3, n, h4, h5, h6⟩, hk => ⟨h1, h2, h3, n, by
      rw [lookup_putK _ _ _ _ hs, if_neg (show ¬ y = k from fun e => hk (by rw [e]; exact List.mem_cons_self ..))]; exact h4, h5, h6.put hs (fun e => hk (List.mem_cons_of_mem _ e))⟩
theorem Chn.le {ch : List (Nat × List UInt8)} {x : Nat} {F : List Nat} (h : Chn ch x F) : x ≤ 65536 := by
  cases F with
  | nil => have : x = 0 := h; omega
  | cons y r => have := h.1; have := h.2.2.1; omega
structure RuI (P : PgP) (m : Nat) (F : List Nat) : Prop where
  ok : P.Ok
  dead : P.dead = false
  many : P.now.many = m
  reads : P.reads ≤ 0
  chn : Chn P.ch P.now.free F
  nd : F.Nodup
theorem RuI.new {P : PgP} {m : Nat} (h : RuI P m []) (h1 : 1 ≤ m) (hm : m < 65536) : RuI { P with now := { P.now with many := P.now.many + 1 }, ch := putK P.now.many (List.replicate 508 0) P.ch } (m + 1) [] :=
  ⟨h.ok.put (by rw [h.many]; exact h1) (by rw [h.many]; exact hm) List.length_replicate _, h.dead, by show P.now.many + 1 = _; rw [h.many], h.reads, h.chn, List.nodup_nil⟩
theorem RuI.free {P : PgP} {m no : Nat} {F : List Nat} (h : RuI P m F) (h1 : 1 ≤ no) (h2 : no < m) (hm : m ≤ 65536) (hn : no ∉ F) : RuI { P with now := { P.now with free := no }, ch := putK no (frB P.now.free) P.ch } m (no :: F) :=
  ⟨h.ok.put h1 (by omega) (frB_len _) _, h.dead, h.many, h.reads, ⟨rfl, h1, by omega, P.now.free, by rw [lookup_putK _ _ _ _ h.ok.srt, if_pos rfl], h.chn.le, h.chn.put h.ok.srt hn⟩, List.nodup_cons.2 ⟨hn, h.nd⟩⟩
theorem RuI.take {P : PgP} {m x n : Nat} {F : List Nat} (h : RuI P m (x :: F)) (hl : P.ch.lookup x = some (frB n)) (hc : Chn P.ch n F) : RuI { P with now := { P.now with free := n }, ch := putK x (List.replicate 508 0) P.ch } m F := by
  obtain ⟨_, h1, h2, _⟩ := h.chn
  exact ⟨h.ok.put h1 h2 List.length_replicate _, h.dead, h.many, h.reads, hc.put h.ok.srt (List.nodup_cons.1 h.nd).1, (List.nodup_cons.1 h.nd).2⟩
theorem RuI.fst : RuI pgN 1 [] := ⟨pgN_ok, rfl, rfl, Nat.le_refl _, rfl, List.nodup_nil⟩
section
variable {w W : World} {O1 O2 : Nat → Prop} {f p : Nat} {S : FsP} {P : PgP} {m : Nat} {F : List Nat}
/-- .. after a call of the pager. -/
def RuX (w W w' : World) (O1 O2 : Nat → Prop) (f p m : Nat) (F : List Nat) (S : FsP) : Prop := ∃ P, PwX w W w' O1 O2 f p xS P S ∧ RuI P m F
theorem ru_new (h : Pw w W O1 O2 f p xS P S) (hI : RuI P m []) (h1 : 1 ≤ m) (hm : m < 65536) : Calls Tryz.prog 12 #[.pointer (some ⟨p, 0, none⟩)] W fun e w' => e = .returned (.tuple #[.int .i64 (m : Int), .int .i64 0]) ∧ RuX w W w' O1 O2 f p (m + 1) [] S := by
  refine (alloc_at0 f p O2 xS P W h.pg hI.ok hI.dead hI.chn (by rw [hI.many]; exact hm)).mono ?_
  rintro e w' ⟨rfl, k1, k2⟩
  exact ⟨by rw [hI.many], _, h.pager k1 k2, hI.new h1 hm⟩
theorem ru_free (h : Pw w W O1 O2 f p xS P S) (hI : RuI P m F) {no : Nat} (h1 : 1 ≤ no) (h2 : no < m) (hm : m ≤ 65536) (hn : no ∉ F) : Calls Tryz.prog 17 #[.pointer (some ⟨p, 0, none⟩), .int .i64 (no : Int)] W fun e w' => e = .returned (.int .i64 0) ∧ RuX w W w' O1 O2 f p m (no :: F) S := by
  refine (free_any f p no O2 xS P W h.pg hI.ok hI.dead h1 (by rw [hI.many]; exact h2) (by rw [hI.many]; exact hm)).mono ?_
  rintro e w' ⟨rfl, k1, k2⟩
  exact ⟨rfl, _, h.pager k1 k2, hI.free h1 h2 hm hn⟩
theorem ru_take {x : Nat} (h : Pw w W O1 O2 f p xS P S) (hI : RuI P m (x :: F)) : Calls Tryz.prog 12 #[.pointer (some ⟨p, 0, none⟩)] W fun e w' => e = .returned (.tuple #[.int .i64 (x : Int), .int .i64 0]) ∧ RuX w W w' O1 O2 f p m F S := by
  obtain ⟨c1, c2, c3, n, c4, c5, c6⟩ := hI.chn
  have hR : pgR P x [] = P := by unfold pgR; rw [c4]; rfl
  have := alloc_at f p x n O1 O2 S xS P [] W h.pg h.fs (by decide) hI.ok hI.dead c1 c2 c3 (by have := hI.reads; omega) (fun e => by rw [c4] at e; cases e) (by unfold contB; rw [c4]) c5
  rw [hR] at this
  refine this.mono ?_
  rintro e w' ⟨rfl, k1, k2⟩
  exact ⟨rfl, _, h.pager k1 k2, hI.take c4 c6⟩
end
end Go.Proofs.YtoadamkmabkldaaGreatDoor
