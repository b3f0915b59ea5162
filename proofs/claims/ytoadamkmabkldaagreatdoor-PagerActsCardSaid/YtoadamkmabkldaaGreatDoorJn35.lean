/- Contracts of package pager: Commit, on a pager and a store that the call has made, wherever the store goes down. -/
import Derived.Test.YtoadamkmabkldaaGreatDoorJn31
import Derived.Test.YtoadamkmabkldaaGreatDoorJn32
import Derived.Test.YtoadamkmabkldaaGreatDoorJn00
import Derived.Test.YtoadamkmabkldaaGreatDoorRows
import Derived.Test.YtoadamkmabkldaaGreatDoorJn34
import Derived.Test.YtoadamkmabkldaaGreatDoorJn11
set_option linter.unusedVariables false
set_option linter.unusedSimpArgs false
namespace Go.Proofs.YtoadamkmabkldaaGreatDoor
open Go.RowKit Go.Shelf
attribute [local go_sem ↓] Go.wp_at_zero Go.wp_at_succ
theorem comP_stamp (nm b : List UInt8) (l : List (Nat × List UInt8)) (S : FsP) : (comP nm b l S).2.stamp ≤ S.stamp + (l.length + 1) * 6 := by
  have h := runS_stamp (l.length + 1) (comSteps nm b l) S (fun k hk S => by
    unfold comSteps at hk
    simp only [List.mem_cons, List.not_mem_nil, or_false] at hk
    rcases hk with rfl | rfl | rfl | rfl | rfl | rfl
    · have := writeP_stamp S (logN nm) 0 b; dsimp only; omega
    · have := syncF_stamp S (logN nm); dsimp only; omega
    · have := writeP_stamp S (logN nm) (b.length : Int) doneD; dsimp only; omega
    · have := syncF_stamp S (logN nm); dsimp only; omega
    · exact layP_stamp nm l S
    · have := cutF_stamp S (logN nm) 0; dsimp only; omega)
  exact h
theorem cF_at {L : List (List UInt8)} {k : Nat} (h : k < L.length) : L[k]? = some (cF L k) := by
  unfold cF
  rw [List.getElem?_eq_getElem h]; rfl
/-- What a pager on a file's pages is to be. -/
theorem good_of {P : PgP} {S : FsP} {nm : List UInt8} {L : List (List UInt8)} {M : Nat} (hok : P.Ok) (hk : KeptN P (cF L)) (hd : P.dead = false) (hS : St S nm L M) (hb : BatOk L P.now P.ch) : GoodN P S nm (cF L) := by
  have hlt : ∀ no, 1 ≤ no → no < P.now.many → P.ch.lookup no = none → no < L.length := fun no h0 h1 h2 => by
    rcases Nat.lt_or_ge no L.length with h | h
    · exact h
    · have := hb.cl no h h1 (by omega)
      rw [h2] at this; cases this
  refine ⟨hok, hk, hd, hb.m2, fun no h0 h1 h2 => hS.hold (cF_at (hlt no h0 h1 h2)), fun no h0 h1 => ?_⟩
  unfold cont
  cases h2 : P.ch.lookup no with
  | some b => exact (hb.chb _ (lookup_mem2 h2)).2.2
  | none =>
    have := cF_at (hlt no h0 h1 h2)
    exact hS.l5 _ (List.mem_of_getElem? this)
/-- What Commit leaves. -/
def CpR (w W w' : World) (O1 O2 : Nat → Prop) (f p : Nat) (P : PgP) (S : FsP) (L : List (List UInt8)) (M : Nat) (e : Ending) : Prop :=
  (P.ch = [] ∧ hdL P.now = hdL P.last ∧ e = .returned (.int .i64 0) ∧ PwX w W w' O1 O2 f p xS P S) ∨
  (¬ (P.ch = [] ∧ hdL P.now = hdL P.last) ∧ M - 8 * L.length < needC (P.ch.length + 1) P.now.many (512 * L.length) ∧ e = .returned (.int .i64 8) ∧ PwX w W w' O1 O2 f p xS (giveP P) S) ∨
  (¬ (P.ch = [] ∧ hdL P.now = hdL P.last) ∧ needC (P.ch.length + 1) P.now.many (512 * L.length) ≤ M - 8 * L.length ∧ ∃ S2, e = .returned (.int .i64 0) ∧ St S2 xN (nextL L P.now P.ch) M ∧ (S.fuse = -1 → S2.fuse = -1) ∧ S2.stamp ≤ S.stamp + (P.ch.length + 2) * 6 ∧ PwX w W w' O1 O2 f p xS (comD P) S2) ∨
  (¬ (P.ch = [] ∧ hdL P.now = hdL P.last) ∧ needC (P.ch.length + 1) P.now.many (512 * L.length) ≤ M - 8 * L.length ∧ S.fuse ≠ -1 ∧ ∃ S2, e = .returned (.int .i64 9) ∧ Dn S2 xN L (nextL L P.now P.ch) M ∧ S2.stamp ≤ S.stamp + (P.ch.length + 2) * 6 ∧ PwX w W w' O1 O2 f p xS { P with dead := true } S2)
theorem com_pw {w W : World} {O1 O2 : Nat → Prop} {f p : Nat} {P : PgP} {S : FsP} {L : List (List UInt8)} {M : Nat} (h : Pw w W O1 O2 f p xS P S) (hok : P.Ok) (hd : P.dead = false) (hS : St S xN L M) (hb : BatOk L P.now P.ch) (hcl : P.ch.length < 180) (hst : S.stamp ≤ 900000) (hL : 1 ≤ L.length) (hM : 8 * L.length ≤ M) (hM2 : M ≤ 65536) :
    Calls Tryz.prog 14 #[.pointer (some ⟨p, 0, none⟩)] W fun e w' => CpR w W w' O1 O2 f p P S L M e := by
  have hu : useP S.fs = 8 * L.length := hS.use
  have hm := hS.most
  refine (commit_at f p O1 O2 S xS P W (512 * L.length) h.pg h.fs h.ne hok hb.r8 (by decide) hst hcl hS.up hS.len.1 (by omega) hb.m2 hd).mono ?_
  rintro e w' (⟨r1, r2, r3, r4, r5, r6⟩ | ⟨r0, ⟨r1, r2, r3, r4, r5⟩ | ⟨r1, rc, S3, r2, r3, r4, r5, r6, r7⟩ | ⟨r1, S3, r2, r4, r5, r6, r7⟩⟩)
  · exact .inl ⟨r1, r2, r3, h.pager (r4.mono (fun i hi _ => .inl hi)) r6⟩
  · rw [hm, hu] at r1
    exact .inr (.inl ⟨r0, r1, r2, h.pager (r3.mono (fun i hi _ => .inl hi)) r5⟩)
  · rw [hm, hu] at r1
    have hst3 := comP_stamp xN (walB (wls (batP P.now P.ch))) (batP P.now P.ch) S
    rw [bat_len] at hst3
    rcases com_any hS hb hcl r1 hM hL with ⟨S', k1, _⟩ | ⟨S', k1, k2⟩
    · have : (rc, S3) = (0, S') := r2.trans k1
      exact absurd (congrArg (·.1) this) r3
    · have e3 : (rc, S3) = (9, S') := r2.trans k1
      have e1 : rc = 9 := congrArg (·.1) e3
      have e2 : S3 = S' := congrArg (·.2) e3
      subst e1 e2
      refine .inr (.inr (.inr ⟨r0, r1, fun hf => ?_, S3, r4, k2, ?_, h.both r5 r6 r7⟩))
      · obtain ⟨S4, q1, _⟩ := com_ok (L := L) (h := P.now) (ch := P.ch) hS hf hb hcl r1 hM
        have : (9, S3) = (0, S4) := k1.symm.trans q1
        exact absurd (show (9 : Nat) = 0 from congrArg (·.1) this) (by decide)
      · have : (comP xN (walB (wls (batP P.now P.ch))) (batP P.now P.ch) S).2 = S3 := congrArg (·.2) k1
        rw [this] at hst3
        omega
  · rw [hm, hu] at r1
    have hst3 := comP_stamp xN (walB (wls (batP P.now P.ch))) (batP P.now P.ch) S
    rw [bat_len] at hst3
    rcases com_any hS hb hcl r1 hM hL with ⟨S', k1, k2⟩ | ⟨S', k1, k2⟩
    · have e2 : S3 = S' := congrArg (·.2) (r2.trans k1)
      subst e2
      refine .inr (.inr (.inl ⟨r0, r1, S3, r4, k2, fun hf => ?_, ?_, h.both r5 r6 r7⟩))
      · obtain ⟨S4, q1, _, q3⟩ := com_ok (L := L) (h := P.now) (ch := P.ch) hS hf hb hcl r1 hM
        have : S3 = S4 := congrArg (·.2) (k1.symm.trans q1)
        rw [this]; exact q3
      · have : (comP xN (walB (wls (batP P.now P.ch))) (batP P.now P.ch) S).2 = S3 := congrArg (·.2) k1
        rw [this] at hst3
        omega
    · have : (0, S3) = (9, S') := r2.trans k1
      exact absurd (show (0 : Nat) = 9 from congrArg (·.1) this) (by decide)
end Go.Proofs.YtoadamkmabkldaaGreatDoor
/- The contract of the reference's Ints. -/
namespace Go.Proofs.YtoadamkmabkldaaGreatDoor
open Go.RowKit

/-- Two lists of numbers, gone through side by side. -/
theorem ints_any (A B : Option Addr) (n m c d : Nat) (l r : List Int) (w : World) (hl : Rd w w.heap.size 1 A n (its l)) (hr : Rd w w.heap.size 1 B m (its r)) (hn : n ≤ 9223372036854775807) (hm : m ≤ 9223372036854775807) :
    Calls Tryz.prog 48 #[.slice A n c, .slice B m d] w fun e w' => e = .returned (.bool (decide (l = r))) ∧ ∃ q, w' = w.drewN q := by
  have hln : l.length = n := hl.ilen
  have hrm : r.length = m := hr.ilen
  by_cases hnm : n = m
  · have hlr : l.length = r.length := by omega
    subst hnm
    have Hln := Lib.hid hln
    have Hlr := Lib.hid hlr
    clear hln hrm hlr
    go_enter Tryz.func48, Tryz.ntmps48
    go_wp2_with fail
    go_loopw [5] (fun a wr => ∃ j : Nat, j ≤ n ∧ a = .int .i64 j ∧ Hid (l.take j = r.take j) ∧ ∃ q, wr = w.drewN q) (fun a _ => n - (intOf a).toNat)
    case atStart => exact ⟨0, Nat.zero_le _, rfl, rfl, 0, rfl⟩
    case round =>
      obtain ⟨j, hj, rfl, hjt, q, rfl⟩ := hrel
      by_cases hlt : j < n
      · obtain ⟨b, o, u, rfl, hb, hx, hc⟩ := hl.num (k := j) hlt
        obtain ⟨b2, o2, u2, rfl, hb2, hx2, hc2⟩ := hr.num (k := j) hlt
        have HX := Lib.hid hx
        have HX2 := Lib.hid hx2
        clear hx hx2
        have hj1 : (j : Int) < (n : Int) := by omega
        by_cases huu : u = u2
        · have hne : (u != u2) = false := by rw [huu]; simp
          have HU := Lib.hid huu
          clear huu
          go_wp2_with fail
          go_quiet (fail)
          go_wp2
          go_roundw
          case rel => exact ⟨j + 1, by omega, by go_num, Lib.hid (by rw [take_step HX.out, take_step HX2.out, hjt.out, HU.out]), _, rfl⟩
          case measure => simp [intOf]; omega
        · have hne : (u != u2) = true := by
            rw [bne_iff_ne]; exact huu
          have HU := Lib.hid huu
          clear huu
          go_wp2_with fail
          go_quiet (fail)
          go_wp2
          go_ret
          refine ⟨ret_bool ?_, _, World.drewN_drewN _ _ _⟩
          symm
          rw [decide_eq_false_iff_not]
          intro h
          have := HX.out
          rw [h, HX2.out] at this
          injection this with this
          exact HU.out this.symm
      · have : j = n := by omega
        subst this
        go_wp2
        go_ret
        refine ⟨ret_bool ?_, _, rfl⟩
        symm
        rw [decide_eq_true_iff]
        have := hjt.out
        rwa [List.take_of_length_le (by have := Hln.out; omega), List.take_of_length_le (by have := Hlr.out; have := Hln.out; omega)] at this
  · have hne : ((n : Int) != (m : Int)) = true := by rw [bne_iff_ne]; omega
    have hlr : ¬ l = r := by rintro rfl; omega
    have Hlr := Lib.hid hlr
    clear hln hrm hlr
    go_enter Tryz.func48, Tryz.ntmps48
    go_wp2
    go_ret
    exact ⟨ret_bool (by rw [decide_eq_false Hlr.out]), 0, rfl⟩

end Go.Proofs.YtoadamkmabkldaaGreatDoor
/- Law 17: same: is a pager what is told of it? -/
namespace Go.Proofs.YtoadamkmabkldaaGreatDoor
open Go.RowKit Go.Shelf
attribute [local go_sem ↓] Go.wp_at_zero Go.wp_at_succ
/-- A pager, free pages F, is what is told. -/
def SameP (P : PgP) (c : Nat → List UInt8) (F : List Nat) (st : StP) : Prop := F = st.free ∧ P.now.many = st.L.length ∧ P.now.roots = st.roots ∧ ∀ no, 1 ≤ no → no < P.now.many → no ∉ st.free → st.L[no]? = some (cont P c no)
/-- The memory while it is looked at. -/
def SmW (w W : World) (f p s : Nat) (O2 O K : Nat → Prop) (P : PgP) (c : Nat → List UInt8) (st : StP) (k : Nat) : Prop :=
  ∃ (Oi : Nat → Prop) (Q : PgP), PgA W Oi f p xS Q ∧ PgSN P Q c k ∧ (∀ i, Oi i → O2 i ∨ w.heap.size ≤ i) ∧ Ch O2 w W ∧ RfA W O K s st
/-- What same leaves. -/
def SmR (w w' : World) (f p s : Nat) (O2 O K : Nat → Prop) (P : PgP) (c : Nat → List UInt8) (F : List Nat) (st : StP) (e : Ending) : Prop :=
  ∃ (r : Bool) (k : Nat), e = .returned (.bool r) ∧ (r = true ↔ SameP P c F st) ∧ SmW w w' f p s O2 O K P c st k ∧ k ≤ F.length + st.L.length
section
variable {w W W' : World} {f p s k : Nat} {O1 O2 O K : Nat → Prop} {S : FsP} {P : PgP} {c : Nat → List UInt8} {F : List Nat} {st : StP}
theorem SmW.below (h : SmW w W f p s O2 O K P c st k) (hb : Below W.heap.size W W') : SmW w W' f p s O2 O K P c st k := by
  obtain ⟨Oi, Q, h1, h2, h3, h4, h5⟩ := h
  exact ⟨Oi, Q, h1.below hb, h2, h3, h4.trans (Ch.of_below (S := fun _ => False) hb (Nat.le_refl _)) (fun i e => e.elim), h5.below hb⟩
theorem SmW.cells (h : SmW w W f p s O2 O K P c st k) (hd : P.dead = false) : W.cell? ⟨p, 26, none⟩ = some (.bool false) ∧ W.cell? ⟨p, 2, none⟩ = some (.int .i64 (P.now.many : Int)) ∧ ∀ j, j < 8 → W.cell? ⟨p, 4 + j, none⟩ = some (.int .i64 (rtH P.now j)) := by
  obtain ⟨Oi, Q, h1, h2, _⟩ := h
  obtain ⟨mch, mcl, tch, tcl, vrow, hM, _⟩ := h1
  rw [← h2.now, ← hd, ← h2.dead]
  refine ⟨hM.hd.cell 26, hM.hd.cell 2, fun j hj => ?_⟩
  rw [hM.hd.cell (4 + j)]
  match j, hj with
  | 0, _ => rfl
  | 1, _ => rfl
  | 2, _ => rfl
  | 3, _ => rfl
  | 4, _ => rfl
  | 5, _ => rfl
  | 6, _ => rfl
  | 7, _ => rfl
theorem SmW.rows (h : SmW w W f p s O2 O K P c st k) (hL : 1 ≤ st.L.length) (hR : st.roots.length = 8) : ∃ lb cL AF cF rb cR, W.cell? ⟨s, 0, none⟩ = some (.slice (some ⟨lb, 0, none⟩) st.L.length cL) ∧ W.cell? ⟨s, 1, none⟩ = some (.slice AF st.free.length cF) ∧ W.cell? ⟨s, 2, none⟩ = some (.slice (some ⟨rb, 0, none⟩) 8 cR) ∧
    Rd W W.heap.size 1 AF st.free.length (its (natI st.free)) ∧ (∀ (j x : Nat), st.roots[j]? = some x → W.cell? ⟨rb, j, none⟩ = some (.int .i64 (x : Int))) ∧
    ∀ (no : Nat) (b : List UInt8), 1 ≤ no → st.L[no]? = some b → ∃ g n c, W.cell? ⟨lb, no, none⟩ = some (.slice (some ⟨g, 0, none⟩) n c) ∧ n = b.length ∧ n ≤ c ∧ c ≤ maxLen ∧ Rd W W.heap.size 1 (some ⟨g, 0, none⟩) n (bys b) := by
  obtain ⟨Oi, Q, _, _, _, _, h5⟩ := h
  obtain ⟨vL, vF, vR, cs, t, hM, _, _⟩ := h5
  obtain ⟨lb, cL, rfl, _, _, _⟩ := own_pos hM.L (by omega)
  obtain ⟨AF, cF, rfl, _, _⟩ := hM.F.form
  have hRr := hM.R
  rw [hR] at hRr
  obtain ⟨rb, cR, rfl, _, _, _⟩ := own_pos hRr (by omega)
  refine ⟨lb, cL, AF, cF, rb, cR, hM.hd.cell 0, hM.hd.cell 1, hM.hd.cell 2, hM.F.rd.1, fun j x hj => ?_, fun no b h1 h2 => ?_⟩
  · have := hRr.cells (g := rb) rfl j (.int .i64 (x : Int)) (by simp [its, natI, hj])
    rw [addLit, Nat.zero_add] at this
    exact this
  · obtain ⟨a1, a2⟩ := hM.rows no b h1 h2
    have := hM.L.cells (g := lb) rfl no _ a1
    rw [addLit, Nat.zero_add] at this
    obtain ⟨r1, r2, r3, r4⟩ := a2.rd
    exact ⟨(t no).1, (t no).2.1, (t no).2.2, this, r2, r3, r4, r1⟩
theorem sm_frees (hA : PgA w O2 f p xS P) (hF : FsA w O1 f S) (h12 : ∀ i, O1 i → ¬ O2 i) (hG : GoodN P S xN c) (hrd : P.reads + F.length ≤ 1000000) (hC : Chain (cont P c) P.now.free F) (hFl : F.length < P.now.many) (hFm : ∀ k ∈ F, k < P.now.many) (hs : RfA w O K s st) (hd : ∀ i, O i ∨ K i → ¬ O2 i) :
    Calls Tryz.prog 24 #[.pointer (some ⟨p, 0, none⟩)] w fun e w' => ∃ A cc, e = .returned (.tuple #[.slice A F.length cc, .int .i64 0]) ∧ Hid (SmW w w' f p s O2 O K P c st F.length ∧ Rd w' w'.heap.size 1 A F.length (its (natI F))) := by
  refine (freesN_any f p O1 O2 S xS P c F w hA hF h12 (by decide) hG hrd hC hFl hFm).mono ?_
  rintro e w' ⟨A, cc, Q, rfl, h⟩
  obtain ⟨Oi, h1, h2, _⟩ := h.pg
  exact ⟨A, cc, rfl, Lib.hid ⟨⟨Oi, Q, h1, h.same, h2, h.ch, hs.ch h.ch (fun i hi => hd i (.inl hi)) (fun i hi => hd i (.inr hi))⟩, Rd.of_own h.own⟩⟩
theorem SmW.read (h : SmW w W f p s O2 O K P c st k) (hF : FsA w O1 f S) (h12 : ∀ i, O1 i → ¬ O2 i) (hO1 : ∀ i, O1 i → i < w.heap.size) (hG : GoodN P S xN c) (hd : ∀ i, O i ∨ K i → ¬ O2 i ∧ i < w.heap.size) (hrd : P.reads + k ≤ 1000000) {no : Nat} (h1 : 1 ≤ no) (h2 : no < P.now.many) :
    Calls Tryz.prog 16 #[.pointer (some ⟨p, 0, none⟩), .int .i64 (no : Int)] W fun e w' => ∃ A cc, e = .returned (.tuple #[.slice A 508 cc, .int .i64 0]) ∧ Hid (SmW w w' f p s O2 O K P c st (k + 1) ∧ Rd w' w'.heap.size 1 A 508 (bys (cont P c no)) ∧ 508 ≤ cc) := by
  obtain ⟨Oi, Q, a1, a2, a3, a4, a5⟩ := h
  obtain ⟨hG2, hce⟩ := hG.same a2
  have hz := a4.size
  have hm : no < Q.now.many := by rw [a2.now]; exact h2
  have hFW : FsA W O1 f S := hF.ch a4 h12
  have := hG2.read (f := f) (p := p) a1 hFW (by decide) h1 hm (by have := a2.reads; omega)
  rw [hce] at this
  refine this.mono ?_
  rintro e w' ⟨A, cc, B, rfl, k1, k2, k3, k4⟩
  obtain ⟨_, _, hv, hcc, _⟩ := own_form k2
  injection hv with _ _ hv
  have hzz := k4.size
  have hTi : ∀ i, O i ∨ K i → ¬ Oi i := fun i hi e => by
    rcases a3 i e with e | e
    · exact (hd i hi).1 e
    · have := (hd i hi).2; omega
  refine ⟨A, cc, rfl, Lib.hid ⟨⟨fun i => (Oi i ∨ W.heap.size ≤ i) ∧ i < B, _, k3, a2.step (by have := hG.many; omega), fun i hi => ?_, a4.trans k4 a3, a5.ch k4 (fun i hi => hTi i (.inl hi)) (fun i hi => hTi i (.inr hi))⟩, Rd.of_own k2, by omega⟩⟩
  rcases hi.1 with e | e
  · exact a3 i e
  · exact .inr (by omega)
end
end Go.Proofs.YtoadamkmabkldaaGreatDoor
/- Law 17: same: the walk. -/
namespace Go.Proofs.YtoadamkmabkldaaGreatDoor
open Go.RowKit Go.Shelf
attribute [local go_sem ↓] Go.wp_at_zero Go.wp_at_succ
set_option maxHeartbeats 8000000 in
set_option maxRecDepth 100000 in
theorem same_any17 (f p s : Nat) (O1 O2 O K : Nat → Prop) (S : FsP) (P : PgP) (c : Nat → List UInt8) (F : List Nat) (st : StP) (w : World) (hA : PgA w O2 f p xS P) (hF : FsA w O1 f S) (h12 : ∀ i, O1 i → ¬ O2 i) (hO1 : ∀ i, O1 i → i < w.heap.size) (hG : GoodN P S xN c) (hrd : P.reads + F.length + st.L.length ≤ 1000000)
    (hC : Chain (cont P c) P.now.free F) (hFl : F.length < P.now.many) (hFm : ∀ k ∈ F, k < P.now.many) (hr8 : P.now.roots.length = 8) (hs : RfA w O K s st) (hd : ∀ i, O i ∨ K i → ¬ O2 i ∧ i < w.heap.size) (hL1 : 1 ≤ st.L.length) (hL : st.L.length ≤ 100000) (hR : st.roots.length = 8) (hSF : st.free.length ≤ 100000) :
    Calls Tryz.prog 20 #[.pointer (some ⟨p, 0, none⟩), .pointer (some ⟨s, 0, none⟩)] w fun e w' => SmR w w' f p s O2 O K P c F st e := by
  have HFr := Lib.hid (sm_frees hA hF h12 hG (by omega) hC hFl hFm hs (fun i hi => (hd i hi).1))
  obtain ⟨nL, hnL⟩ : ∃ nL, nL = st.L.length := ⟨_, rfl⟩
  obtain ⟨nF, hnF⟩ : ∃ nF, nF = F.length := ⟨_, rfl⟩
  obtain ⟨nS, hnS⟩ : ∃ nS, nS = st.free.length := ⟨_, rfl⟩
  obtain ⟨M, hM⟩ : ∃ M, M = P.now.many := ⟨_, rfl⟩
  have HCe := Lib.hid (fun W k (h : SmW w W f p s O2 O K P c st k) => h.cells hG.dead)
  have HRo := Lib.hid (fun W k (h : SmW w W f p s O2 O K P c st k) => h.rows hL1 hR)
  have HRe := Lib.hid (fun W k (h : SmW w W f p s O2 O K P c st k) (hk : k ≤ F.length + st.L.length) no h1 h2 => h.read hF h12 hO1 hG hd (by omega) (no := no) h1 h2)
  have HIs := Lib.hid (show ∀ W k, SmW w W f p s O2 O K P c st k → ∀ no : Nat, Calls Tryz.prog 49 #[.pointer (some ⟨s, 0, none⟩), .int .i64 (no : Int)] W fun e w' => e = .returned (.bool (decide (no ∈ st.free))) ∧ w' = W from fun W k h no => by
    obtain ⟨_, _, _, _, _, _, h5⟩ := h
    exact is_any s no st O K W h5 (by omega))
  rw [← hnF] at HFr
  rw [← hM] at HCe HRe hFl
  rw [← hnL] at HRo hL1 hL
  rw [← hnS] at HRo hSF
  have HH := Lib.hid (And.intro hnL (And.intro hnF (And.intro hnS (And.intro hM (And.intro hr8 hR)))))
  have hnF5 : nF ≤ 1000000 := by omega
  have hM5 := hG.many
  rw [← hM] at hM5
  clear hA hF h12 hO1 hG hrd hC hFl hFm hs hd hnL hnF hnS hM hr8 hR
  go_enter Tryz.func20, Tryz.ntmps20
  go_wp2_with fail
  with_reducible refine HFr.out.mono ?_
  rintro e w1 ⟨A1, c1, rfl, H1⟩
  obtain ⟨lb, cL, AF, cF, rb, cR, e0, e1, e2, hrF, hrR, hrL⟩ := HRo.out w1 nF H1.out.1
  have HI := Lib.hid (fun q => by
    have := ints_any A1 AF nF nS c1 cF (natI F) (natI st.free) (w1.drewN q) (H1.out.2.drewN q) (hrF.drewN q) (by omega) (by omega)
    exact this)
  obtain ⟨d26, d2, d4⟩ := HCe.out w1 nF H1.out.1
  have HMa := Lib.hid (fun q => many_any p M (w1.drewN q) d26 d2)
  have H1d := Lib.hid (fun q => H1.out.1.below (below_drewN (Below.refl _ w1) q))
  by_cases hFF : F = st.free
  · have hdF : decide (natI F = natI st.free) = true := by rw [hFF]; simp
    rw [hdF] at HI
    have HFF := Lib.hid hFF
    by_cases hMn : M = nL
    · subst hMn
      clear hdF hFF
      go_wp2_with fail
      go_quiet (first | (go_at_call 48; exact Calls.quiet_of (HI.out _)) | (go_at_call 18; exact Calls.quiet_of_same (HMa.out _)))
      have H2 := Lib.hid (H1d.out nq)
      generalize w1.drewN nq = w2 at *
      clear e0 e1 e2 hrF hrR hrL d26 d2 d4 HI HMa H1d H1
      obtain ⟨lb2, cL2, AF2, cF2, rb2, cR2, e0, e1, e2, hrF, hrR, hrL⟩ := HRo.out w2 nF H2.out
      obtain ⟨d26, d2, d4⟩ := HCe.out w2 nF H2.out
      have HRt := Lib.hid (fun (i : Nat) (hi : i < 8) => root_any p i (rtH P.now i) w2 d26 hi (d4 i hi))
      have HRc := Lib.hid hrR
      clear e0 e1 hrF hrR hrL d26 d2 d4
      go_wp2_with fail
      go_loopw [43] (fun s43 wr => ∃ i : Nat, s43 = .int .i64 (i : Int) ∧ i ≤ 8 ∧ Hid (wr = w2 ∧ ∀ j, j < i → P.now.roots[j]? = st.roots[j]?)) (fun s43 _ => 8 - (intOf s43).toNat)
      case atStart => exact ⟨0, rfl, by omega, Lib.hid ⟨rfl, fun j hj => by omega⟩⟩
      case round =>
        obtain ⟨i, rfl, hi8, HI⟩ := hrel
        obtain ⟨hw, hroots⟩ := HI.out
        replace hw := hw.symm
        subst hw
        have HRts := Lib.hid hroots
        clear HI hroots
        by_cases hlt : i < 8
        · obtain ⟨x, hx⟩ : ∃ x, P.now.roots[i]? = some x := ⟨_, List.getElem?_eq_getElem (by have := HH.out.2.2.2.2.1; omega)⟩
          obtain ⟨y, hy⟩ : ∃ y, st.roots[i]? = some y := ⟨_, List.getElem?_eq_getElem (by have := HH.out.2.2.2.2.2; omega)⟩
          have hcy := HRc.out i y hy
          have HRt2 := Lib.hid (by have := HRt.out i hlt; unfold rtH at this; rw [hx] at this; exact this)
          have hlt2 : (i : Int) < 8 := by omega
          have HXY := Lib.hid (And.intro hx hy)
          clear hx hy
          simp only [Option.getD_some] at HRt2
          by_cases hxy : x = y
          · subst hxy
            go_wp2_with fail
            with_reducible refine HRt2.out.mono ?_
            rintro e w3 ⟨rfl, hw3⟩
            subst hw3
            go_wp2_with fail
            go_roundw
            have HN := Lib.hid (show ∀ j, j < i + 1 → P.now.roots[j]? = st.roots[j]? from fun j hj => by
              rcases Nat.lt_or_ge j i with h | h
              · exact HRts.out j h
              · obtain rfl : j = i := by omega
                rw [HXY.out.1, HXY.out.2])
            case rel => first | exact ⟨i + 1, rfl, by omega, Lib.hid ⟨by first | trivial | rfl, HN.out⟩⟩ | ((repeat apply Exists.intro); exact ⟨⟨i + 1, rfl, by omega, Lib.hid ⟨by first | trivial | rfl, HN.out⟩⟩, rfl⟩)
            case measure => simp [intOf]; omega
          · have HNE := Lib.hid hxy
            go_wp2_with fail
            with_reducible refine HRt2.out.mono ?_
            rintro e w3 ⟨rfl, hw3⟩
            subst hw3
            go_wp2_with fail
            go_ret
            exact ⟨false, nF, rfl, ⟨(fun e => by cases e), fun e => absurd (Option.some.inj (HXY.out.1.symm.trans ((congrArg (fun l => l[i]?) e.2.2.1).trans HXY.out.2))) HNE.out⟩, H2.out, by have := HH.out.2.1; omega⟩
        · obtain rfl : i = 8 := by omega
          have hroots : P.now.roots = st.roots := List.ext_getElem? (fun j => by
            rcases Nat.lt_or_ge j 8 with h | h
            · exact HRts.out j h
            · rw [List.getElem?_eq_none (by have := HH.out.2.2.2.2.1; omega), List.getElem?_eq_none (by have := HH.out.2.2.2.2.2; omega)])
          have HRE := Lib.hid hroots
          clear hroots HRts hlt hi8
          go_wp2_with fail
          go_loopw [9] (fun s9 wr => ∃ (no k : Nat), s9 = .int .i64 (no : Int) ∧ 1 ≤ no ∧ no ≤ M ∧ Hid (SmW w wr f p s O2 O K P c st k ∧ k ≤ nF + no ∧ ∀ j, 1 ≤ j → j < no → j ∉ st.free → st.L[j]? = some (cont P c j))) (fun s9 _ => M - (intOf s9).toNat)
          case atStart => exact ⟨1, nF, rfl, Nat.le_refl _, hL1, Lib.hid ⟨H2.out, by omega, fun j h1 h2 => by omega⟩⟩
          case round =>
            obtain ⟨no, k, rfl, hn1, hnM, HI⟩ := hrel
            obtain ⟨lb3, cL3, AF3, cF3, rb3, cR3, g0, _, _, _, _, _⟩ := HRo.out wr k HI.out.1
            have HIj := Lib.hid (HIs.out wr k HI.out.1 no)
            by_cases hlt : no < M
            · have hlt2 : (no : Int) < (M : Int) := by omega
              by_cases hm : no ∈ st.free
              · rw [show decide (no ∈ st.free) = true by simpa using hm] at HIj
                have HM := Lib.hid hm
                clear hm
                go_wp2_with fail
                with_reducible refine HIj.out.mono ?_
                rintro e wz ⟨rfl, hwz⟩
                subst hwz
                go_wp2_with fail
                go_roundw
                have HI2 := Lib.hid (show SmW w wz f p s O2 O K P c st k ∧ k ≤ nF + (no + 1) ∧ ∀ j, 1 ≤ j → j < no + 1 → j ∉ st.free → st.L[j]? = some (cont P c j) from ⟨HI.out.1, by have := HI.out.2.1; omega, fun j h1 h2 h3 => by
                  rcases Nat.lt_or_ge j no with h | h
                  · exact HI.out.2.2 j h1 h h3
                  · obtain rfl : j = no := by omega
                    exact absurd HM.out h3⟩)
                case rel => first | exact ⟨no + 1, k, rfl, by omega, by omega, HI2⟩ | ((repeat apply Exists.intro); exact ⟨⟨no + 1, k, rfl, by omega, by omega, HI2⟩, rfl⟩)
                case measure => simp [intOf]; omega
              · rw [show decide (no ∈ st.free) = false by simpa using hm] at HIj
                have HM := Lib.hid hm
                have HRd := Lib.hid (HRe.out wr k HI.out.1 (by have := HI.out.2.1; have := HH.out.1; have := HH.out.2.1; omega) no hn1 hlt)
                clear hm
                go_wp2_with fail
                with_reducible refine HIj.out.mono ?_
                rintro e wz ⟨rfl, hwz⟩
                subst hwz
                go_wp2_with fail
                with_reducible refine HRd.out.mono ?_
                rintro e w5 ⟨A5, c5, rfl, H5⟩
                clear g0
                obtain ⟨lb5, cL5, AF5, cF5, rb5, cR5, g0, _, _, _, _, hrL5⟩ := HRo.out w5 (k + 1) H5.out.1
                obtain ⟨b, hb⟩ : ∃ b, st.L[no]? = some b := ⟨_, List.getElem?_eq_getElem (by have := HH.out.1; omega)⟩
                obtain ⟨g5, n5, k5, gl, hn5, _, hk5, hr5⟩ := hrL5 no b hn1 hb
                have HB := Lib.hid hb
                have hn05 : (0 : Int) ≤ (no : Int) := by omega
                have h9 : maxLen ≤ 9223372036854775807 := by unfold maxLen; decide
                have HS := Lib.hid (same_any A5 (some ⟨g5, 0, none⟩) 508 n5 c5 k5 (cont P c no) b w5 H5.out.2.1 hr5 (by omega) (by omega))
                clear hb hn5 hk5 hr5 hrL5 h9
                by_cases he : cont P c no = b
                · rw [show decide (cont P c no = b) = true by simpa using he] at HS
                  have HE := Lib.hid he
                  clear he
                  go_wp2_with (first | (go_at_call 50; with_reducible refine HS.out.mono ?_; rintro e w6 ⟨rfl, q6, hw6⟩; subst hw6))
                  go_roundw
                  have HI2 := Lib.hid (show SmW w (w5.drewN q6) f p s O2 O K P c st (k + 1) ∧ k + 1 ≤ nF + (no + 1) ∧ ∀ j, 1 ≤ j → j < no + 1 → j ∉ st.free → st.L[j]? = some (cont P c j) from ⟨H5.out.1.below (below_drewN (Below.refl _ w5) q6), by have := HI.out.2.1; omega, fun j h1 h2 h3 => by
                    rcases Nat.lt_or_ge j no with h | h
                    · exact HI.out.2.2 j h1 h h3
                    · obtain rfl : j = no := by omega
                      rw [HB.out, HE.out]⟩)
                  case rel => first | exact ⟨no + 1, k + 1, rfl, by omega, by omega, HI2⟩ | ((repeat apply Exists.intro); exact ⟨⟨no + 1, k + 1, rfl, by omega, by omega, HI2⟩, rfl⟩)
                  case measure => simp [intOf]; omega
                · rw [show decide (cont P c no = b) = false by simpa using he] at HS
                  have HE := Lib.hid he
                  clear he
                  go_wp2_with (first | (go_at_call 50; with_reducible refine HS.out.mono ?_; rintro e w6 ⟨rfl, q6, hw6⟩; subst hw6))
                  go_ret
                  refine ⟨false, k + 1, rfl, ⟨(fun e => by cases e), fun e => ?_⟩, H5.out.1.below (below_drewN (Below.refl _ w5) q6), by have := HI.out.2.1; have := HH.out.1; have := HH.out.2.1; omega⟩
                  have h1 := e.2.2.2 no hn1 (by have := HH.out.2.2.2.1; omega) HM.out
                  rw [HB.out] at h1
                  exact absurd (Option.some.inj h1).symm HE.out
            · obtain rfl : no = M := by omega
              clear g0
              obtain ⟨lb3, cL3, AF3, cF3, rb3, cR3, g0, _, _, _, _, _⟩ := HRo.out wr k HI.out.1
              go_wp2_with fail
              go_ret
              exact ⟨true, k, rfl, ⟨fun _ => ⟨HFF.out, by have := HH.out.1; have := HH.out.2.2.2.1; omega, HRE.out, fun j h1 h2 h3 => HI.out.2.2 j h1 (by have := HH.out.2.2.2.1; omega) h3⟩, fun _ => rfl⟩, HI.out.1, by have := HI.out.2.1; have := HH.out.1; have := HH.out.2.1; omega⟩
    · have hMn2 : ¬ (M : Int) = (nL : Int) := by omega
      have HMN := Lib.hid hMn
      clear hdF hFF
      go_wp2_with fail
      go_quiet (first | (go_at_call 48; exact Calls.quiet_of (HI.out _)) | (go_at_call 18; exact Calls.quiet_of_same (HMa.out _)))
      go_wp2_with fail
      go_ret
      exact ⟨false, nF, rfl, ⟨(fun e => by cases e), fun e => absurd (HH.out.2.2.2.1.trans (e.2.1.trans HH.out.1.symm)) HMN.out⟩, H1d.out _, by have := HH.out.2.1; omega⟩
  · have hdF : decide (natI F = natI st.free) = false := by
      have : natI F ≠ natI st.free := fun e => hFF (by
        have e2 := congrArg (List.map Int.toNat) e
        unfold natI at e2
        rw [List.map_map, List.map_map] at e2
        simpa [Function.comp_def] using e2)
      simpa using this
    rw [hdF] at HI
    have HFF := Lib.hid hFF
    clear hdF hFF
    go_wp2_with fail
    go_quiet (first | (go_at_call 48; exact Calls.quiet_of (HI.out _)) | (go_at_call 18; exact Calls.quiet_of_same (HMa.out _)))
    go_wp2_with fail
    go_ret
    exact ⟨false, nF, rfl, ⟨(fun e => by cases e), fun e => absurd e.1 HFF.out⟩, H1d.out _, by have := HH.out.2.1; omega⟩
end Go.Proofs.YtoadamkmabkldaaGreatDoor
