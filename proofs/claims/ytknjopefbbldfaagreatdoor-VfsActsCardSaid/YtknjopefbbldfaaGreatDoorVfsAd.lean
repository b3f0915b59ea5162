/- VfsActs: whatever is done, a store of files tells, and has, what the document says. -/
import Derived.Test.YtknjopefbbldfaaGreatDoorVfsAc
import Derived.PinnedBridge
import Derived.Stop.LaidErr
namespace Go.Proofs.YtknjopefbbldfaaGreatDoor
open Go.RowKit
attribute [local go_sem ↓] Go.wp_at_zero Go.wp_at_succ

theorem vfsActs_laid (W : World) (_ : laidMet Tryz.prog Rows.vfsActsRow.laid W) : True := trivial
theorem ins_len (n : List UInt8) (x : FlP) (l : List (List UInt8 × FlP)) : (insP n x l).length = l.length + 1 := by
  rw [ins_at, mid_len (posP_le n l)]
theorem drop_len (n : List UInt8) (l : List (List UInt8 × FlP)) : (dropP n l).length ≤ l.length := List.length_filter_le _ _
theorem set_len (n : List UInt8) (x : FlP) (l : List (List UInt8 × FlP)) : (setP n x l).length = l.length := by simp [setP]
theorem burnt_le (S : FsP) : (burntP S).stamp ≤ S.stamp + 1 ∧ (burntP S).fs.length ≤ S.fs.length + 1 := by
  obtain ⟨e1, e2, e3, e4, e5⟩ := burntP_parts S
  rw [e2, e3]; omega
theorem actP_le (S : FsP) (a : ActV) : (actP S a).2.stamp ≤ S.stamp + 1 ∧ (actP S a).2.fs.length ≤ S.fs.length + 1 := by
  have h0 : S.stamp ≤ S.stamp + 1 ∧ S.fs.length ≤ S.fs.length + 1 := by omega
  have hb := burnt_le S
  unfold actP
  split
  · unfold createP
    split; exact h0
    split; exact h0
    split; exact h0
    split; exact hb
    exact ⟨Nat.le_refl _, by show (insP _ _ S.fs).length ≤ _; rw [ins_len]; exact Nat.le_refl _⟩
  split
  · unfold writeP
    split; exact h0
    split
    · exact h0
    · split; exact h0
      split; exact h0
      split; exact h0
      split; exact hb
      exact ⟨Nat.le_refl _, by show (setP _ _ S.fs).length ≤ _; rw [set_len]; omega⟩
  split
  · unfold cutF
    split; exact h0
    split
    · exact h0
    · split; exact h0
      split; exact hb
      exact ⟨Nat.le_refl _, by show (setP _ _ S.fs).length ≤ _; rw [set_len]; omega⟩
  split
  · unfold renameP
    split; exact h0
    split
    · exact h0
    · split; exact h0
      split; exact hb
      exact ⟨Nat.le_refl _, by
        show (insP _ _ (dropP _ (dropP _ S.fs))).length ≤ _
        rw [ins_len]
        have h1 := drop_len a.to.data.toList (dropP a.name.data.toList S.fs)
        have h2 := drop_len a.name.data.toList S.fs
        omega⟩
  split
  · unfold deleteP
    split; exact h0
    split
    · exact h0
    · split; exact hb
      refine ⟨hb.1, ?_⟩
      show (dropP _ S.fs).length ≤ _
      have h2 := drop_len a.name.data.toList S.fs
      omega
  split
  · unfold syncF
    split; exact h0
    split
    · exact h0
    · split; exact hb
      refine ⟨hb.1, ?_⟩
      show (setP _ _ S.fs).length ≤ _
      rw [set_len]; omega
  split
  · exact h0
  split
  · refine ⟨h0.1, ?_⟩
    show (crashL a.keep 0 S.fs).length ≤ _
    rw [crashL_len]; omega
  exact h0
/-- Two stores side by side, and an act in a box. -/
def TwoB (w W : World) (f r : Nat) (S1 S2 : FsP) (bx : Nat) (cs : Array Value) : Prop :=
  ∃ O1 O2 : Nat → Prop, FsA W O1 f S1 ∧ RfA W O2 r S2 ∧ (∀ k, O1 k → w.heap.size ≤ k ∧ k < W.heap.size) ∧ (∀ k, O2 k → w.heap.size ≤ k ∧ k < W.heap.size) ∧ (∀ k, O1 k → ¬ O2 k) ∧ Below w.heap.size w W ∧ Bk W bx 32 cs ∧ ¬ O1 bx ∧ ¬ O2 bx
theorem TwoB.drew {w W : World} {f r : Nat} {S1 S2 : FsP} {bx : Nat} {cs : Array Value} (h : TwoB w W f r S1 S2 bx cs) : TwoB w W.drew f r S1 S2 bx cs := by
  obtain ⟨O1, O2, h1, h2, h3, h4, h5, h6, h7, h8⟩ := h
  exact ⟨O1, O2, h1.heap (fun _ _ _ => rfl), h2.heap (fun _ _ _ => rfl), h3, h4, h5, h6.drew, h7, h8⟩
section
variable {w W : World} {f r : Nat} {S1 S2 : FsP} {bx : Nat} {cs : Array Value}
theorem do_two (h : TwoB w W f r S1 S2 bx cs) (q : ActV) (A : Option Addr) (n c b0 : Nat) (hst : S1.stamp ≤ 1000) (hname : q.name.size ≤ 100) (hto : q.to.size ≤ 100) (hi1 : -9223372036854775808 ≤ q.n ∧ q.n ≤ 9223372036854775807)
    (hn : n = q.B.length) (hnm : n ≤ 1000) (hnc : n ≤ c) (hc : c ≤ maxLen) (hr : Rs w b0 A q.B) (hb0 : 0 < n → b0 < w.heap.size) :
    Calls Tryz.prog 8 #[.pointer (some ⟨f, 0, none⟩), .agg (actC q A n c)] W fun e w' => e = .returned (.int .i64 ((actP S1 q).1 : Int)) ∧ TwoB w w' f r (actP S1 q).2 S2 bx cs := by
  obtain ⟨O1, O2, h1, h2, h3, h4, h5, h6, h7, h8, h9⟩ := h
  refine (do_any f O1 S1 q A n c b0 W h1 hst hname hto hi1 hn hnm hnc hc (fun h0 => (hr.heap (h6.block b0 (hb0 (by omega)))) h0) (fun h0 e => by have := (h3 b0 e).1; have := hb0 h0; omega) (fun h0 => Nat.lt_of_lt_of_le (hb0 h0) h6.size)).mono ?_
  rintro e w' ⟨rfl, k1, k2⟩
  have hs := k2.size
  have hw := h6.size
  refine ⟨rfl, fun k => (O1 k ∨ W.heap.size ≤ k) ∧ k < w'.heap.size, O2, k1.mono (fun i hi hl => ⟨hi, hl⟩), h2.heap (fun i hi hl => k2.block i hl (fun e => h5 i e hi)), fun k hk => ⟨?_, hk.2⟩, fun k hk => ⟨(h4 k hk).1, by have := (h4 k hk).2; omega⟩, fun k hk hk2 => ?_, h6.trans (k2.below hw (fun i hi => (h3 i hi).1)), h7.ch k2 h8, fun hk => ?_, h9⟩
  · rcases hk.1 with e | e
    · exact (h3 k e).1
    · omega
  · rcases hk.1 with e | e
    · exact h5 k e hk2
    · have := (h4 k hk2).2; omega
  · rcases hk.1 with e | e
    · exact h8 e
    · have := h7.lt; omega
theorem told_two (h : TwoB w W f r S1 S2 bx cs) (q : ActV) (A : Option Addr) (n c b0 : Nat) (hst : S2.stamp ≤ 1000) (hm : S2.fs.length ≤ 1000) (hname : q.name.size ≤ 100) (hto : q.to.size ≤ 100) (hi1 : -9223372036854775808 ≤ q.n ∧ q.n ≤ 9223372036854775807)
    (hn : n = q.B.length) (hnm : n ≤ 1000) (hnc : n ≤ c) (hc : c ≤ maxLen) (hr : Rs w b0 A q.B) (hb0 : 0 < n → b0 < w.heap.size) :
    Calls Tryz.prog 9 #[.pointer (some ⟨r, 0, none⟩), .agg (actC q A n c)] W fun e w' => e = .returned (.int .i64 ((actP S2 q).1 : Int)) ∧ TwoB w w' f r S1 (actP S2 q).2 bx cs := by
  obtain ⟨O1, O2, h1, h2, h3, h4, h5, h6, h7, h8, h9⟩ := h
  refine (told_any r O2 S2 q A n c b0 W h2 hst hm hname hto hi1 hn hnm hnc hc (fun h0 => (hr.heap (h6.block b0 (hb0 (by omega)))) h0) (fun h0 e => by have := (h4 b0 e).1; have := hb0 h0; omega) (fun h0 => Nat.lt_of_lt_of_le (hb0 h0) h6.size)).mono ?_
  rintro e w' ⟨rfl, k1, k2⟩
  have hs := k2.size
  have hw := h6.size
  refine ⟨rfl, O1, fun k => (O2 k ∨ W.heap.size ≤ k) ∧ k < w'.heap.size, h1.heap (fun i hi hl => k2.block i hl (fun e => h5 i hi e)), k1.mono (fun i hi hl => ⟨hi, hl⟩), fun k hk => ⟨(h3 k hk).1, by have := (h3 k hk).2; omega⟩, fun k hk => ⟨?_, hk.2⟩, fun k hk hk2 => ?_, h6.trans (k2.below hw (fun i hi => (h4 i hi).1)), h7.ch k2 h9, h8, fun hk => ?_⟩
  · rcases hk.1 with e | e
    · exact (h4 k e).1
    · omega
  · rcases hk2.1 with e | e
    · exact h5 k hk e
    · have := (h3 k hk).2; omega
  · rcases hk.1 with e | e
    · exact h9 e
    · have := h7.lt; omega
theorem same_two {S : FsP} (h : TwoB w W f r S S bx cs) (hst : S.stamp ≤ 1000) (hm : S.fs.length ≤ 1000) :
    Calls Tryz.prog 10 #[.pointer (some ⟨f, 0, none⟩), .pointer (some ⟨r, 0, none⟩)] W fun e w' => e = .returned (.bool true) ∧ TwoB w w' f r S S bx cs := by
  obtain ⟨O1, O2, h1, h2, h3, h4, h5, h6, h7, h8, h9⟩ := h
  refine (samev_any f r O1 O2 S W h1 h2 hst hm).mono ?_
  rintro e w' ⟨rfl, hb⟩
  have hs := hb.size
  exact ⟨rfl, O1, O2, FsA.below h1 hb, h2.below hb, fun k hk => ⟨(h3 k hk).1, by have := (h3 k hk).2; omega⟩, fun k hk => ⟨(h4 k hk).1, by have := (h4 k hk).2; omega⟩, h5, h6.trans (hb.mono h6.size), h7.below hb h7.lt, h8, h9⟩
end
/-- Two stores side by side. -/
def TwoS (w W : World) (f r : Nat) (S : FsP) : Prop :=
  ∃ O1 O2 : Nat → Prop, FsA W O1 f S ∧ RfA W O2 r S ∧ (∀ k, O1 k → w.heap.size ≤ k ∧ k < W.heap.size) ∧ (∀ k, O2 k → w.heap.size ≤ k ∧ k < W.heap.size) ∧ (∀ k, O1 k → ¬ O2 k) ∧ Below w.heap.size w W
theorem TwoS.box {w W : World} {f r : Nat} {S : FsP} (h : TwoS w W f r S) (cs : Array Value) : TwoB w (W.alloc (.cells cs 32)) f r S S W.heap.size cs := by
  obtain ⟨O1, O2, h1, h2, h3, h4, h5, h6⟩ := h
  exact ⟨O1, O2, h1.heap (fun i _ hi => Below.heap_alloc W _ i hi), h2.heap (fun i _ hi => Below.heap_alloc W _ i hi), fun k hk => ⟨(h3 k hk).1, by have := (h3 k hk).2; simp; omega⟩, fun k hk => ⟨(h4 k hk).1, by have := (h4 k hk).2; simp; omega⟩, h5, h6.alloc h6.size _, Bk.new W _ _, fun e => by have := (h3 _ e).2; omega, fun e => by have := (h4 _ e).2; omega⟩
theorem TwoB.two {w W : World} {f r : Nat} {S : FsP} {bx : Nat} {cs : Array Value} (h : TwoB w W f r S S bx cs) : TwoS w W f r S := by
  obtain ⟨O1, O2, h1, h2, h3, h4, h5, h6, _⟩ := h
  exact ⟨O1, O2, h1, h2, h3, h4, h5, h6⟩
theorem TwoB.cells {w W : World} {f r : Nat} {S1 S2 : FsP} {bx : Nat} {q : ActV} {A : Option Addr} {n c : Nat} (h : TwoB w W f r S1 S2 bx (actC q A n c)) :
    W.cell? ⟨bx, 0, none⟩ = some (.int .i64 q.kind) ∧ W.cell? ⟨bx, 1, none⟩ = some (.int .i64 q.n) ∧ W.cell? ⟨bx, 2, none⟩ = some (.string q.name) ∧ W.cell? ⟨bx, 3, none⟩ = some (.string q.to) ∧ W.cell? ⟨bx, 4, none⟩ = some (.slice A n c) ∧ W.cell? ⟨bx, 5, none⟩ = some (.int .u64 (q.keep.toNat : Int)) := by
  obtain ⟨O1, O2, h1, h2, h3, h4, h5, h6, h7, _⟩ := h
  exact ⟨h7.cell 0, h7.cell 1, h7.cell 2, h7.cell 3, h7.cell 4, h7.cell 5⟩
set_option maxHeartbeats 8000000 in
set_option maxRecDepth 100000 in
theorem vfsActs_walk (a0 : Int) (A : Option Addr) (n c : Nat) (ls : List ActV) (w : World) (h0 : -9223372036854775808 ≤ a0 ∧ a0 ≤ 9223372036854775807) (hr : RdAs w w.heap.size A n ls) (hnc : n ≤ c) (hcm : c ≤ maxLen) (_ : True) :
    Calls Tryz.prog 3 #[.int .i64 a0, .slice A n c] w fun e w' => e = .returned (.bool true) ∧ Below w.heap.size w w' := by
  rename_i hT
  clear hT
  have HWk := Lib.hid (wakes_any w)
  have HR := Lib.hid hr
  have HG := Lib.hid (fun W (hW : Below w.heap.size w W) => great_any A n c ls W (by
    have := hr.below hW (Nat.le_refl _)
    refine ⟨this.1, fun h1 => ?_⟩
    obtain ⟨b, o, x1, x2, x3⟩ := this.2 h1
    exact ⟨b, o, x1, Nat.lt_of_lt_of_le x2 hW.size, fun i q hq => by
      have y := x3 i q hq
      obtain ⟨v, c1, A', n', c', c2, c3, c4⟩ := y.c4
      exact ⟨y.c0, y.c1, y.c2, y.c3, ⟨v, c1, A', n', c', c2, c3.more hW.size, c4⟩, y.c5, y.i1, y.s2, y.s3⟩⟩) hnc hcm)
  have HN1 := Lib.hid (fun W => new_fs a0 W)
  have HN2 := Lib.hid (fun W => rnew_any a0 W)
  have hnb : n ≤ 9223372036854775807 := by unfold maxLen at hcm; omega
  clear hr hnc hcm h0
  go_enter Tryz.func3, Tryz.ntmps3
  go_wp2_with fail
  with_reducible refine HWk.out.mono ?_
  rintro e w1 ⟨rfl, b1⟩
  have B1 := Lib.hid b1
  clear b1
  go_wp2_with fail
  with_reducible refine (HG.out w1 B1.out).mono ?_
  rintro e w2 ⟨g, rfl, hg, b2⟩
  have B2 := Lib.hid (show Below w.heap.size w w2 from B1.out.trans (b2.mono B1.out.size))
  clear b2
  cases g with
  | true =>
    clear hg
    go_wp2_with fail
    go_ret
    exact ⟨rfl, B2.out⟩
  | false =>
    obtain ⟨hn80, hfit⟩ := hg rfl
    have HFit := Lib.hid hfit
    clear hg hfit
    go_wp2_with fail
    with_reducible refine (HN1.out w2).mono ?_
    rintro e w3 ⟨f, rfl, h3, b3⟩
    have H3 := Lib.hid (And.intro h3 b3)
    clear h3 b3
    go_wp2_with fail
    with_reducible refine (HN2.out w3).mono ?_
    rintro e w4 ⟨r, rfl, h4, b4⟩
    have H4 := Lib.hid (show TwoS w w4 f r (newP a0) from by
      have s2 := B2.out.size
      have s3 := H3.out.2.size
      have s4 := b4.size
      have e3 : FsA w4 (fun k => w2.heap.size ≤ k ∧ k < w3.heap.size) f (newP a0) := FsA.below H3.out.1 b4
      refine ⟨_, fun k => w3.heap.size ≤ k ∧ k < w4.heap.size, e3, h4.mono (fun i hi hl => ⟨hi, hl⟩), fun k hk => ⟨by omega, by omega⟩, fun k hk => ⟨by omega, hk.2⟩, fun k hk hk2 => by omega, (B2.out.trans (H3.out.2.mono s2)).trans (b4.mono (by omega))⟩)
    clear h4 b4
    go_wp2_with fail
    go_loopw [8, 19] (fun s8 s19 wr => ∃ i : Nat, s19 = .int .i64 (i : Int) ∧ i ≤ n ∧ Hid (∃ S, TwoS w wr f r S ∧ S.stamp ≤ i ∧ S.fs.length ≤ i)) (fun _ s19 _ => n - (intOf s19).toNat)
    case atStart => exact ⟨0, rfl, Nat.zero_le _, Lib.hid ⟨_, H4.out, Nat.zero_le _, Nat.le_refl _⟩⟩
    case round =>
      obtain ⟨i, rfl, hi, HI⟩ := hrel
      by_cases hlt : i < n
      · obtain ⟨S, h2, hst, hfl⟩ := HI.out
        obtain ⟨q, hq⟩ : ∃ q, ls[i]? = some q := ⟨_, List.getElem?_eq_getElem (by have := HR.out.1; omega)⟩
        have hbw : Below w.heap.size w wr := by obtain ⟨_, _, _, _, _, _, _, x⟩ := h2; exact x
        obtain ⟨b, o, hA, hb, hcs⟩ := HR.out.2 (by omega)
        have hact := hcs i q hq
        subst hA
        obtain ⟨vB, d4, AB, nB, cB, hvB, hrB, hnB, hcB⟩ := hact.c4
        subst hvB
        have e0 : wr.cell? ⟨b, o + i * 6, none⟩ = some (.int .i64 q.kind) := (hbw.cell (p := ⟨b, o + i * 6, none⟩) hb).trans hact.c0
        have e1 : wr.cell? ⟨b, o + i * 6 + 1, none⟩ = some (.int .i64 q.n) := (hbw.cell (p := ⟨b, o + i * 6 + 1, none⟩) hb).trans hact.c1
        have e2 : wr.cell? ⟨b, o + i * 6 + 2, none⟩ = some (.string q.name) := (hbw.cell (p := ⟨b, o + i * 6 + 2, none⟩) hb).trans hact.c2
        have e3 : wr.cell? ⟨b, o + i * 6 + 3, none⟩ = some (.string q.to) := (hbw.cell (p := ⟨b, o + i * 6 + 3, none⟩) hb).trans hact.c3
        have e4 : wr.cell? ⟨b, o + i * 6 + 4, none⟩ = some (.slice AB nB cB) := (hbw.cell (p := ⟨b, o + i * 6 + 4, none⟩) hb).trans d4
        have e5 : wr.cell? ⟨b, o + i * 6 + 5, none⟩ = some (.int .u64 (q.keep.toNat : Int)) := (hbw.cell (p := ⟨b, o + i * 6 + 5, none⟩) hb).trans hact.c5
        obtain ⟨f1, f2, f3⟩ := HFit.out q (List.mem_of_getElem? hq)
        obtain ⟨b0, hb0, hrs⟩ := rs_of_rd hrB
        have hlB := hrB.blen
        obtain ⟨rc, hrc⟩ : ∃ rc, rc = (actP S q).1 := ⟨_, rfl⟩
        obtain ⟨S', hS'⟩ : ∃ S', S' = (actP S q).2 := ⟨_, rfl⟩
        have hle := actP_le S q
        rw [← hS'] at hle
        have HDo := Lib.hid (fun W (h : TwoB w W f r S S wr.heap.size (actC q AB nB cB)) => by
          have := do_two h q AB nB cB b0 (by omega) f2 f3 hact.i1 hlB.symm (by omega) hnB hcB hrs hb0
          rw [← hrc, ← hS'] at this
          exact this)
        have HTl := Lib.hid (fun W (h : TwoB w W f r S' S wr.heap.size (actC q AB nB cB)) => by
          have := told_two h q AB nB cB b0 (by omega) (by omega) f2 f3 hact.i1 hlB.symm (by omega) hnB hcB hrs hb0
          rw [← hrc, ← hS'] at this
          exact this)
        have HSm := Lib.hid (fun W (h : TwoB w W f r S' S' wr.heap.size (actC q AB nB cB)) => same_two h (by omega) (by omega))
        have HB := Lib.hid (h2.box (actC q AB nB cB)).drew
        have HLe := Lib.hid (And.intro hle (And.intro hst hfl))
        clear h2 hst hfl hq hact hcs hrB hnB hcB f1 f2 f3 hb0 hrs hlB hrc hS' hle hbw d4 HI
        go_wp2_with fail
        have hc0 := HB.out
        go_region_held3 (fun W => W.cell? ⟨wr.heap.size, 0, none⟩ = some (.int .i64 q.kind) ∧ W.cell? ⟨wr.heap.size, 1, none⟩ = some (.int .i64 q.n) ∧ W.cell? ⟨wr.heap.size, 2, none⟩ = some (.string q.name) ∧ W.cell? ⟨wr.heap.size, 3, none⟩ = some (.string q.to) ∧ W.cell? ⟨wr.heap.size, 4, none⟩ = some (.slice AB nB cB) ∧ W.cell? ⟨wr.heap.size, 5, none⟩ = some (.int .u64 (q.keep.toNat : Int)))
          (first | exact hc3.cells | exact hc2.cells | exact hc1.cells | exact hc0.cells | go_keep)
          (first
            | (go_at_call 8; with_reducible refine (HDo.out _ hc0).mono ?_; rintro e w5 ⟨rfl, hc1⟩)
            | (go_at_call 9; with_reducible refine (HTl.out _ hc1).mono ?_; rintro e w6 ⟨rfl, hc2⟩)
            | (go_at_call 10; with_reducible refine (HSm.out _ hc2).mono ?_; rintro e w7 ⟨rfl, hc3⟩))
        have HC := Lib.hid hc3
        clear hc0 hc1 hc2 hc3
        go_wp2_with fail
        go_roundw
        case rel => exact ⟨i + 1, by rfl, by omega, Lib.hid ⟨S', HC.out.two, by have := HLe.out; omega, by have := HLe.out; omega⟩⟩
        case measure => simp [intOf]; omega
      · have hin : i = n := by omega
        have HE := Lib.hid (show Below w.heap.size w wr from by obtain ⟨S, ⟨_, _, _, _, _, _, _, x⟩, _⟩ := HI.out; exact x)
        subst hin
        go_wp2_with fail
        go_ret
        exact ⟨rfl, HE.out⟩
end Go.Proofs.YtknjopefbbldfaaGreatDoor
