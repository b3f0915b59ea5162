/- The document's store: insert. -/
import Derived.Test.YtknjopefbbldfaaGreatDoorVfsZc
import Derived.BigQuiet
import Derived.Sort.Walk0
namespace Go.Proofs.YtknjopefbbldfaaGreatDoor
open Go.RowKit
attribute [local go_sem ↓] Go.wp_at_zero Go.wp_at_succ

theorem bk_newN (w : World) (n : Nat) (t : TypeId) (cs : Array Value) : Bk ((w.drewN n).alloc (.cells cs t)) w.heap.size t cs := Bk.new (w.drewN n) t cs
theorem below_newN {B : Nat} {w0 w : World} (h : Below B w0 w) (hB : B ≤ w.heap.size) (n : Nat) (o : Obj) : Below B w0 ((w.drewN n).alloc o) := (below_drewN h n).alloc hB o
theorem less_of (a b : List UInt8) : Op.bytesLess a b = decide (a < b) := Go.Proofs.bytesLess_eq a b
set_option maxHeartbeats 4000000 in
set_option maxRecDepth 100000 in
theorem ins_row (r : Nat) (vL : Value) (Rs : List RfR) (S : FsP) (nm : List UInt8) (R : RfR) (c1 c2 c3 c4 : Value) (w : World) (h : RfM w r vL Rs S) (hb : Bk w R.b 62 #[.string ⟨nm.toArray⟩, c1, c2, c3, c4]) (hn : Rs.length ≤ 999990) :
    Calls Tryz.prog 49 #[.pointer (some ⟨r, 0, none⟩), .pointer (some ⟨R.b, 0, none⟩)] w fun e w' => e = .returned (.tuple #[]) ∧ ∃ v, w'.ownsRow w.heap.size 59 1 v (Rs.length + 1) (ptrs (Rs.take (posP nm S.fs) ++ R :: Rs.drop (posP nm S.fs))) ∧ Bk w' r 48 #[v, .int .i64 (S.most : Int), .int .i64 (S.stamp : Int), .int .i64 S.fuse, .bool S.down] ∧ Ch (fun k => k = r) w w' := by
  obtain ⟨A, c, hvL, hc1, hc2⟩ := own_form h.row
  have H := Lib.hid h
  have Hb := Lib.hid hb
  obtain ⟨N, hN⟩ : ∃ N, N = Rs.length := ⟨_, rfl⟩
  obtain ⟨p, hp⟩ : ∃ p, p = posP nm S.fs := ⟨_, rfl⟩
  have hpN : p ≤ N := by have := posP_le nm S.fs; have := h.len; omega
  have HN := Lib.hid (And.intro hN (And.intro hvL hp))
  have hNb : N ≤ 999990 := by omega
  rw [← hp, ← hN]
  generalize hRb : R.b = b at *
  have HRb := Lib.hid hRb
  clear h hvL hc1 hc2 hN hn hp hb hRb
  go_enter Tryz.func49, Tryz.ntmps49
  go_wp2_with fail
  go_loopw [4, 5, 6] (fun s4 s5 s6 wr => ∃ (k : Nat) (t : Bool), s6 = .int .i64 (k : Int) ∧ k ≤ N ∧ s5 = .bool t ∧ Hid (t = decide (p < k) ∧ wr.ownsRow w.heap.size 59 1 s4 (outR Rs p R k).length (ptrs (outR Rs p R k)) ∧ Below w.heap.size w wr)) (fun _ _ s6 _ => N - (intOf s6).toNat)
  case atStart => exact ⟨0, false, rfl, Nat.zero_le _, rfl, Lib.hid ⟨by simp, World.ownsRow_nil _ _ _ _, Below.refl _ _⟩⟩
  case round =>
    obtain ⟨k, t, rfl, hk, rfl, HR⟩ := hrel
    obtain ⟨A4, c4, rfl, hc4, hc5⟩ := own_form HR.out.2.1
    have hbr := H.out.hd.below HR.out.2.2 H.out.hd.lt
    have hbb := Hb.out.below HR.out.2.2 Hb.out.lt
    obtain ⟨hN, hvL, hp⟩ := id HN.out
    have d0 : wr.cell? ⟨r, 0, none⟩ = some (.slice A N c) := by rw [hN, ← hvL]; exact hbr.cell 0
    have dn : wr.cell? ⟨b, 0, none⟩ = some (.string ⟨nm.toArray⟩) := hbb.cell 0
    have hlo : (outR Rs p R k).length ≤ 999995 := by rw [outR_len (by omega)]; split <;> omega
    have hsz := HR.out.2.2.size
    by_cases hlt : k < N
    · have hkR : k < Rs.length := by omega
      obtain ⟨g, c', hv9, hcell⟩ := H.out.ptr (List.getElem?_eq_getElem hkR)
      have hlt9 : g < w.heap.size := (H.out.row.lt g (by rw [hv9]; rfl)).2
      rw [hvL] at hv9
      injection hv9 with hv1 hv2 hv3
      subst hv1
      have dk : wr.cell? ⟨g, k, none⟩ = some (.pointer (some ⟨Rs[k].b, 0, none⟩)) := (HR.out.2.2.cell (p := ⟨g, k, none⟩) hlt9).trans hcell
      obtain ⟨n, x, hfs, hff⟩ := H.out.at_ (List.getElem?_eq_getElem hkR)
      have dm : wr.cell? ⟨Rs[k].b, 0, none⟩ = some (.string ⟨n.toArray⟩) := (hff.hd.below HR.out.2.2 hff.hd.lt).cell 0
      have e0 := less_of nm n
      obtain ⟨Rk, hRk⟩ : ∃ Rk, Rk = Rs[k] := ⟨_, rfl⟩
      have hxk : Rs[k]? = some Rk := by rw [hRk]; exact List.getElem?_eq_getElem hkR
      rw [← hRk] at dk dm
      have bg : Below w.heap.size w wr := HR.out.2.2
      by_cases hpk : p < k
      · have ht : t = true := by rw [HR.out.1]; simpa using hpk
        subst ht
        have HO := Lib.hid (outR_no (y := R) hxk (show p ≠ k by omega))
        have Hpk := Lib.hid hpk
        clear hkR hcell hlt9 hv2 hv3 hbr hbb hN hvL hp hRk hxk hfs hff dm e0 dn hpk hc4 hc5 bg
        go_wp2_with fail
        go_quiet (fail)
        go_wp2_with (with_reducible refine at_append ?_; (apply ap_pt (c := 1) (R := Rk) (b := wr.heap.size) ((own_drewN HR.out.2.1 _).alloc _) (Nat.le_trans hlo (by decide))); (case hbase => simp; omega); (case hb => exact bk_newN _ _ _ _); (case hs => kernel_rfl); (case hx => kernel_rfl); (case hw => kernel_rfl); intro v9 w9 o9 b9 g9; replace o9 := Lib.hid o9; replace b9 := Lib.hid b9; clear g9; try go_frame)
        go_roundw
        case rel =>
          refine ⟨k + 1, true, by rfl, by omega, by rfl, Lib.hid ⟨by have := Hpk.out; simp; omega, ?_, (below_newN HR.out.2.2 hsz _ _).trans (b9.out.mono (Nat.le_refl _))⟩⟩
          have := o9.out
          rw [← HO.out] at this
          rw [show (outR Rs p R (k + 1)).length = (outR Rs p R k).length + 1 by rw [HO.out]; simp]
          exact this
        case measure => simp [intOf]; omega
      · have ht : t = false := by rw [HR.out.1]; simpa using hpk
        subst ht
        by_cases hpe : p = k
        · have e1 : decide (nm < n) = true := by
            have := posP_at nm S.fs (n, x) (by rw [← hp, hpe]; exact hfs)
            simpa using this
          rw [e1] at e0
          subst hpe
          have HO := Lib.hid (outR_at (y := R) hxk)
          have HK := Lib.hid (show ∀ W, Below w.heap.size w W → W.cell? ⟨r, 0, none⟩ = some (.slice (some ⟨g, 0, none⟩) N c) ∧ W.cell? ⟨g, p, none⟩ = some (.pointer (some ⟨Rk.b, 0, none⟩)) from fun W hW =>
            ⟨by rw [hN, ← hvL]; exact (H.out.hd.below hW H.out.hd.lt).cell 0, (hW.cell (p := ⟨g, p, none⟩) hlt9).trans (by rw [hRk]; exact hcell)⟩)
          clear hkR hcell hlt9 hv2 hv3 hbr hbb hN hvL hp hRk hxk hfs hff e1 hpk hc4 hc5 bg
          go_wp2_with fail
          go_quiet (fail)
          go_wp2_with (first
            | (with_reducible refine at_append ?_; (apply ap_pt (c := 1) (R := R) (b := wr.heap.size) ((own_drewN HR.out.2.1 _).alloc _) (Nat.le_trans hlo (by decide))); (case hbase => simp; omega); (case hb => rw [HRb.out]; exact bk_newN _ _ _ _); (case hs => kernel_rfl); (case hx => kernel_rfl); (case hw => kernel_rfl); intro v9 w9 o9 b9 g9; replace o9 := Lib.hid o9; replace b9 := Lib.hid b9; clear g9; have HB1 := Lib.hid ((below_newN HR.out.2.2 hsz _ _).trans (b9.out.mono (Nat.le_refl _))); have hs9 := Lib.hid HB1.out.size; obtain ⟨y0, yk⟩ := HK.out w9 HB1.out; try go_frame)
            | (with_reducible refine at_append ?_; (apply ap_pt (c := 1) (R := Rk) (b := w9.heap.size) (o9.out.alloc _) (Nat.le_trans (Nat.succ_le_succ hlo) (by decide))); (case hbase => have := hs9.out; simp; omega); (case hb => exact Bk.new w9 _ _); (case hs => kernel_rfl); (case hx => kernel_rfl); (case hw => kernel_rfl); intro v10 w10 o10 b10 g10; replace o10 := Lib.hid o10; replace b10 := Lib.hid b10; clear g10; try go_frame))
          go_roundw
          case rel =>
            refine ⟨p + 1, true, by rfl, by omega, by rfl, Lib.hid ⟨by simp, ?_, (HB1.out.alloc hs9.out _).trans (b10.out.mono (Nat.le_refl _))⟩⟩
            have := o10.out
            rw [← HO.out] at this
            rw [show (outR Rs p R (p + 1)).length = (outR Rs p R p).length + 1 + 1 by rw [HO.out]; simp]
            exact this
          case measure => simp [intOf]; omega
        · have e1 : decide (nm < n) = false := by
            have := posP_no nm S.fs k (n, x) (by omega) hfs
            simpa using this
          rw [e1] at e0
          have HO := Lib.hid (outR_no (y := R) hxk hpe)
          have Hpk := Lib.hid (And.intro hpk hpe)
          clear hkR hcell hlt9 hv2 hv3 hbr hbb hN hvL hp hRk hxk hfs hff e1 hpk hpe hc4 hc5 bg
          go_wp2_with fail
          go_quiet (fail)
          go_wp2_with (with_reducible refine at_append ?_; (apply ap_pt (c := 1) (R := Rk) (b := wr.heap.size) ((own_drewN HR.out.2.1 _).alloc _) (Nat.le_trans hlo (by decide))); (case hbase => simp; omega); (case hb => exact bk_newN _ _ _ _); (case hs => kernel_rfl); (case hx => kernel_rfl); (case hw => kernel_rfl); intro v9 w9 o9 b9 g9; replace o9 := Lib.hid o9; replace b9 := Lib.hid b9; clear g9; try go_frame)
          go_roundw
          case rel =>
            refine ⟨k + 1, false, by rfl, by omega, by rfl, Lib.hid ⟨by have := Hpk.out; simp; omega, ?_, (below_newN HR.out.2.2 hsz _ _).trans (b9.out.mono (Nat.le_refl _))⟩⟩
            have := o9.out
            rw [← HO.out] at this
            rw [show (outR Rs p R (k + 1)).length = (outR Rs p R k).length + 1 by rw [HO.out]; simp]
            exact this
          case measure => simp [intOf]; omega
    · have hkN : N = k := by omega
      have f0 := hbr.free 0
      have hpl : p ≤ Rs.length := by omega
      have HE := Lib.hid (And.intro (outR_end (y := R) hpl) (And.intro (mid_len (y := R) hpl) (And.intro hN H.out.hd.lt)))
      have HBr := Lib.hid hbr
      clear hbb hN hvL hp hc4 hc5 hbr hpl
      subst hkN
      by_cases hpk : p < N
      · have ht : t = true := by rw [HR.out.1]; simpa using hpk
        subst ht
        have Hpk := Lib.hid hpk
        clear hpk
        go_wp2_with fail
        go_end0
        obtain ⟨e1, e2, e3, e4⟩ := HE.out
        rw [if_pos (by have := Hpk.out; omega), ← e3] at e1
        have ho := HR.out.2.1
        rw [← e1, e2, ← e3] at ho
        refine ⟨rfl, _, ?_, HBr.out.set 0 _, (Ch.of_below (S := fun k => k = r) HR.out.2.2 (Nat.le_refl _)).set (p := ⟨r, 0, none⟩) (.inl rfl) _⟩
        rw [← e1] at *
        rw [e2, ← e3] at *
        exact own_heap' ho (fun q hq => Below.heap_setCell _ _ _ q (fun e => by
          have := (ho.lt q hq).1
          dsimp only at e
          omega))
      · have ht : t = false := by rw [HR.out.1]; simpa using hpk
        subst ht
        have Hpk := Lib.hid hpk
        have HX := Lib.hid (show ∀ W, Below w.heap.size w W → Bk W r 48 #[vL, .int .i64 (S.most : Int), .int .i64 (S.stamp : Int), .int .i64 S.fuse, .bool S.down] from fun W hW => H.out.hd.below hW HE.out.2.2.2)
        clear hpk
        go_wp2_with ((with_reducible refine at_append ?_; (apply ap_pt (c := 1) (R := R) (b := wr.heap.size) (HR.out.2.1.alloc _) (Nat.le_trans hlo (by decide))); (case hbase => simp; omega); (case hb => rw [HRb.out]; exact Bk.new wr _ _); (case hs => kernel_rfl); (case hx => kernel_rfl); (case hw => kernel_rfl); intro v9 w9 o9 b9 g9; replace o9 := Lib.hid o9; replace b9 := Lib.hid b9; clear g9; have B9 := Lib.hid ((HR.out.2.2.alloc hsz _).trans (b9.out.mono (Nat.le_refl _))); have X9 := Lib.hid (HX.out w9 B9.out); have y0 := X9.out.cell 0; have f9 := X9.out.free 0; obtain ⟨A9, c9, rfl, _, _⟩ := own_form o9.out; try go_frame))
        go_end0
        obtain ⟨e1, e2, e3, e4⟩ := HE.out
        rw [if_neg (by have := Hpk.out; omega), ← e3] at e1
        have ho := o9.out
        refine ⟨rfl, _, ?_, X9.out.set 0 _, (Ch.of_below (S := fun k => k = r) B9.out (Nat.le_refl _)).set (p := ⟨r, 0, none⟩) (.inl rfl) _⟩
        have e5 : (outR Rs p R N).length + 1 = N + 1 := by rw [outR_len (by omega), if_neg (by have := Hpk.out; omega)]
        rw [e1, ← e5]
        exact own_heap' ho (fun q hq => Below.heap_setCell _ _ _ q (fun e => by
          have := (ho.lt q hq).1
          dsimp only at e
          omega))
end Go.Proofs.YtknjopefbbldfaaGreatDoor
/- The document's store: rows of a file that turn; append of one byte, of one bool; cuts. -/
namespace Go.Proofs.YtknjopefbbldfaaGreatDoor
open Go.RowKit
attribute [local go_sem ↓] Go.wp_at_zero Go.wp_at_succ

theorem own_take {w : World} {base s n c m : Nat} {e : TypeId} {A : Option Addr} {xs : List Value} (h : w.ownsRow base e s (.slice A n c) n xs) (hm : m ≤ n) : w.ownsRow base e s (.slice A m c) m (xs.take (m * s)) := by
  refine ⟨by rw [List.length_take, h.1]; exact Nat.min_eq_left (Nat.mul_le_mul_right _ hm), ?_⟩
  rcases h.2 with ⟨hv, hn⟩ | ⟨g, cap, cur, hv, hg, hh, h1, h2, h3, h4⟩
  · injection hv with hA hn' hc
    subst hA hc
    have : m = 0 := by omega
    subst this
    exact .inl ⟨rfl, rfl⟩
  · refine .inr ⟨g, cap, cur, ?_, hg, hh, by omega, h2, h3, ?_⟩
    · injection hv with hA _ hc; rw [hA, hc]
    · rw [← h4, List.take_take, Nat.min_eq_left (Nat.mul_le_mul_right _ hm)]
theorem own_two {w : World} {base s n base' s' n' : Nat} {e e' : TypeId} {v v' : Value} {xs xs' : List Value} (h : w.ownsRow base e s v n xs) (h' : w.ownsRow base' e' s' v' n' xs') (hne : e ≠ e') {i : Nat} (hi : v.ownBlock = some i) : v'.ownBlock ≠ some i := by
  intro hi'
  rcases h'.2 with ⟨rfl, _⟩ | ⟨g, cap, cur, rfl, _, hh, _⟩
  · cases hi'
  · injection hi' with hi'
    dsimp only at hi'
    subst hi'
    exact own_bk_ne (g := g) (cs := cur) h hh hne hi rfl
theorem grown_at {w w' : World} {row : Option Nat} (hg : w.grownBy w' row) {i : Nat} (hi : i < w.heap.size) (hr : row ≠ some i) : w'.heap[i]? = w.heap[i]? := hg.block i hi (fun e => hr e.symm)
section
variable {W W9 : World} {R : RfR} {n : List UInt8} {x : FlP} {v' : Value}
theorem RfF.newB {B' : List UInt8} (h : RfF W R n x) (hg : W.grownBy W9 R.vB.ownBlock) (ho : W9.ownsRow 0 5 1 v' B'.length (bys B')) (hv : ∀ i, v'.ownBlock = some i → R.vB.ownBlock = some i ∨ W.heap.size ≤ i) :
    RfF (W9.setCell ⟨R.b, 1, none⟩ v') ⟨R.b, v', R.vO, R.vW⟩ n { x with B := B' } := by
  have hb : R.vB.ownBlock ≠ some R.b := fun e => own_bk_ne h.b h.hd (by decide) e rfl
  have hb' : ∀ i, v'.ownBlock = some i → i ≠ R.b := fun i hi => by
    rcases hv i hi with h1 | h1
    · exact own_bk_ne h.b h.hd (by decide) h1
    · have := h.hd.lt; omega
  refine ⟨(h.hd.grown hg (fun e => hb e.symm)).set 1 v', own_heap' ho (fun i hi => Below.heap_setCell _ ⟨R.b, 1, none⟩ _ i (hb' i hi)), own_heap' h.o (fun i hi => ?_), own_heap' h.w (fun i hi => ?_), fun i hi => ?_⟩
  · exact (Below.heap_setCell _ ⟨R.b, 1, none⟩ _ i (own_bk_ne h.o h.hd (by decide) hi)).trans (grown_at hg (h.o.lt i hi).2 (fun e => h.ne i e hi))
  · exact (Below.heap_setCell _ ⟨R.b, 1, none⟩ _ i (own_bk_ne h.w h.hd (by decide) hi)).trans (grown_at hg (h.w.lt i hi).2 (own_two h.w h.b (by decide) hi))
  · rcases hv i hi with h1 | h1
    · exact h.ne i h1
    · intro e; have := (h.o.lt i e).2; omega
theorem RfF.newO {B' : List UInt8} (h : RfF W R n x) (hg : W.grownBy W9 R.vO.ownBlock) (ho : W9.ownsRow 0 5 1 v' B'.length (bys B')) (hv : ∀ i, v'.ownBlock = some i → R.vO.ownBlock = some i ∨ W.heap.size ≤ i) :
    RfF (W9.setCell ⟨R.b, 2, none⟩ v') ⟨R.b, R.vB, v', R.vW⟩ n { x with O := B' } := by
  have hb : R.vO.ownBlock ≠ some R.b := fun e => own_bk_ne h.o h.hd (by decide) e rfl
  have hb' : ∀ i, v'.ownBlock = some i → i ≠ R.b := fun i hi => by
    rcases hv i hi with h1 | h1
    · exact own_bk_ne h.o h.hd (by decide) h1
    · have := h.hd.lt; omega
  refine ⟨(h.hd.grown hg (fun e => hb e.symm)).set 2 v', own_heap' h.b (fun i hi => ?_), own_heap' ho (fun i hi => Below.heap_setCell _ ⟨R.b, 2, none⟩ _ i (hb' i hi)), own_heap' h.w (fun i hi => ?_), fun i hi e => ?_⟩
  · exact (Below.heap_setCell _ ⟨R.b, 2, none⟩ _ i (own_bk_ne h.b h.hd (by decide) hi)).trans (grown_at hg (h.b.lt i hi).2 (h.ne i hi))
  · exact (Below.heap_setCell _ ⟨R.b, 2, none⟩ _ i (own_bk_ne h.w h.hd (by decide) hi)).trans (grown_at hg (h.w.lt i hi).2 (own_two h.w h.o (by decide) hi))
  · rcases hv i e with h1 | h1
    · exact h.ne i hi h1
    · have := (h.b.lt i hi).2; omega
theorem RfF.newW {B' : List Bool} (h : RfF W R n x) (hg : W.grownBy W9 R.vW.ownBlock) (ho : W9.ownsRow 0 4 1 v' B'.length (blsV B')) (hv : ∀ i, v'.ownBlock = some i → R.vW.ownBlock = some i ∨ W.heap.size ≤ i) :
    RfF (W9.setCell ⟨R.b, 3, none⟩ v') ⟨R.b, R.vB, R.vO, v'⟩ n { x with W := B' } := by
  have hb : R.vW.ownBlock ≠ some R.b := fun e => own_bk_ne h.w h.hd (by decide) e rfl
  have hb' : ∀ i, v'.ownBlock = some i → i ≠ R.b := fun i hi => by
    rcases hv i hi with h1 | h1
    · exact own_bk_ne h.w h.hd (by decide) h1
    · have := h.hd.lt; omega
  refine ⟨(h.hd.grown hg (fun e => hb e.symm)).set 3 v', own_heap' h.b (fun i hi => ?_), own_heap' h.o (fun i hi => ?_), own_heap' ho (fun i hi => Below.heap_setCell _ ⟨R.b, 3, none⟩ _ i (hb' i hi)), h.ne⟩
  · exact (Below.heap_setCell _ ⟨R.b, 3, none⟩ _ i (own_bk_ne h.b h.hd (by decide) hi)).trans (grown_at hg (h.b.lt i hi).2 (own_two h.b h.w (by decide) hi))
  · exact (Below.heap_setCell _ ⟨R.b, 3, none⟩ _ i (own_bk_ne h.o h.hd (by decide) hi)).trans (grown_at hg (h.o.lt i hi).2 (own_two h.o h.w (by decide) hi))
end
/-- A file that turns: its blocks are its old ones, or new. -/
def SzI (w wr : World) (R : RfR) (n : List UInt8) (y : FlP) : Prop := ∃ R', R'.b = R.b ∧ RfF wr R' n y ∧ (∀ i, R'.has i → R.has i ∨ w.heap.size ≤ i) ∧ Ch R.has w wr
section
variable {w wr W9 : World} {R R' : RfR} {n : List UInt8} {y : FlP} {v' : Value}
theorem SzI.refl (h : RfF w R n y) : SzI w w R n y := ⟨R, rfl, h, fun _ hi => .inl hi, Ch.refl _ _⟩
theorem SzI.alloc (h : SzI w wr R n y) (o : Obj) : SzI w (wr.alloc o) R n y := by
  obtain ⟨R', h1, h2, h3, h4⟩ := h
  exact ⟨R', h1, h2.heap (fun i hi => Below.heap_alloc wr o i (h2.lt i hi)), h3, h4.alloc o⟩
theorem SzI.newB {B' : List UInt8} (hb : R'.b = R.b) (h : RfF wr R' n y) (h3 : ∀ i, R'.has i → R.has i ∨ w.heap.size ≤ i) (h4 : Ch R.has w wr) (hg : wr.grownBy W9 R'.vB.ownBlock) (ho : W9.ownsRow 0 5 1 v' B'.length (bys B')) (hv : ∀ i, v'.ownBlock = some i → R'.vB.ownBlock = some i ∨ wr.heap.size ≤ i) :
    SzI w (W9.setCell ⟨R.b, 1, none⟩ v') R n { y with B := B' } := by
  refine ⟨⟨R.b, v', R'.vO, R'.vW⟩, rfl, hb ▸ h.newB hg ho hv, fun i hi => ?_, (h4.grown hg (fun i hi => h3 i (.inr (.inl hi)))).set (p := ⟨R.b, 1, none⟩) (.inl (.inl rfl)) _⟩
  rcases hi with rfl | hi | hi | hi
  · exact .inl (.inl rfl)
  · rcases hv i hi with h1 | h1
    · exact h3 i (.inr (.inl h1))
    · exact .inr (Nat.le_trans h4.size h1)
  · exact h3 i (.inr (.inr (.inl hi)))
  · exact h3 i (.inr (.inr (.inr hi)))
theorem SzI.newO {B' : List UInt8} (hb : R'.b = R.b) (h : RfF wr R' n y) (h3 : ∀ i, R'.has i → R.has i ∨ w.heap.size ≤ i) (h4 : Ch R.has w wr) (hg : wr.grownBy W9 R'.vO.ownBlock) (ho : W9.ownsRow 0 5 1 v' B'.length (bys B')) (hv : ∀ i, v'.ownBlock = some i → R'.vO.ownBlock = some i ∨ wr.heap.size ≤ i) :
    SzI w (W9.setCell ⟨R.b, 2, none⟩ v') R n { y with O := B' } := by
  refine ⟨⟨R.b, R'.vB, v', R'.vW⟩, rfl, hb ▸ h.newO hg ho hv, fun i hi => ?_, (h4.grown hg (fun i hi => h3 i (.inr (.inr (.inl hi))))).set (p := ⟨R.b, 2, none⟩) (.inl (.inl rfl)) _⟩
  rcases hi with rfl | hi | hi | hi
  · exact .inl (.inl rfl)
  · exact h3 i (.inr (.inl hi))
  · rcases hv i hi with h1 | h1
    · exact h3 i (.inr (.inr (.inl h1)))
    · exact .inr (Nat.le_trans h4.size h1)
  · exact h3 i (.inr (.inr (.inr hi)))
theorem SzI.newW {B' : List Bool} (hb : R'.b = R.b) (h : RfF wr R' n y) (h3 : ∀ i, R'.has i → R.has i ∨ w.heap.size ≤ i) (h4 : Ch R.has w wr) (hg : wr.grownBy W9 R'.vW.ownBlock) (ho : W9.ownsRow 0 4 1 v' B'.length (blsV B')) (hv : ∀ i, v'.ownBlock = some i → R'.vW.ownBlock = some i ∨ wr.heap.size ≤ i) :
    SzI w (W9.setCell ⟨R.b, 3, none⟩ v') R n { y with W := B' } := by
  refine ⟨⟨R.b, R'.vB, R'.vO, v'⟩, rfl, hb ▸ h.newW hg ho hv, fun i hi => ?_, (h4.grown hg (fun i hi => h3 i (.inr (.inr (.inr hi))))).set (p := ⟨R.b, 3, none⟩) (.inl (.inl rfl)) _⟩
  rcases hi with rfl | hi | hi | hi
  · exact .inl (.inl rfl)
  · exact h3 i (.inr (.inl hi))
  · exact h3 i (.inr (.inr (.inl hi)))
  · rcases hv i hi with h1 | h1
    · exact h3 i (.inr (.inr (.inr h1)))
    · exact .inr (Nat.le_trans h4.size h1)
end
theorem infoBl : (Tryz.prog.info? 4).map (fun i => (i.zero, i.size, i.bytes)) = some (some (.bool false), 1, 1) := by kernel_rfl
theorem blsV_one (l : List Bool) : ∀ u ∈ blsV l, u.oneCell' = true := by
  intro u hu; simp only [blsV, List.mem_map] at hu; obtain ⟨x, _, rfl⟩ := hu; rfl
theorem blsV_app (a b : List Bool) : blsV (a ++ b) = blsV a ++ blsV b := by simp [blsV]
/-- append of one byte 0. -/
theorem ap_zb {w : World} {ops : Array Oper} {rest : List Oper} {a : Act} {Q : Exit → Act → World → Prop} {d : Option Tmp} {ty : TypeId} {pos : String} {af : Array Edge} {g : Option (Nat × Bool)} {s x : Operand}
    {v : Value} {n c b : Nat} {l : List UInt8} (hown : w.ownsRow 0 5 1 v n (bys l)) (hn : n ≤ 100000000) (hb : Bk w b 5 #[.int .u8 0]) (hs : a.eval s = v) (hx : a.eval x = .slice (some ⟨b, 0, none⟩) 1 c)
    (hw : Region.wanted { dst := d, op := .call { callee := .builtin .append, args := #[s, x], argTypes := #[29, 29] }, type := ty, pos := pos, after := af, guard := g } (yielded ops a.tmps) = true)
    (h : ∀ v' w', w'.ownsRow 0 5 1 v' (n + 1) (bys (l ++ [0])) → w.grownBy w' v.ownBlock → (∀ i, v'.ownBlock = some i → v.ownBlock = some i ∨ w.heap.size ≤ i) → wpList Tryz.prog ops Q rest (a.put d v') w') :
    wpList Tryz.prog ops Q ({ dst := d, op := .call { callee := .builtin .append, args := #[s, x], argTypes := #[29, 29] }, type := ty, pos := pos, after := af, guard := g } :: rest) a w := by
  have hr : Rd w w.heap.size 1 (some ⟨b, 0, none⟩) 1 (bys [0]) := ⟨rfl, fun _ => ⟨b, 0, rfl, hb.lt, fun j u hj => by
    match j, hj with
    | 0, hj => simp [bys] at hj; subst hj; exact hb.cell 0
    | j + 1, hj => simp [bys] at hj⟩⟩
  refine ap_bys hown hr (Below.refl 0 w) (Nat.zero_le _) (by omega) hs hx hw (fun v' w' h1 h2 h3 h4 => h v' w' h1 h3 (fun i hi => ?_))
  rcases h4 with h4 | h4
  · exact .inl (h4 ▸ hi)
  · rw [h4] at hi; injection hi with hi; exact .inr (by omega)
/-- append of one bool. -/
theorem ap_bl {w : World} {ops : Array Oper} {rest : List Oper} {a : Act} {Q : Exit → Act → World → Prop} {d : Option Tmp} {ty : TypeId} {pos : String} {af : Array Edge} {g : Option (Nat × Bool)} {s x : Operand}
    {v : Value} {n c b : Nat} {l : List Bool} {t : Bool} (hown : w.ownsRow 0 4 1 v n (blsV l)) (hn : n ≤ 100000000) (hb : Bk w b 4 #[.bool t]) (hs : a.eval s = v) (hx : a.eval x = .slice (some ⟨b, 0, none⟩) 1 c)
    (hw : Region.wanted { dst := d, op := .call { callee := .builtin .append, args := #[s, x], argTypes := #[60, 60] }, type := ty, pos := pos, after := af, guard := g } (yielded ops a.tmps) = true)
    (h : ∀ v' w', w'.ownsRow 0 4 1 v' (n + 1) (blsV (l ++ [t])) → w.grownBy w' v.ownBlock → (∀ i, v'.ownBlock = some i → v.ownBlock = some i ∨ w.heap.size ≤ i) → wpList Tryz.prog ops Q rest (a.put d v') w') :
    wpList Tryz.prog ops Q ({ dst := d, op := .call { callee := .builtin .append, args := #[s, x], argTypes := #[60, 60] }, type := ty, pos := pos, after := af, guard := g } :: rest) a w := by
  obtain ⟨i0, hi, hz0, hz1, hz2⟩ := info_parts infoBl
  have hr : Rd w w.heap.size 1 (some ⟨b, 0, none⟩) 1 (blsV [t]) := ⟨rfl, fun _ => ⟨b, 0, rfl, hb.lt, fun j u hj => by
    match j, hj with
    | 0, hj => simp [blsV] at hj; subst hj; exact hb.cell 0
    | j + 1, hj => simp [blsV] at hj⟩⟩
  refine ap_any Tryz.underlying60 hi hz0 hz1 hz2 rfl (by decide) hown hr (blsV_one _) (Below.refl 0 w) (Nat.zero_le _) (by omega) hs hx hw (fun v' w' h1 h2 h3 h4 => h v' w' (by rw [blsV_app]; exact h1) h3 (fun i hi => ?_))
  rcases h4 with h4 | h4
  · exact .inl (h4 ▸ hi)
  · rw [h4] at hi; injection hi with hi; exact .inr (by omega)
/-- s[:h] of bools. -/
theorem slice_hb {w : World} {ops : Array Oper} {rest : List Oper} {a : Act} {Q : Exit → Act → World → Prop} {d : Option Tmp} {ty : TypeId} {pos : String} {af : Array Edge} {g0 : Option (Nat × Bool)} {s hi : Operand}
    {A : Option Addr} {n c : Nat} {kh : IntKind} {xh : Int} (m : Nat) (hm : m ≤ c) (hs : a.eval s = .slice A n c) (hh : a.eval hi = .int kh xh) (el : xh = (m : Int)) (hA : c = 0 ∨ ∃ b o, A = some ⟨b, o, none⟩)
    (hw : Region.wanted { dst := d, op := .slice 60 s none (some hi) none, type := ty, pos := pos, after := af, guard := g0 } (yielded ops a.tmps) = true)
    (h : wpList Tryz.prog ops Q rest (a.put d (.slice A m c)) w) :
    wpList Tryz.prog ops Q ({ dst := d, op := .slice 60 s none (some hi) none, type := ty, pos := pos, after := af, guard := g0 } :: rest) a w :=
  BigFrame.wpList_want hw fun _ hK => by
    subst el
    have he : Tryz.prog.elem 60 = 4 := by kernel_rfl
    have hrun := run_slice_h (P := Tryz.prog) (w := w) 60 A n c (by rw [he]; exact Tryz.underlying60) kh (m : Int) (by omega) (by omega)
    rw [he, Tryz.sizeOf4 w] at hrun
    have hrun2 : (Instr.sliceAt 60 (.slice A n c) none (some (.int kh (m : Int))) none).run Tryz.prog w = .ok (.slice A m c) w := by
      rw [run_sliceAt_slice w 60 _ _ _ _ (by rw [he]; exact Tryz.underlying60), hrun]
      rcases hA with rfl | ⟨b, o, rfl⟩
      · simp [sliced]
      · simp [sliced, addLit]
    unfold Oper.wp execOp
    simp only [Option.map_some, Option.map_none, hs, hh, Sem.run_bind, hrun2, Sem.run_pure, Result.andThen_ok, Oper.upon_value]
    exact hK _ _ h
/-- What a row's slice points at. -/
theorem own_ptr {w : World} {base s n c : Nat} {e : TypeId} {A : Option Addr} {xs : List Value} (h : w.ownsRow base e s (.slice A n c) n xs) : c = 0 ∨ ∃ b o, A = some ⟨b, o, none⟩ := by
  rcases h.2 with ⟨hv, _⟩ | ⟨g, cap, cur, hv, _⟩
  · injection hv with _ _ hc; exact .inl hc
  · injection hv with hA _ _; exact .inr ⟨g, 0, hA⟩
end Go.Proofs.YtknjopefbbldfaaGreatDoor
/- The document's store: size. -/
namespace Go.Proofs.YtknjopefbbldfaaGreatDoor
open Go.RowKit
attribute [local go_sem ↓] Go.wp_at_zero Go.wp_at_succ

def sizeP (x : FlP) (n : Nat) : FlP := { x with B := (x.B ++ List.replicate (n - x.B.length) 0).take n, W := (x.W ++ List.replicate (needN n - x.W.length) false).take (needN n), O := (x.O ++ List.replicate (64 * needN n - x.O.length) 0).take (64 * needN n) }
/-- How long the slice in a cell is. -/
def lenK (w : World) (b k : Nat) : Nat := match w.cell? ⟨b, k, none⟩ with | some (.slice _ n _) => n | _ => 0
theorem lenK_eq {w : World} {b k n c : Nat} {A : Option Addr} (h : w.cell? ⟨b, k, none⟩ = some (.slice A n c)) : lenK w b k = n := by unfold lenK; rw [h]
theorem rep_one {α : Type} (l : List α) (q : Nat) (y : α) : l ++ List.replicate q y ++ [y] = l ++ List.replicate (q + 1) y := by rw [List.append_assoc, ← List.replicate_succ']
section
variable {w wr : World} {b : Nat} {vB0 vO0 vW0 vB vO vW : Value} {n : List UInt8} {y : FlP}
theorem step_b {o : Obj} (hf : RfF wr ⟨b, vB, vO, vW⟩ n y) (h3 : ∀ i, RfR.has ⟨b, vB, vO, vW⟩ i → RfR.has ⟨b, vB0, vO0, vW0⟩ i ∨ w.heap.size ≤ i) (h4 : Ch (RfR.has ⟨b, vB0, vO0, vW0⟩) w wr) {v9 : Value} {w9 : World} {B' : List UInt8} {m : Nat}
    (ho : w9.ownsRow 0 5 1 v9 m (bys B')) (hg : (wr.alloc o).grownBy w9 vB.ownBlock) (hv : ∀ i, v9.ownBlock = some i → vB.ownBlock = some i ∨ (wr.alloc o).heap.size ≤ i) :
    Bk w9 b 62 #[.string ⟨n.toArray⟩, vB, vO, vW, .int .i64 (y.stamp : Int)] ∧ SzI w (w9.setCell ⟨b, 1, none⟩ v9) ⟨b, vB0, vO0, vW0⟩ n { y with B := B' } := by
  have hm : m = B'.length := by have := ho.1; rw [bys_len] at this; omega
  subst hm
  have hf' : RfF (wr.alloc o) ⟨b, vB, vO, vW⟩ n y := hf.heap (fun i hi => Below.heap_alloc wr o i (hf.lt i hi))
  exact ⟨hf'.hd.grown hg (fun e => own_bk_ne hf'.b hf'.hd (by decide) e.symm rfl), SzI.newB (R' := ⟨b, vB, vO, vW⟩) rfl hf' h3 (h4.alloc o) hg ho hv⟩
theorem step_o {o : Obj} (hf : RfF wr ⟨b, vB, vO, vW⟩ n y) (h3 : ∀ i, RfR.has ⟨b, vB, vO, vW⟩ i → RfR.has ⟨b, vB0, vO0, vW0⟩ i ∨ w.heap.size ≤ i) (h4 : Ch (RfR.has ⟨b, vB0, vO0, vW0⟩) w wr) {v9 : Value} {w9 : World} {B' : List UInt8} {m : Nat}
    (ho : w9.ownsRow 0 5 1 v9 m (bys B')) (hg : (wr.alloc o).grownBy w9 vO.ownBlock) (hv : ∀ i, v9.ownBlock = some i → vO.ownBlock = some i ∨ (wr.alloc o).heap.size ≤ i) :
    Bk w9 b 62 #[.string ⟨n.toArray⟩, vB, vO, vW, .int .i64 (y.stamp : Int)] ∧ SzI w (w9.setCell ⟨b, 2, none⟩ v9) ⟨b, vB0, vO0, vW0⟩ n { y with O := B' } := by
  have hm : m = B'.length := by have := ho.1; rw [bys_len] at this; omega
  subst hm
  have hf' : RfF (wr.alloc o) ⟨b, vB, vO, vW⟩ n y := hf.heap (fun i hi => Below.heap_alloc wr o i (hf.lt i hi))
  exact ⟨hf'.hd.grown hg (fun e => own_bk_ne hf'.o hf'.hd (by decide) e.symm rfl), SzI.newO (R' := ⟨b, vB, vO, vW⟩) rfl hf' h3 (h4.alloc o) hg ho hv⟩
theorem step_w {o : Obj} (hf : RfF wr ⟨b, vB, vO, vW⟩ n y) (h3 : ∀ i, RfR.has ⟨b, vB, vO, vW⟩ i → RfR.has ⟨b, vB0, vO0, vW0⟩ i ∨ w.heap.size ≤ i) (h4 : Ch (RfR.has ⟨b, vB0, vO0, vW0⟩) w wr) {v9 : Value} {w9 : World} {B' : List Bool} {m : Nat}
    (ho : w9.ownsRow 0 4 1 v9 m (blsV B')) (hg : (wr.alloc o).grownBy w9 vW.ownBlock) (hv : ∀ i, v9.ownBlock = some i → vW.ownBlock = some i ∨ (wr.alloc o).heap.size ≤ i) :
    Bk w9 b 62 #[.string ⟨n.toArray⟩, vB, vO, vW, .int .i64 (y.stamp : Int)] ∧ SzI w (w9.setCell ⟨b, 3, none⟩ v9) ⟨b, vB0, vO0, vW0⟩ n { y with W := B' } := by
  have hm : m = B'.length := by have := ho.1; rw [blsV_len] at this; omega
  subst hm
  have hf' : RfF (wr.alloc o) ⟨b, vB, vO, vW⟩ n y := hf.heap (fun i hi => Below.heap_alloc wr o i (hf.lt i hi))
  exact ⟨hf'.hd.grown hg (fun e => own_bk_ne hf'.w hf'.hd (by decide) e.symm rfl), SzI.newW (R' := ⟨b, vB, vO, vW⟩) rfl hf' h3 (h4.alloc o) hg ho hv⟩
/-- A row is cut. -/
theorem cut_b {A : Option Addr} {c m : Nat} (hf : RfF wr ⟨b, .slice A y.B.length c, vO, vW⟩ n y) (hm : m ≤ y.B.length) (h3 : ∀ i, RfR.has ⟨b, .slice A y.B.length c, vO, vW⟩ i → RfR.has ⟨b, vB0, vO0, vW0⟩ i ∨ w.heap.size ≤ i) (h4 : Ch (RfR.has ⟨b, vB0, vO0, vW0⟩) w wr) :
    SzI w (wr.setCell ⟨b, 1, none⟩ (.slice A m c)) ⟨b, vB0, vO0, vW0⟩ n { y with B := y.B.take m } := by
  have ho := own_take hf.b hm
  have hl : (y.B.take m).length = m := by rw [List.length_take]; omega
  refine SzI.newB (R' := ⟨b, .slice A y.B.length c, vO, vW⟩) rfl hf h3 h4 (World.grownBy.refl _ _) ?_ (fun i hi => .inl (by cases A <;> exact hi))
  rw [hl]
  have : (bys y.B).take (m * 1) = bys (y.B.take m) := by unfold bys; rw [Nat.mul_one, List.map_take]
  rw [← this]; exact ho
theorem cut_o {A : Option Addr} {c m : Nat} (hf : RfF wr ⟨b, vB, .slice A y.O.length c, vW⟩ n y) (hm : m ≤ y.O.length) (h3 : ∀ i, RfR.has ⟨b, vB, .slice A y.O.length c, vW⟩ i → RfR.has ⟨b, vB0, vO0, vW0⟩ i ∨ w.heap.size ≤ i) (h4 : Ch (RfR.has ⟨b, vB0, vO0, vW0⟩) w wr) :
    SzI w (wr.setCell ⟨b, 2, none⟩ (.slice A m c)) ⟨b, vB0, vO0, vW0⟩ n { y with O := y.O.take m } := by
  have ho := own_take hf.o hm
  have hl : (y.O.take m).length = m := by rw [List.length_take]; omega
  refine SzI.newO (R' := ⟨b, vB, .slice A y.O.length c, vW⟩) rfl hf h3 h4 (World.grownBy.refl _ _) ?_ (fun i hi => .inl (by cases A <;> exact hi))
  rw [hl]
  have : (bys y.O).take (m * 1) = bys (y.O.take m) := by unfold bys; rw [Nat.mul_one, List.map_take]
  rw [← this]; exact ho
theorem cut_w {A : Option Addr} {c m : Nat} (hf : RfF wr ⟨b, vB, vO, .slice A y.W.length c⟩ n y) (hm : m ≤ y.W.length) (h3 : ∀ i, RfR.has ⟨b, vB, vO, .slice A y.W.length c⟩ i → RfR.has ⟨b, vB0, vO0, vW0⟩ i ∨ w.heap.size ≤ i) (h4 : Ch (RfR.has ⟨b, vB0, vO0, vW0⟩) w wr) :
    SzI w (wr.setCell ⟨b, 3, none⟩ (.slice A m c)) ⟨b, vB0, vO0, vW0⟩ n { y with W := y.W.take m } := by
  have ho := own_take hf.w hm
  have hl : (y.W.take m).length = m := by rw [List.length_take]; omega
  refine SzI.newW (R' := ⟨b, vB, vO, .slice A y.W.length c⟩) rfl hf h3 h4 (World.grownBy.refl _ _) ?_ (fun i hi => .inl (by cases A <;> exact hi))
  rw [hl]
  have : (blsV y.W).take (m * 1) = blsV (y.W.take m) := by unfold blsV; rw [Nat.mul_one, List.map_take]
  rw [← this]; exact ho
end
set_option maxHeartbeats 4000000 in
set_option maxRecDepth 100000 in
theorem size_any (R : RfR) (x : FlP) (nm : List UInt8) (n : Nat) (w : World) (h : RfF w R nm x) (hw : x.WF) (hn : n ≤ 5000000) (hB : x.B.length ≤ 5000000) :
    Calls Tryz.prog 50 #[.pointer (some ⟨R.b, 0, none⟩), .int .i64 (n : Int)] w fun e w' => e = .returned (.tuple #[]) ∧ SzI w w' R nm (sizeP x n) := by
  obtain ⟨b, vB0, vO0, vW0⟩ := R
  dsimp only
  have H0 := Lib.hid (SzI.refl h)
  obtain ⟨K, hK⟩ : ∃ K, K = needN n := ⟨_, rfl⟩
  obtain ⟨LB, hLB⟩ : ∃ q, q = x.B.length := ⟨_, rfl⟩
  obtain ⟨LW, hLW⟩ : ∃ q, q = x.W.length := ⟨_, rfl⟩
  have hLO : x.O.length = 64 * LW := by rw [hLW]; exact hw.o
  have e1 : IntKind.i64.wrap ((n : Int) + 63) = ((n + 63 : Nat) : Int) := by rw [IntWalk.i64_in _ (by omega)]; omega
  have e2 : IntKind.i64.wrap (Int.tdiv ((n + 63 : Nat) : Int) 64) = (K : Int) := by
    rw [show (64 : Int) = ((64 : Nat) : Int) by rfl, Int.tdiv_eq_ediv_of_nonneg (by omega), hK]
    rw [IntWalk.i64_in _ (by omega)]; unfold needN; omega
  have hKn : K ≤ 100000 := by rw [hK]; unfold needN; omega
  have e3 : IntKind.i64.wrap (64 * (K : Int)) = ((64 * K : Nat) : Int) := by rw [IntWalk.i64_in _ (by omega)]; omega
  have hLWb : LW ≤ 100000 := by rw [hLW, hw.w]; unfold needN; omega
  have hLBb : LB ≤ 5000000 := by omega
  have Hx := Lib.hid (And.intro hK (And.intro hLB (And.intro hLW hLO)))
  clear h hw hK hLB hLW hLO hB
  generalize hs1 : ((n + 63 : Nat) : Int) = s1 at *
  generalize hs2 : ((64 * K : Nat) : Int) = s2 at *
  have Hs := Lib.hid (And.intro hs1 hs2)
  clear hs1 hs2
  go_enter Tryz.func50, Tryz.ntmps50
  go_wp2_with fail
  go_loopw [] (fun wr => Hid (∃ q, SzI w wr ⟨b, vB0, vO0, vW0⟩ nm { x with B := x.B ++ List.replicate q 0 } ∧ (q = 0 ∨ LB + q ≤ n))) (fun wr => n - lenK wr b 1)
  case atStart => exact Lib.hid ⟨0, by simpa using H0.out, .inl rfl⟩
  case round =>
    obtain ⟨q, ⟨⟨b', vB, vO, vW⟩, hb, hf, hh, hc⟩, hq⟩ := hrel.out
    dsimp only at hb
    subst hb
    obtain ⟨L, hL⟩ : ∃ L, L = LB + q := ⟨_, rfl⟩
    have hl : (x.B ++ List.replicate q 0).length = L := by rw [List.length_append, List.length_replicate, hL, Hx.out.2.1]
    have hown := hf.b
    dsimp only at hown
    rw [hl] at hown
    obtain ⟨A, c, rfl, hc1, hc2⟩ := own_form hown
    have d1 : wr.cell? ⟨b', 1, none⟩ = some (.slice A L c) := hf.hd.cell 1
    have Hm := Lib.hid (lenK_eq d1)
    have hLb : L ≤ 10000000 := by omega
    clear hrel
    by_cases hlt : L < n
    · have HO := Lib.hid hown
      have HS := Lib.hid (fun (v9 : Value) (w9 : World) (m : Nat) (o : Obj) (ho : w9.ownsRow 0 5 1 v9 m (bys (x.B ++ List.replicate q 0 ++ [0]))) hg hv => step_b (o := o) hf hh hc ho hg hv)
      have Hq := Lib.hid (And.intro hL hlt)
      clear hown hf hh hc hq hL hl hc1 hc2
      go_wp2_with ((with_reducible refine at_append ?_; (apply ap_zb (c := 1) (b := wr.heap.size) (HO.out.alloc _) (Nat.le_trans hLb (by decide))); (case hb => exact Bk.new wr _ _); (case hs => kernel_rfl); (case hx => kernel_rfl); (case hw => kernel_rfl); intro v9 w9 o9 g9 h9; obtain ⟨K9, S9⟩ := HS.out v9 w9 _ _ o9 g9 h9; have y1 := K9.cell 1; have f1 := K9.free 1; obtain ⟨A9, c9, rfl, _, _⟩ := own_form o9; replace S9 := Lib.hid S9; replace o9 := Lib.hid o9; replace K9 := Lib.hid K9; clear g9 h9; try go_frame))
      go_roundw
      case rel =>
        refine Lib.hid ⟨q + 1, ?_, by have := Hq.out; omega⟩
        have := S9.out
        rw [rep_one] at this
        exact this
      case measure =>
        have e9 : lenK (w9.setCell ⟨b', 1, none⟩ (.slice A9 (L + 1) c9)) b' 1 = L + 1 := lenK_eq ((K9.out.set 1 (.slice A9 (L + 1) c9)).cell 1)
        rw [e9, Hm.out]
        have := Hq.out; omega
    · have hqq : q = n - LB := by omega
      have hcutb := cut_b (m := n) (y := { x with B := x.B ++ List.replicate q 0 }) (by dsimp only; rw [hl]; exact hf) (by dsimp only; rw [hl]; omega) (by dsimp only; rw [hl]; exact hh) hc
      have HC := Lib.hid hcutb
      have f1 := hf.hd.free 1
      have HA := Lib.hid (own_ptr hown)
      have hnc : n ≤ c := by omega
      have Hqq := Lib.hid hqq
      clear hown hf hh hc hq hL hl hc1 hc2 hqq hcutb
      obtain ⟨wo, hwo⟩ : ∃ wo : World, wo = wr := ⟨_, rfl⟩
      subst hwo
      go_wp2_with ((with_reducible refine at_slice ?_; (apply slice_h (A := A) (n := L) (c := c) (kh := .i64) (xh := (n : Int)) n); (case hm => exact hnc); (case hs => kernel_rfl); (case hh => kernel_rfl); (case el => rfl); (case hA => exact HA.out); (case hw => kernel_rfl); try go_frame))
      generalize wo.setCell ⟨b', 1, none⟩ (.slice A n c) = w1 at *
      obtain ⟨B', hB'⟩ : ∃ B', B' = (x.B ++ List.replicate q 0).take n := ⟨_, rfl⟩
      rw [← hB'] at HC
      have HB' := Lib.hid (show B' = (x.B ++ List.replicate (n - x.B.length) 0).take n from by rw [hB', Hqq.out, Hx.out.2.1])
      clear hB' d1 f1 Hm HA hnc Hqq hLb
      go_loopw [5] (fun s5 wr => Hid (∃ j, SzI w wr ⟨b', vB0, vO0, vW0⟩ nm { x with B := B', W := x.W ++ List.replicate j false, O := x.O ++ List.replicate (64 * j) 0 } ∧ (j = 0 ∨ LW + j ≤ K))) (fun _ wr => K - lenK wr b' 3)
      case atStart => exact Lib.hid ⟨0, by simpa using HC.out, .inl rfl⟩
      case round =>
        obtain ⟨j, ⟨⟨b, vB, vO, vW⟩, hb, hf, hh, hc⟩, hj⟩ := hrel.out
        dsimp only at hb
        subst hb
        obtain ⟨J, hJ⟩ : ∃ J, J = LW + j := ⟨_, rfl⟩
        have hl : (x.W ++ List.replicate j false).length = J := by rw [List.length_append, List.length_replicate, hJ, Hx.out.2.2.1]
        have hown := hf.w
        dsimp only at hown
        rw [hl] at hown
        obtain ⟨A3, c3, rfl, hc1, hc2⟩ := own_form hown
        have d3 : wr.cell? ⟨b, 3, none⟩ = some (.slice A3 J c3) := hf.hd.cell 3
        have Hm := Lib.hid (lenK_eq d3)
        have hJb : J ≤ 10000000 := by omega
        clear hrel
        by_cases hlt : J < K
        · have HO := Lib.hid hown
          have HS := Lib.hid (fun (v9 : Value) (w9 : World) (m : Nat) (o : Obj) (ho : w9.ownsRow 0 4 1 v9 m (blsV (x.W ++ List.replicate j false ++ [false]))) hg hv => step_w (o := o) hf hh hc ho hg hv)
          have Hj := Lib.hid (And.intro hJ hlt)
          obtain ⟨wo, hwo⟩ : ∃ wo : World, wo = wr := ⟨_, rfl⟩
          subst hwo
          clear hown hf hh hc hj hJ hl hc1 hc2
          go_wp2_with ((with_reducible refine at_append ?_; (apply ap_bl (c := 1) (b := wo.heap.size) (t := false) (HO.out.alloc _) (Nat.le_trans hJb (by decide))); (case hb => exact Bk.new wo _ _); (case hs => kernel_rfl); (case hx => kernel_rfl); (case hw => kernel_rfl); intro v9 w9 o9 g9 h9; obtain ⟨K9, S9⟩ := HS.out v9 w9 _ _ o9 g9 h9; have y1 := K9.cell 3; have f1 := K9.free 3; obtain ⟨A9, c9, rfl, _, _⟩ := own_form o9; replace S9 := Lib.hid S9; replace o9 := Lib.hid o9; replace K9 := Lib.hid K9; clear g9 h9; try go_frame))
          have HS2 := Lib.hid (show SzI w (w9.setCell ⟨b, 3, none⟩ (.slice A9 (J + 1) c9)) ⟨b, vB0, vO0, vW0⟩ nm { x with B := B', W := x.W ++ List.replicate (j + 1) false, O := x.O ++ List.replicate (64 * j + 0) 0 } ∧ lenK (w9.setCell ⟨b, 3, none⟩ (.slice A9 (J + 1) c9)) b 3 = J + 1 from
            ⟨by have := S9.out; rw [rep_one] at this; exact this, lenK_eq ((K9.out.set 3 (.slice A9 (J + 1) c9)).cell 3)⟩)
          generalize w9.setCell ⟨b, 3, none⟩ (.slice A9 (J + 1) c9) = w2 at *
          clear y1 f1 K9 S9 o9 HS HO d3
          go_loopw [5] (fun s5 wi => ∃ i : Nat, s5 = .int .i64 (i : Int) ∧ i ≤ 64 ∧ Hid (SzI w wi ⟨b, vB0, vO0, vW0⟩ nm { x with B := B', W := x.W ++ List.replicate (j + 1) false, O := x.O ++ List.replicate (64 * j + i) 0 } ∧ lenK wi b 3 = J + 1)) (fun s5 _ => 64 - (intOf s5).toNat)
          case atStart => exact ⟨0, rfl, by omega, HS2⟩
          case round =>
            obtain ⟨i, rfl, hi, HI⟩ := hrel
            by_cases hi64 : i < 64
            · obtain ⟨⟨⟨b9, vB9, vO9, vW9⟩, hb9, hf, hh, hc⟩, hlk⟩ := HI.out
              dsimp only at hb9
              subst hb9
              obtain ⟨I, hI⟩ : ∃ I, I = 64 * LW + (64 * j + i) := ⟨_, rfl⟩
              have hl : (x.O ++ List.replicate (64 * j + i) 0).length = I := by rw [List.length_append, List.length_replicate, hI, Hx.out.2.2.2]
              have hown := hf.o
              dsimp only at hown
              rw [hl] at hown
              obtain ⟨A2, c2, rfl, hc1, hc2⟩ := own_form hown
              have d2 : wr.cell? ⟨b9, 2, none⟩ = some (.slice A2 I c2) := hf.hd.cell 2
              have hIb : I ≤ 10000000 := by have := Hj.out; omega
              have HO := Lib.hid hown
              have HS := Lib.hid (fun (v9 : Value) (w9 : World) (m : Nat) (o : Obj) (ho : w9.ownsRow 0 5 1 v9 m (bys (x.O ++ List.replicate (64 * j + i) 0 ++ [0]))) hg hv => step_o (o := o) hf hh hc ho hg hv)
              have Hlk := Lib.hid (show wr.cell? ⟨b9, 3, none⟩ = some vW9 ∧ lenK wr b9 3 = J + 1 from ⟨hf.hd.cell 3, hlk⟩)
              clear hown hf hh hc hI hl hc1 hc2 hlk HI
              go_wp2_with ((with_reducible refine at_append ?_; (apply ap_zb (c := 1) (b := wr.heap.size) (HO.out.alloc _) (Nat.le_trans hIb (by decide))); (case hb => exact Bk.new wr _ _); (case hs => kernel_rfl); (case hx => kernel_rfl); (case hw => kernel_rfl); intro v9 w9 o9 g9 h9; obtain ⟨K9, S9⟩ := HS.out v9 w9 _ _ o9 g9 h9; have y1 := K9.cell 2; have f1 := K9.free 2; obtain ⟨A9, c9, rfl, _, _⟩ := own_form o9; replace S9 := Lib.hid S9; replace o9 := Lib.hid o9; replace K9 := Lib.hid K9; clear g9 h9; try go_frame))
              go_roundw
              case rel =>
                refine ⟨i + 1, by rfl, by omega, Lib.hid ⟨?_, ?_⟩⟩
                · have := S9.out
                  rw [rep_one] at this
                  exact this
                · have e9 : (w9.setCell ⟨b9, 2, none⟩ (.slice A9 (I + 1) c9)).cell? ⟨b9, 3, none⟩ = some vW9 := (K9.out.set 2 (.slice A9 (I + 1) c9)).cell 3
                  have h9 := Hlk.out.2
                  unfold lenK at h9 ⊢
                  rw [e9]; rw [Hlk.out.1] at h9; exact h9
              case measure => simp [intOf]; omega
            · have hi2 : i = 64 := by omega
              subst hi2
              go_wp2_with fail
              go_roundw
              case rel =>
                refine Lib.hid ⟨j + 1, ?_, by have := Hj.out; omega⟩
                exact HI.out.1
              case measure => rw [HI.out.2, Hm.out]; have := Hj.out; omega
        · have hjj : j = K - LW := by omega
          have f3 := hf.hd.free 3
          have hcutw := cut_w (m := K) (y := { x with B := B', W := x.W ++ List.replicate j false, O := x.O ++ List.replicate (64 * j) 0 }) (by dsimp only; rw [hl]; exact hf) (by dsimp only; rw [hl]; omega) (by dsimp only; rw [hl]; exact hh) hc
          have HA := Lib.hid (own_ptr hown)
          have hKc : K ≤ c3 := by omega
          obtain ⟨⟨b9, vB9, vO9, vW9⟩, hb9, hf9, hh9, hc9⟩ := hcutw
          dsimp only at hb9
          subst hb9
          obtain ⟨I, hI⟩ : ∃ I, I = 64 * LW + 64 * j := ⟨_, rfl⟩
          have hl2 : (x.O ++ List.replicate (64 * j) 0).length = I := by rw [List.length_append, List.length_replicate, hI, Hx.out.2.2.2]
          have hown2 := hf9.o
          dsimp only at hown2
          rw [hl2] at hown2
          obtain ⟨A2, c2, rfl, hc21, hc22⟩ := own_form hown2
          have d2 : (wr.setCell ⟨b9, 3, none⟩ (.slice A3 K c3)).cell? ⟨b9, 2, none⟩ = some (.slice A2 I c2) := hf9.hd.cell 2
          have f2 := hf9.hd.free 2
          have HA2 := Lib.hid (own_ptr hown2)
          have hKI : 64 * K ≤ I := by omega
          have hcuto := cut_o (m := 64 * K) (y := { x with B := B', W := (x.W ++ List.replicate j false).take K, O := x.O ++ List.replicate (64 * j) 0 }) (by dsimp only; rw [hl2]; exact hf9) (by dsimp only; rw [hl2]; exact hKI) (by dsimp only; rw [hl2]; exact hh9) hc9
          have hKc2 : 64 * K ≤ c2 := by omega
          have HE := Lib.hid hcuto
          have Hjj := Lib.hid hjj
          clear hown hf hh hc hj hJ hl hc1 hc2 hjj hcuto hf9 hh9 hc9 hI hl2 hown2 hc21 hc22 hKI
          go_wp2_with (first
            | (with_reducible refine at_slice ?_; (apply slice_hb (A := A3) (n := J) (c := c3) (kh := .i64) (xh := (K : Int)) K); (case hm => exact hKc); (case hs => kernel_rfl); (case hh => kernel_rfl); (case el => rfl); (case hA => exact HA.out); (case hw => kernel_rfl); try go_frame)
            | (with_reducible refine at_slice ?_; (apply slice_h (A := A2) (n := I) (c := c2) (kh := .i64) (xh := s2) (64 * K)); (case hm => exact hKc2); (case hs => kernel_rfl); (case hh => kernel_rfl); (case el => exact Hs.out.2.symm); (case hA => exact HA2.out); (case hw => kernel_rfl); try go_frame))
          go_end0
          refine ⟨rfl, ?_⟩
          have e9 : sizeP x n = { x with B := B', W := (x.W ++ List.replicate j false).take K, O := (x.O ++ List.replicate (64 * j) 0).take (64 * K) } := by
            obtain ⟨h1, h2, h3, h4⟩ := Hx.out
            unfold sizeP
            rw [HB'.out, Hjj.out, h3, h1, h4, show 64 * needN n - 64 * LW = 64 * (needN n - x.W.length) by rw [h3]; omega]
          rw [e9]
          exact HE.out
end Go.Proofs.YtknjopefbbldfaaGreatDoor
