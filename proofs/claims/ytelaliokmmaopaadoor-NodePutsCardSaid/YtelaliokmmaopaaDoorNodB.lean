/- Contracts of package node: what wakes the laws. -/
import Derived.Test.YtelaliokmmaopaaDoorNodA
namespace Go.Proofs.YtelaliokmmaopaaDoor
open Go.RowKit
attribute [local go_sem ↓] Go.wp_at_zero Go.wp_at_succ

def nd0 (leaf : Bool) : NodP := ⟨leaf, [], []⟩
theorem rdn0 (w : World) (B : Nat) (leaf : Bool) : RdN w B ⟨none, 0, 0, none, 0, 0⟩ (nd0 leaf) := ⟨⟨rfl, fun h => absurd h (Nat.lt_irrefl 0)⟩, ⟨rfl, fun h => absurd h (Nat.lt_irrefl 0)⟩, Nat.le_refl _, Nat.le_refl _, by decide, by decide⟩
theorem right0 : RightP (nd0 true) := ⟨⟨fun _ => rfl, fun h => (by cases h), (by decide)⟩, CellsTo.zero _ _, fun k hk => (by cases hk)⟩
set_option maxHeartbeats 1000000 in
theorem put0_any (w : World) :
    Calls Tryd.prog 18 #[.agg (ndC true ⟨none, 0, 0, none, 0, 0⟩)] w fun e w' => ∃ A c, e = .returned (.tuple #[.slice A 3 c, .int .i64 0]) ∧ Below w.heap.size w w' := by
  have hrt := fun W : World => right_any ⟨none, 0, 0, none, 0, 0⟩ (nd0 true) W (rdn0 W _ _) (by decide) (by decide)
  have hpk := fun W : World => pack_leaf ⟨none, 0, 0, none, 0, 0⟩ (nd0 true) W (rdn0 W _ _) right0 rfl
  rw [show (nd0 true).leaf = true by rfl, rightB_true right0] at hrt
  rw [show (packN (nd0 true)).length = 3 by decide +kernel] at hpk
  unfold ndC at hrt hpk ⊢
  simp only at hrt hpk ⊢
  have Hrt := Lib.hid hrt
  have Hpk := Lib.hid hpk
  clear hrt hpk
  go_enter Tryd.func18, Tryd.ntmps18
  go_wp2_with fail
  refine (Hrt.out _).mono ?_
  rintro e w1 ⟨rfl, hb1⟩
  have hg1 : Bk w1 w.heap.size 27 #[.bool true, .slice none 0 0, .slice none 0 0] := Bk.below (Bk.new w _ _) hb1 (by simp)
  have f0 : w1.cell? ⟨w.heap.size, 0, none⟩ = some (.bool true) := hg1.cell 0
  have f1 : w1.cell? ⟨w.heap.size, 1, none⟩ = some (.slice none 0 0) := hg1.cell 1
  have f2 : w1.cell? ⟨w.heap.size, 2, none⟩ = some (.slice none 0 0) := hg1.cell 2
  have B1 := Lib.hid (((Below.refl w.heap.size w).alloc (Nat.le_refl _) (.cells #[.bool true, .slice none 0 0, .slice none 0 0] 27)).trans (hb1.mono (by simp)))
  clear hg1 hb1
  go_wp2_with fail
  refine (Hpk.out _).mono ?_
  rintro e w2 ⟨v, rfl, ho, hb2⟩
  obtain ⟨Av, cv, rfl, _, _⟩ := own_form ho
  have B2 := Lib.hid (B1.out.trans (hb2.mono B1.out.size))
  clear ho hb2
  go_wp2_with fail
  go_ret2
  exact ⟨Av, cv, rfl, B2.out⟩
theorem infoI : (Tryd.prog.info? 3).map (fun i => (i.zero, i.size, i.bytes)) = some (some (.int .i64 0), 1, 8) := by kernel_rfl
theorem ap_its_step {w : World} {ops : Array Oper} {a : Act} {K : Act → World → Prop} {Q : Exit → Act → World → Prop} {E : Prop} {d : Option Tmp} {ty : TypeId} {pos : String} {af : Array Edge} {s x : Operand} {base : Nat}
    {v : Value} {n : Nat} {xs : List Int} {B : Nat} {A : Option Addr} {m c : Nat} {news : List Int} (hown : w.ownsRow base 3 1 v n (its xs)) (hr : Rd w B 1 A m (its news))
    (hbase : base ≤ w.heap.size) (hbytes : n + m ≤ 1000000)
    (hs : a.eval s = v) (hx : a.eval x = .slice A m c)
    (h : ∀ v' w', w'.ownsRow base 3 1 v' (n + m) (its (xs ++ news)) → Below base w w' → w.grownBy w' v.ownBlock → (v'.ownBlock = v.ownBlock ∨ v'.ownBlock = some w.heap.size) → K (a.put d v') w') :
    if Region.wanted { dst := d, op := .call { callee := .builtin .append, args := #[s, x], argTypes := #[25, 25] }, type := ty, pos := pos, after := af, guard := none } (yielded ops a.tmps) = true then
      Oper.wp Tryd.prog { dst := d, op := .call { callee := .builtin .append, args := #[s, x], argTypes := #[25, 25] }, type := ty, pos := pos, after := af, guard := none } a w K Q else E := by
  obtain ⟨i0, hi, hz0, hz1, hz2⟩ := info_parts infoI
  rw [if_pos (by simp [Region.wanted])]
  obtain ⟨v', w', hrun, h2, h3, h4⟩ := run_append_rd (P := Tryd.prog) w base 25 ty 3 i0 (.int .i64 0) 1 8 Tryd.underlying25 hi hz0 hz1 hz2 rfl (by decide) v n (its xs) hown B A m c (its news) hr (its_one _) (by unfold maxLen; omega) (by omega) hbase
  unfold Oper.wp execOp
  simp only [resolve, invoke, builtin, Sem.run_bind, Sem.run_pure, Result.andThen_ok, List.map_toArray, List.map_cons, List.map_nil, hs, hx, hrun]
  exact h v' w' (by rw [its_app]; exact h2) ((Below.refl _ _).grown h3 hbase (fun k hk => (hown.lt k hk).1)) h3 h4
def gl0 : List UInt8 := [3, 0, 0]
set_option maxHeartbeats 2000000 in
set_option maxRecDepth 100000 in
theorem get0_any (w : World) (A : Option Addr) (hr : Rd w w.heap.size 1 A 3 (bys gl0)) :
    Calls Tryd.prog 9 #[.slice A 3 3] w fun e w' => e = .returned (.tuple #[.agg #[.bool false, .slice none 0 0, .slice none 0 0], .int .i64 4]) ∧ Below w.heap.size w w' := by
  have Hr := Lib.hid hr
  clear hr
  go_enter Tryd.func9, Tryd.ntmps9
  have hw1 : Below w.heap.size w ((w.alloc (.cells #[.bool false, .slice none 0 0, .slice none 0 0] 27)).alloc (.cells #[.slice A 3 3, .int .i64 0, .bool true] 50)) := ((Below.refl _ _).alloc (Nat.le_refl _) _).alloc (by simp) _
  have hd1 : Bk ((w.alloc (.cells #[.bool false, .slice none 0 0, .slice none 0 0] 27)).alloc (.cells #[.slice A 3 3, .int .i64 0, .bool true] 50)) w.heap.size 27 #[.bool false, .slice none 0 0, .slice none 0 0] := (Bk.new w _ _).alloc _
  have hn1 : NR ((w.alloc (.cells #[.bool false, .slice none 0 0, .slice none 0 0] 27)).alloc (.cells #[.slice A 3 3, .int .i64 0, .bool true] 50)) (w.heap.size + 1) A 3 3 0 true := by
    have := Bk.new (w.alloc (.cells #[.bool false, .slice none 0 0, .slice none 0 0] 27)) 50 #[.slice A 3 3, .int .i64 0, .bool true]
    simpa [NR] using this
  have Hw1 := Lib.hid hw1
  have Hd1 := Lib.hid hd1
  have Hnn := Lib.hid (nnum_any (w.heap.size + 1) A 3 3 0 1 true gl0 _ hn1 ((Hr.out.below hw1 (Nat.le_refl _)).more hw1.size) (by omega) (by omega) (by omega) (by omega))
  clear hw1 hd1 hn1
  go_wp2_with fail
  refine Hnn.out.mono ?_
  rintro e w2 ⟨v, wl, rfl, hv0, hv1, hwt, hwf, hn2, hc2⟩
  cases wl
  case false => exact absurd (hwf rfl) (by simp)
  obtain ⟨_, _, rfl⟩ := hwt rfl
  have hS2 : Below w.heap.size w w2 := Hw1.out.trans (hc2.below Hw1.out.size (fun i hi => by omega))
  have hz2 : w.heap.size + 1 < w2.heap.size := by have := hc2.size; simp at this; omega
  have hd2 : Bk w2 w.heap.size 27 #[.bool false, .slice none 0 0, .slice none 0 0] := Bk.ch Hd1.out hc2 (by omega)
  have Hnn2 := Lib.hid (nnum_any (w.heap.size + 1) A 3 3 (0 + 1) 2 true gl0 _ hn2 ((Hr.out.below hS2 (Nat.le_refl _)).more hS2.size) (by omega) (by omega) (by omega) (by omega))
  have Hd2 := Lib.hid hd2
  have HS2 := Lib.hid hS2
  clear hn2 hc2 hS2 hd2 hv0 hv1 hwt hwf Hnn Hw1 Hd1
  rw [show nAt gl0 0 1 = 3 by decide +kernel]
  go_wp2_with fail
  refine Hnn2.out.mono ?_
  rintro e w3 ⟨v, wl, rfl, hv0, hv1, hwt, hwf, hn3, hc3⟩
  cases wl
  case false => exact absurd (hwf rfl) (by simp)
  obtain ⟨_, _, rfl⟩ := hwt rfl
  have hS3 : Below w.heap.size w w3 := HS2.out.trans (hc3.below (by omega) (fun i hi => by omega))
  have hz3 : w.heap.size + 1 < w3.heap.size := by have := hc3.size; omega
  have hd3 : Bk w3 w.heap.size 27 #[.bool false, .slice none 0 0, .slice none 0 0] := Bk.ch Hd2.out hc3 (by omega)
  have HN3 := Lib.hid (show NR (w3.alloc (.cells #[.bool false, .slice none 0 0, .slice none 0 0] 27)) (w.heap.size + 1) A 3 3 3 true from Bk.alloc hn3 _)
  have HS4 := Lib.hid (hS3.alloc hS3.size (.cells #[.bool false, .slice none 0 0, .slice none 0 0] 27))
  have HD4 := Lib.hid (Bk.alloc hd3 (.cells #[.bool false, .slice none 0 0, .slice none 0 0] 27))
  have HG4 := Lib.hid (Bk.new w3 27 #[.bool false, .slice none 0 0, .slice none 0 0])
  have hz4 : w3.heap.size < (w3.alloc (.cells #[.bool false, .slice none 0 0, .slice none 0 0] 27)).heap.size := by simp
  clear hn3 hc3 hS3 hd3 hv0 hv1 hwt hwf Hnn2 HS2 Hd2
  rw [show nAt gl0 (0 + 1) 2 = 0 by decide +kernel]
  go_upto_region 5 with (fail)
  generalize (w3.alloc (.cells #[.bool false, .slice none 0 0, .slice none 0 0] 27)) = w4 at *
  generalize w3.heap.size = g7 at *
  have c2 : w4.cell? ⟨g7, 2, none⟩ = some (.slice none 0 0) := HG4.out.cell 2
  have Hn5 := Lib.hid (nnum_any (w.heap.size + 1) A 3 3 3 3 true gl0 w4.drew HN3.out.drew (((Hr.out.below HS4.out (Nat.le_refl _)).more HS4.out.size).drew) (by omega) (by omega) (by omega) (by omega))
  have HC5 := Lib.hid (show ∀ w5, Ch (fun i => i = w.heap.size + 1) w4.drew w5 → w5.cell? ⟨g7, 2, none⟩ = some (.slice none 0 0) ∧ Bk w5 g7 27 #[.bool false, .slice none 0 0, .slice none 0 0] ∧ Bk w5 w.heap.size 27 #[.bool false, .slice none 0 0, .slice none 0 0] ∧ Below w.heap.size w w5 ∧ g7 < w5.heap.size from by
    intro w5 hc
    have h1 := Bk.ch HG4.out.drew hc (by omega)
    exact ⟨h1.cell 2, h1, Bk.ch HD4.out.drew hc (by omega), HS4.out.drew.trans (hc.below (by show w.heap.size ≤ w4.heap.size; omega) (fun i hi => by omega)), h1.lt⟩)
  have HA := Lib.hid (show ∀ (w5 : World) (v : Int) (w6 : World), (w5.alloc (.cells #[.int .i64 v] 3)).grownBy w6 none → Bk w5 (w.heap.size + 1) 50 #[.slice A 3 3, .int .i64 ((3 + 3 : Nat) : Int), .bool false] → Ch (fun i => i = w.heap.size + 1) w4.drew w5 → w6.frozen? ⟨g7, 2, none⟩ = false ∧ w6.cell? ⟨g7, 2, none⟩ = some (.slice none 0 0) ∧ Hid (∀ x, NR (w6.setCell ⟨g7, 2, none⟩ x) (w.heap.size + 1) A 3 3 6 false ∧ Bk (w6.setCell ⟨g7, 2, none⟩ x) w.heap.size 27 #[.bool false, .slice none 0 0, .slice none 0 0] ∧ Below w.heap.size w (w6.setCell ⟨g7, 2, none⟩ x)) from by
    intro w5 v w6 hg hn hc
    obtain ⟨_, h1, h2, h3, h4⟩ := HC5.out w5 hc
    have h5 := (Bk.alloc h1 (.cells #[.int .i64 v] 3)).grown hg (by simp)
    have h6 := (Bk.alloc h2 (.cells #[.int .i64 v] 3)).grown hg (by simp)
    have h7 := (Bk.alloc hn (.cells #[.int .i64 v] 3)).grown hg (by simp)
    have h8 : Below w.heap.size w w6 := (h3.alloc h3.size _).grown hg (by have := h3.size; simp; omega) (fun k hk => by cases hk)
    refine ⟨h5.free 2, h5.cell 2, Lib.hid fun x => ⟨?_, h6.far (p := ⟨g7, 2, none⟩) (by show w.heap.size ≠ g7; omega) x, h8.setCell (p := ⟨g7, 2, none⟩) (by show w.heap.size ≤ g7; omega) x⟩⟩
    exact h7.far (p := ⟨g7, 2, none⟩) (by show w.heap.size + 1 ≠ g7; omega) x)
  go_cut [] (fun wx => Hid (NR wx (w.heap.size + 1) A 3 3 6 false ∧ Bk wx w.heap.size 27 #[.bool false, .slice none 0 0, .slice none 0 0] ∧ Below w.heap.size w wx))
  case first =>
    go_region_law (first
      | (go_at_call 22; refine Hn5.out.mono ?_; rintro e w5 ⟨v5, wl5, rfl, _, _, hwt5, _, hn5, hc5⟩; cases wl5; rotate_left; exact absurd (hwt5 rfl).2.1 (by omega); obtain ⟨k2, k3⟩ := HC5.out _ hc5)
      | (go_simp; go_at_call 22; refine Hn5.out.mono ?_; rintro e w5 ⟨v5, wl5, rfl, _, _, hwt5, _, hn5, hc5⟩; cases wl5; rotate_left; exact absurd (hwt5 rfl).2.1 (by omega); obtain ⟨k2, k3⟩ := HC5.out _ hc5)
      | (refine ap_its_step (base := w.heap.size) (v := .slice none 0 0) (n := 0) (xs := []) (own_nilI _ _ _) (Rd.oneI w5 3 v5) (by have := k3.2.2.1.size; simp; omega) (by omega) (by rfl) (by rfl) ?_; intro v6 w6 hown6 hb6 hg6 hat6; obtain ⟨A6, c6, rfl, _, _⟩ := own_form hown6; obtain ⟨f6, c6', hfin⟩ := HA.out _ _ _ hg6 hn5 hc5))
    all_goals
      go_wp2_with fail
      go_meet
      exact Lib.hid (hfin.out _)
  case rest =>
    obtain ⟨h1, h2, h3⟩ := hcut.out
    have c3 : wc.cell? ⟨w.heap.size + 1, 2, none⟩ = some (.bool false) := Bk.cell h1 2
    have c4 : wc.frozen? ⟨w.heap.size, 0, none⟩ = false := Bk.free h2 0
    have H3 := Lib.hid h3
    have H2 := Lib.hid h2
    clear h1 h2 h3 hcut HA HC5 Hn5 HG4 HD4 HS4 HN3 c2
    have r0 : wc.cell? ⟨w.heap.size, 0, none⟩ = some (.bool false) := Bk.cell H2.out 0
    have r1 : wc.cell? ⟨w.heap.size, 1, none⟩ = some (.slice none 0 0) := Bk.cell H2.out 1
    have r2 : wc.cell? ⟨w.heap.size, 2, none⟩ = some (.slice none 0 0) := Bk.cell H2.out 2
    have z1 : wc.frozen? ⟨w.heap.size, 1, none⟩ = false := Bk.free H2.out 1
    have z2 : wc.frozen? ⟨w.heap.size, 2, none⟩ = false := Bk.free H2.out 2
    have hlt := H2.out.lt
    go_wp2
    go_loopw [30] (fun i wr => i = .int .i64 0 ∧ wr = wc) (fun _ _ => 0)
    case atStart => exact ⟨rfl, rfl⟩
    case round =>
      obtain ⟨rfl, rfl⟩ := hrel
      go_wp2
      exact bodyPost_ret (v := .tuple #[.agg #[.bool false, .slice none 0 0, .slice none 0 0], .int .i64 4]) (by simp [results, Tryd.results9, go_sem, r0, r1, r2]) rfl ⟨rfl, ((H3.out.setCell (p := ⟨w.heap.size, 0, none⟩) (Nat.le_refl _) _).setCell (p := ⟨w.heap.size, 1, none⟩) (Nat.le_refl _) _).setCell (p := ⟨w.heap.size, 2, none⟩) (Nat.le_refl _) _⟩
end Go.Proofs.YtelaliokmmaopaaDoor
