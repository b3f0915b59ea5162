/- PagerReuses: pages freed come back, the last first. -/
import Derived.Test.YtoadamkmabkldaaGreatDoorJn37
import Derived.Test.YtoadamkmabkldaaGreatDoorJn19
import Derived.Test.YtoadamkmabkldaaGreatDoorJn16
import Derived.Test.YtoadamkmabkldaaGreatDoorRows
import Derived.PinnedBridge
import Derived.Stop.LaidErr
import Derived.Test.YtoadamkmabkldaaGreatDoorJn36
set_option linter.unusedVariables false
set_option linter.unusedSimpArgs false
namespace Go.Proofs.YtoadamkmabkldaaGreatDoor
open Go.RowKit Go.Shelf
attribute [local go_sem ↓] Go.wp_at_zero Go.wp_at_succ
theorem pagerReuses_laid (W : World) (_ : laidMet Tryz.prog Rows.pagerReusesRow.laid W) : True := trivial
set_option maxRecDepth 100000 in
theorem op_putM {w : World} {ops : Array Oper} {rest : List Oper} {a : Act} {Q : Exit → Act → World → Prop} {d : Option Tmp} {ty : TypeId} {pos : String} {af : Array Edge} {g : Option (Nat × Bool)} {x y z : Operand}
    {m n k : Nat} {f : Nat → Bool} (h : MapM w m n f) (hk : k ≤ 9223372036854775807) (hn : n ≤ 1000000) (hm : a.eval x = .map (some m)) (hs : a.eval y = .int .i64 (k : Int)) (hb : a.eval z = .bool true)
    (hw : Region.wanted { dst := d, op := .mapUpdate 34 x y z, type := ty, pos := pos, after := af, guard := g } (yielded ops a.tmps) = true)
    (hK : ∀ w', MapM w' m (n + 1) (fun x => if x = k then true else f x) → w.grownBy w' (some m) → wpList Tryz.prog ops Q rest (a.put d undef) w') :
    wpList Tryz.prog ops Q ({ dst := d, op := .mapUpdate 34 x y z, type := ty, pos := pos, after := af, guard := g } :: rest) a w :=
  BigFrame.wpList_want hw fun _ hK' => by
    obtain ⟨w', hrun, h1, h2⟩ := h.put hk hn
    unfold Oper.wp execOp
    simp only [hm, hs, hb, Sem.run_bind, hrun, Result.andThen_ok, Sem.run_pure]
    exact hK' _ _ (hK w' h1 h2)
section
variable {w W W' : World} {O1 O2 : Nat → Prop} {f p : Nat} {nm : ByteArray} {S : FsP} {P : PgP} {m : Nat} {F : List Nat}
/-- Other blocks were touched. -/
theorem Pw.keep (h : Pw w W O1 O2 f p nm P S) {T : Nat → Prop} (hc : Ch T W W') (hT : ∀ i, T i → i < W.heap.size → ¬ O1 i ∧ ¬ O2 i ∧ w.heap.size ≤ i) : Pw w W' O1 O2 f p nm P S := by
  have hz := hc.size
  have hc2 : Ch (fun i => T i ∧ i < W.heap.size) W W' := ⟨hc.os, hc.tape, hc.output, hc.size, fun i hi hn => hc.block i hi (fun e => hn ⟨e, hi⟩)⟩
  exact ⟨h.fs.ch hc2 (fun i hi e => (hT i e.1 e.2).1 hi), h.pg.heap hz (fun i hi hl => hc.block i hl (fun e => (hT i e hl).2.1 hi)), fun i hi => ⟨(h.l1 i hi).1, by have := (h.l1 i hi).2; omega⟩, fun i hi => ⟨(h.l2 i hi).1, by have := (h.l2 i hi).2; omega⟩, h.ne, h.bl.trans (hc2.below h.bl.size (fun i hi => (hT i hi.1 hi.2).2.2))⟩
theorem ru_open (hF : Fs w.heap.size W f (newP 9000)) (hb : Below w.heap.size w W) : Calls Tryz.prog 11 #[.pointer (some ⟨f, 0, none⟩), .string xS] W fun e w' => ∃ p O1 O2 S, e = .returned (.tuple #[.pointer (some ⟨p, 0, none⟩), .int .i64 0]) ∧ Hid (Pw w w' O1 O2 f p xS pgN S) := by
  refine (open_new 9000 f _ w W hF (fun i hi => hi) hb).mono ?_
  rintro e w' (⟨_, p, O1, O2, S, h1, h2, _⟩ | ⟨h1, _⟩)
  · exact ⟨p, O1, O2, S, h1, Lib.hid h2⟩
  · exact absurd h1 (by decide)
/-- A pager, pages freed in the row l, marked in the map mm. -/
structure RuJ (w W : World) (f p mm n : Nat) (v : Value) (l : List Nat) (m : Nat) (F : List Nat) : Prop where
  ex : ∃ O1 O2 P S, Pw w W O1 O2 f p xS P S ∧ RuI P m F ∧ ¬ O1 mm ∧ ¬ O2 mm ∧ ∀ b, v.ownBlock = some b → ¬ O1 b ∧ ¬ O2 b
  row : QuN W 0 v l
  rb : ∀ b, v.ownBlock = some b → w.heap.size ≤ b ∧ b ≠ mm
  mp : MapM W mm n (fun k => decide (k ∈ l))
  mb : w.heap.size ≤ mm
/-- .. behind a call of the pager. -/
theorem RuX.next {mm n : Nat} {v : Value} {l : List Nat} {m' : Nat} {F' : List Nat} (hX : RuX w W W' O1 O2 f p m' F' S) (h : RuJ w W f p mm n v l m F) (h1 : ¬ O1 mm) (h2 : ¬ O2 mm) (h3 : ∀ b, v.ownBlock = some b → ¬ O1 b ∧ ¬ O2 b) : RuJ w W' f p mm n v l m' F' := by
  obtain ⟨P, ⟨O3, O4, k1, k2, k3, k4⟩, k5⟩ := hX
  have hl := h.mp.lt
  refine ⟨⟨O3, O4, P, S, k1, k5, fun e => ?_, fun e => ?_, fun b hb => ⟨fun e => ?_, fun e => ?_⟩⟩, h.row.heap k4.size (fun k hk hl2 => k4.block k hl2 (fun e => ?_)), h.rb, h.mp.heap (k4.block _ hl (fun e => ?_)), h.mb⟩
  · rcases k2 _ e with e | e
    · exact h1 e
    · omega
  · rcases k3 _ e with e | e
    · exact h2 e
    · omega
  · rcases k2 _ e with e | e
    · exact (h3 b hb).1 e
    · have := h.row.lt b hb; omega
  · rcases k3 _ e with e | e
    · exact (h3 b hb).2 e
    · have := h.row.lt b hb; omega
  · rcases e with e | e
    · exact (h3 k hk).1 e
    · exact (h3 k hk).2 e
  · rcases e with e | e
    · exact h1 e
    · exact h2 e
theorem j_free {mm n : Nat} {v : Value} {l : List Nat} (h : RuJ w W f p mm n v l m F) {no : Nat} (h1 : 1 ≤ no) (h2 : no < m) (hm : m ≤ 65536) (hn : no ∉ F) : Calls Tryz.prog 17 #[.pointer (some ⟨p, 0, none⟩), .int .i64 (no : Int)] W fun e w' => e = .returned (.int .i64 0) ∧ RuJ w w' f p mm n v l m (no :: F) := by
  obtain ⟨O1, O2, P, S, k1, k2, k3, k4, k5⟩ := h.ex
  refine (ru_free k1 k2 h1 h2 hm hn).mono ?_
  rintro e w' ⟨rfl, hX⟩
  exact ⟨rfl, hX.next h k3 k4 k5⟩
theorem j_take {mm n x : Nat} {v : Value} {l : List Nat} (h : RuJ w W f p mm n v l m (x :: F)) : Calls Tryz.prog 12 #[.pointer (some ⟨p, 0, none⟩)] W fun e w' => e = .returned (.tuple #[.int .i64 (x : Int), .int .i64 0]) ∧ RuJ w w' f p mm n v l m F := by
  obtain ⟨O1, O2, P, S, k1, k2, k3, k4, k5⟩ := h.ex
  refine (ru_take k1 k2).mono ?_
  rintro e w' ⟨rfl, hX⟩
  exact ⟨rfl, hX.next h k3 k4 k5⟩
theorem j_new {mm n : Nat} {v : Value} {l : List Nat} (h : RuJ w W f p mm n v l m []) (h1 : 1 ≤ m) (hm : m < 65536) : Calls Tryz.prog 12 #[.pointer (some ⟨p, 0, none⟩)] W fun e w' => e = .returned (.tuple #[.int .i64 (m : Int), .int .i64 0]) ∧ RuJ w w' f p mm n v l (m + 1) [] := by
  obtain ⟨O1, O2, P, S, k1, k2, k3, k4, k5⟩ := h.ex
  refine (ru_new k1 k2 h1 hm).mono ?_
  rintro e w' ⟨rfl, hX⟩
  exact ⟨rfl, hX.next h k3 k4 k5⟩
theorem j_many {mm n : Nat} {v : Value} {l : List Nat} (h : RuJ w W f p mm n v l m F) : Calls Tryz.prog 18 #[.pointer (some ⟨p, 0, none⟩)] W fun e w' => e = .returned (.int .i64 (m : Int)) ∧ w' = W := by
  obtain ⟨O1, O2, P, S, k1, k2, _⟩ := h.ex
  obtain ⟨m1, m2, _, _, _, hM, _⟩ := k1.pg
  exact many_any p m W (by have := hM.hd.cell 26; rw [← k2.dead]; exact this) (by have := hM.hd.cell 2; rw [← k2.many]; exact this)
theorem j_low {mm n : Nat} {v : Value} {l : List Nat} (h : RuJ w W f p mm n v l m F) : Below w.heap.size w W := by
  obtain ⟨O1, O2, P, S, k1, _⟩ := h.ex
  exact k1.bl
/-- The pager before there is a row. -/
def RuK (w W : World) (f p m : Nat) : Prop := ∃ O1 O2 P S, Pw w W O1 O2 f p xS P S ∧ RuI P m []
theorem k_new (h : RuK w W f p m) (h1 : 1 ≤ m) (hm : m < 65536) : Calls Tryz.prog 12 #[.pointer (some ⟨p, 0, none⟩)] W fun e w' => e = .returned (.tuple #[.int .i64 (m : Int), .int .i64 0]) ∧ RuK w w' f p (m + 1) := by
  obtain ⟨O1, O2, P, S, k1, k2⟩ := h
  refine (ru_new k1 k2 h1 hm).mono ?_
  rintro e w' ⟨rfl, P, ⟨O3, O4, k1, _⟩, k5⟩
  exact ⟨rfl, O3, O4, P, S, k1, k5⟩
theorem RuK.start (h : RuK w W f p m) : RuJ w (W.alloc (.map #[] 0)) f p W.heap.size 0 (.slice none 0 0) [] m [] := by
  obtain ⟨O1, O2, P, S, k1, k2⟩ := h
  refine ⟨⟨O1, O2, P, S, k1.keep (T := fun _ => False) ((Ch.refl _ _).alloc _) (fun i h => h.elim), k2, fun e => ?_, fun e => ?_, fun b hb => (by cases hb)⟩, .inl ⟨rfl, rfl⟩, fun b hb => (by cases hb), ?_, k1.bl.size⟩
  · have := (k1.l1 _ e).2; omega
  · have := (k1.l2 _ e).2; omega
  · have := MapM.new W
    simpa using this
end
theorem QuN.cell {w : World} {A : Option Addr} {k c j x : Nat} {q : List Nat} (h : QuN w 0 (.slice A k c) q) (hj : q[j]? = some x) : ∃ g o, A = some ⟨g, o, none⟩ ∧ w.cell? ⟨g, o + j, none⟩ = some (.int .i64 (x : Int)) := by
  have hjl := (List.getElem?_eq_some_iff.1 hj).1
  rcases h with ⟨_, rfl⟩ | ⟨A', n', c', hv, _, hn, hnc, _, hc⟩
  · simp at hj
  · injection hv with e1 e2 e3
    subst e1 e2 e3
    rcases hc with rfl | ⟨g, o, cs, rfl, _, hb, _, ht⟩
    · omega
    · refine ⟨g, o, rfl, ?_⟩
      have h1 := congrArg (fun l => l[j]?) ht
      have h1 : ((cs.toList.drop o).take _)[j]? = (nIt q)[j]? := h1
      rw [List.getElem?_take, if_pos (by omega), List.getElem?_drop, Array.getElem?_toList] at h1
      rw [hb.cell, h1]
      simp [nIt, natI, its, hj]
/-- Another number marked, and in the row. -/
theorem RuJ.push {w W W1 W2 : World} {f p mm q m x : Nat} {v v2 : Value} {row F : List Nat} {o : Obj} (h : RuJ w W f p mm q v row m F) (m1 : MapM W1 mm (q + 1) (fun k => if k = x then true else decide (k ∈ row))) (g1 : W.grownBy W1 (some mm))
    (q2 : QuN W2 0 v2 (row ++ [x])) (g2 : ∃ r, (W1.alloc o).grownBy W2 r ∧ ∀ b, r = some b → v.ownBlock = some b) (x2 : ∀ i, v2.ownBlock = some i → v.ownBlock = some i ∨ (W1.alloc o).heap.size ≤ i) : RuJ w W2 f p mm (q + 1) v2 (row ++ [x]) m F := by
  obtain ⟨O1, O2, P, S, k1, k2, k3, k4, k5⟩ := h.ex
  obtain ⟨r, g3, hr⟩ := g2
  have hc1 : Ch (fun i => i = mm ∨ v.ownBlock = some i) W (W1.alloc o) := ((Ch.refl _ W).grown g1 (fun i e => by injection e with e; exact .inl (.inl e.symm))).alloc o
  have hc : Ch (fun i => i = mm ∨ v.ownBlock = some i) W W2 := hc1.grown g3 (fun i e => .inl (.inr (hr i e)))
  have hbl := k1.bl.size
  have hz1 : W.heap.size ≤ (W1.alloc o).heap.size := hc1.size
  have hz2 := g3.size
  have hmm := h.mp.lt
  have hvm : ∀ b, v.ownBlock = some b → b ≠ mm := fun b hb => (h.rb b hb).2
  refine ⟨⟨O1, O2, P, S, k1.keep hc (fun i hi hl => ?_), k2, k3, k4, fun b hb => ?_⟩, q2, fun b hb => ?_, ?_, h.mb⟩
  · rcases hi with rfl | hi
    · exact ⟨k3, k4, h.mb⟩
    · exact ⟨(k5 i hi).1, (k5 i hi).2, (h.rb i hi).1⟩
  · rcases x2 b hb with e | e
    · exact k5 b e
    · exact ⟨fun e2 => by have := (k1.l1 b e2).2; omega, fun e2 => by have := (k1.l2 b e2).2; omega⟩
  · rcases x2 b hb with e | e
    · exact h.rb b e
    · exact ⟨by omega, by omega⟩
  · have hm1 : mm < W1.heap.size := m1.lt
    have h2 : MapM W2 mm (q + 1) (fun k => if k = x then true else decide (k ∈ row)) := m1.heap (by
      rw [g3.block mm (by simp; omega) (fun e => hvm mm (hr mm e.symm) rfl)]
      exact Below.heap_alloc W1 o mm hm1)
    have e : (fun k => if k = x then true else decide (k ∈ row)) = fun k => decide (k ∈ row ++ [x]) := by
      funext k
      by_cases hk : k = x
      · subst hk; simp
      · simp [hk]
    rw [e] at h2
    exact h2
/-- The loop's memory. -/
def RuV (w W : World) (f p mm q : Nat) (A2 : Option Addr) (c2 k i : Nat) (row : List Nat) : Prop :=
  row.length = k ∧ k ≤ i ∧ q ≤ i ∧ RuJ w W f p mm q (.slice A2 k c2) row 11 row.reverse
set_option maxHeartbeats 4000000 in
set_option maxRecDepth 100000 in
theorem pagerReuses_walk (A : Option Addr) (n c : Nat) (l : List UInt8) (w : World) (hr : Rd w w.heap.size 1 A n (bys l)) (hnc : n ≤ c) (hcm : c ≤ maxLen) (_ : True) :
    Calls Tryz.prog 4 #[.slice A n c] w fun e w' => e = .returned (.bool true) ∧ Below w.heap.size w w' := by
  rename_i hT
  clear hT
  have hlen := hr.blen
  have HW := Lib.hid (pwakes_any w)
  by_cases h30 : 30 < n
  · have hi : (30 : Int) < (n : Int) := by omega
    clear h30 hlen hr hnc hcm
    go_enter Tryz.func4, Tryz.ntmps4
    go_wp2_with fail
    with_reducible refine HW.out.mono ?_
    rintro e w1 ⟨rfl, b1⟩
    have B1 := Lib.hid b1
    clear b1
    go_wp2_with fail
    go_ret
    exact ⟨rfl, B1.out⟩
  · have hi : ¬ (30 : Int) < (n : Int) := by omega
    have HL := Lib.hid (And.intro hr hlen)
    have hn30 : n ≤ 30 := by omega
    clear h30 hlen hr hnc hcm
    go_enter Tryz.func4, Tryz.ntmps4
    go_wp2_with fail
    with_reducible refine HW.out.mono ?_
    rintro e w0 ⟨rfl, b0⟩
    have B0 := Lib.hid b0
    have HN := Lib.hid (new_fs 9000 w0)
    clear b0 HW
    go_wp2_with fail
    with_reducible refine HN.out.mono ?_
    rintro e w1 ⟨f, rfl, h1, b1⟩
    have HO := Lib.hid (ru_open h1 b1)
    clear h1 b1 HN
    go_wp2_with fail
    with_reducible refine HO.out.mono ?_
    rintro e w2 ⟨p, O1, O2, S, rfl, H2⟩
    have HK := Lib.hid (show RuK w0 w2 f p (0 + 1) from ⟨O1, O2, _, S, H2.out, .fst⟩)
    clear H2 HO hi
    go_wp2_with fail
    go_loopw [26] (fun s26 wr => ∃ i : Nat, s26 = .int .i64 (i : Int) ∧ i ≤ 10 ∧ Hid (RuK w0 wr f p (i + 1))) (fun s26 _ => 10 - (intOf s26).toNat)
    case atStart => exact ⟨0, rfl, by omega, HK⟩
    case round =>
      obtain ⟨i, rfl, hi10, HI⟩ := hrel
      by_cases hlt : i < 10
      · have HA := Lib.hid (k_new HI.out (by omega) (by omega))
        have hlt2 : (i : Int) < 10 := by omega
        go_wp2_with fail
        with_reducible refine HA.out.mono ?_
        rintro e w4 ⟨rfl, h4⟩
        have H4 := Lib.hid h4
        clear h4 HA
        go_wp2_with fail
        go_roundw
        case rel => exact ⟨i + 1, rfl, by omega, H4⟩
        case measure => simp [intOf]; omega
      · obtain rfl : i = 10 := by omega
        obtain ⟨w5, hw5⟩ : ∃ w5, w5 = wr := ⟨_, rfl⟩
        subst hw5
        have HJ := Lib.hid HI.out.start
        clear HK HI hlt hi10
        have mkm : ∀ W : World, (Instr.makeMap 34 none).run Tryz.prog W = .ok (.map (some W.heap.size)) (W.alloc (.map #[] 0)) := fun W => by kernel_rfl
        go_wp2_with fail
        clear mkm
        go_loopw [5, 34] (fun s5 s34 wr => ∃ (i k q : Nat) (A2 : Option Addr) (c2 : Nat) (row : List Nat), s34 = .int .i64 (i : Int) ∧ i ≤ n ∧ s5 = .slice A2 k c2 ∧ Hid (RuV w0 wr f p w5.heap.size q A2 c2 k i row)) (fun _ s34 _ => n - (intOf s34).toNat)
        case atStart => exact ⟨0, 0, 0, none, 0, [], rfl, Nat.zero_le _, rfl, Lib.hid ⟨rfl, Nat.le_refl _, Nat.le_refl _, HJ.out⟩⟩
        case round =>
          obtain ⟨i, k, q, A2, c2, row, rfl, hin, rfl, HI⟩ := hrel
          by_cases hlt : i < n
          · obtain ⟨b, o, u, rfl, hb, hu, hu256, hcell⟩ := (HL.out.1.below (B0.out.trans ((j_low HI.out.2.2.2).mono B0.out.size)) (Nat.le_refl _)).byte hlt
            have hN : 1 ≤ 1 + u.toNat % 10 ∧ 1 + u.toNat % 10 < 11 := by omega
            have e1 : ((u.toNat : Nat) : Int).tmod 10 = ((u.toNat % 10 : Nat) : Int) := by rw [Int.tmod_eq_emod_of_nonneg (by omega)]; omega
            obtain ⟨M, hM⟩ : ∃ M, M = u.toNat % 10 := ⟨_, rfl⟩
            rw [← hM] at e1 hN
            have e2 : 1 + (M : Int) = ((1 + M : Nat) : Int) := by omega
            obtain ⟨N, hNN⟩ : ∃ N, N = 1 + M := ⟨_, rfl⟩
            rw [← hNN] at e2 hN
            have hN0 := hN.1
            have hN1 := hN.2
            have hM10 : M < 10 := by omega
            have hlk := HI.out.2.2.2.mp.look (k := N) (by omega)
            have hlt2 : (i : Int) < (n : Int) := by omega
            by_cases hmet : N ∈ row
            · rw [show (decide (N ∈ row)) = true from by simpa using hmet] at hlk
              clear hM hN hb hu hmet hNN
              go_wp2_with fail
              go_roundw
              case rel => exact ⟨i + 1, k, q, A2, c2, row, rfl, by omega, rfl, Lib.hid ⟨HI.out.1, by have := HI.out.2.1; omega, by have := HI.out.2.2.1; omega, HI.out.2.2.2⟩⟩
              case measure => simp [intOf]; omega
            · rw [show (decide (N ∈ row)) = false from by simpa using hmet] at hlk
              have HM := Lib.hid HI.out.2.2.2.mp
              have hq30 : q ≤ 30 := by have := HI.out.2.2.1; omega
              clear hM hN hb hu hNN
              have HP := Lib.hid (fun (W1 W2 : World) (o : Obj) (v2 : Value) m1 g1 q2 g2 x2 => HI.out.2.2.2.push (x := N) (W1 := W1) (W2 := W2) (o := o) (v2 := v2) m1 g1 q2 g2 x2)
              have hmetH := Lib.hid hmet
              clear hmet
              have HQ := Lib.hid (fun W1 (g1 : wr.grownBy W1 (some w5.heap.size)) => show QuN (W1.alloc (.cells #[.int .i64 (N : Int)] 3)) 0 (.slice A2 k c2) row from
                (HI.out.2.2.2.row.heap g1.size (fun b hb hl => g1.block b hl (fun e => by injection e with e; exact (HI.out.2.2.2.rb b hb).2 e))).heap (by simp) (fun b hb hl => Below.heap_alloc W1 _ b hl))
              have HK := Lib.hid (And.intro HI.out.1 HI.out.2.1)
              go_wp2_with (first
                | (with_reducible refine at_mapUpdI ?_; go_loud ((apply op_putM (k := N) HM.out (by omega) (by omega)); (case hm => kernel_rfl); (case hs => kernel_rfl); (case hb => kernel_rfl); (case hw => kernel_rfl); intro w6 m6 g6; have r6 := HQ.out w6 g6; replace r6 := Lib.hid r6; replace m6 := Lib.hid m6; replace g6 := Lib.hid g6; try go_frame))
                | (with_reducible refine at_append ?_; go_loud ((apply ap_quN (b := w6.heap.size) (c1 := 1) r6.out N (hy := Bk.new w6 3 _) (hbase := Nat.zero_le _) (hq := by have := HK.out.1; have := HK.out.2; omega)); (case hs => kernel_rfl); (case hx => kernel_rfl); (case hw => kernel_rfl); intro v2 w7 q7 g7 x7; have HJ7 := HP.out w6 w7 _ v2 m6.out g6.out q7 g7 x7; obtain ⟨A3, c3, hv3, _, _⟩ := q7.form; rw [List.length_append, List.length_singleton, HK.out.1] at hv3; clear q7 g7 x7; subst hv3; replace HJ7 := Lib.hid HJ7; have HFr := Lib.hid (j_free HJ7.out hN0 hN1 (by omega) (by simpa using hmetH.out)); try go_frame)))
              with_reducible refine HFr.out.mono ?_
              rintro e w8 ⟨rfl, h8⟩
              have H8 := Lib.hid h8
              clear h8
              go_wp2_with fail
              go_roundw
              have H9 : RuV w0 w8 f p w5.heap.size (q + 1) A3 c3 (k + 1) (i + 1) (row ++ [N]) := ⟨by simp [HK.out.1], by have := HK.out.2; omega, by have := HI.out.2.2.1; omega, by rw [List.reverse_append]; exact H8.out⟩
              case rel => first | exact ⟨i + 1, k + 1, q + 1, A3, c3, row ++ [N], rfl, by omega, rfl, Lib.hid H9⟩ | ((repeat apply Exists.intro); exact ⟨⟨i + 1, k + 1, q + 1, A3, c3, row ++ [N], rfl, by omega, rfl, Lib.hid H9⟩, rfl⟩)
              case measure => simp [intOf]; omega
          · obtain rfl : i = n := by omega
            obtain ⟨w6, hw6⟩ : ∃ w6, w6 = wr := ⟨_, rfl⟩
            subst hw6
            have hk30 : k ≤ 30 := by have := HI.out.2.1; omega
            have HV := Lib.hid (And.intro HI.out.1 HI.out.2.2.2)
            clear HI hlt hin HJ
            go_wp2_with fail
            go_loopw [10] (fun s10 wr => ∃ (j : Nat) (z : Int), s10 = .int .i64 z ∧ z + 1 = (j : Int) ∧ j ≤ k ∧ Hid (RuJ w0 wr f p w5.heap.size q (.slice A2 k c2) row 11 (row.take j).reverse)) (fun s10 _ => (intOf s10 + 1).toNat)
            case atStart => exact ⟨k, _, rfl, by omega, Nat.le_refl _, Lib.hid (by rw [List.take_of_length_le (by have := HV.out.1; omega)]; exact HV.out.2)⟩
            case round =>
              obtain ⟨j, z, rfl, hzj, hjk, HI⟩ := hrel
              cases j with
              | zero =>
                obtain rfl : z = -1 := by omega
                have HA := Lib.hid (j_new (by simpa using HI.out) (by omega) (by omega))
                go_wp2_with fail
                with_reducible refine HA.out.mono ?_
                rintro e w7 ⟨rfl, h7⟩
                have HM := Lib.hid (j_many h7)
                have HB := Lib.hid (j_low h7)
                clear h7
                go_wp2_with fail
                with_reducible refine HM.out.mono ?_
                rintro e w8 ⟨rfl, hw8⟩
                subst hw8
                go_wp2_with fail
                go_ret
                exact ⟨rfl, B0.out.trans (HB.out.mono B0.out.size)⟩
              | succ j =>
                obtain rfl : z = (j : Int) := by omega
                obtain ⟨x, hx⟩ : ∃ x, row[j]? = some x := ⟨_, List.getElem?_eq_getElem (by have := HV.out.1; omega)⟩
                have hrow : (row.take (j + 1)).reverse = x :: (row.take j).reverse := by rw [take_step hx, List.reverse_append]; rfl
                have HA := Lib.hid (j_take (by rw [← hrow]; exact HI.out))
                have hX := Lib.hid hx
                clear hx hrow
                go_wp2_with fail
                with_reducible refine HA.out.mono ?_
                rintro e w7 ⟨rfl, h7⟩
                obtain ⟨g, o2, hA2, hc7⟩ := h7.row.cell hX.out
                have H7 := Lib.hid h7
                subst hA2
                clear h7
                go_wp2_with fail
                go_roundw
                case rel => first | exact ⟨j, _, rfl, by omega, by omega, H7⟩ | ((repeat apply Exists.intro); exact ⟨⟨j, _, rfl, by omega, by omega, H7⟩, rfl⟩)
                case measure => first | (simp [intOf]; omega) | simp [intOf]
end Go.Proofs.YtoadamkmabkldaaGreatDoor
/- PagerActs: the memory between acts; calls of the pager and of the document's pages in it. -/
namespace Go.Proofs.YtoadamkmabkldaaGreatDoor
open Go.RowKit Go.Shelf
attribute [local go_sem ↓] Go.wp_at_zero Go.wp_at_succ
/-- A pager, its store, `now` (its blocks O3), what lasts (all in K), and boxes apart. -/
structure AcS (w W : World) (O1 O2 O3 K : Nat → Prop) (bx : Nat → Option Obj) (f p s1 s2 : Nat) (P : PgP) (S : FsP) (nw ls : StP) : Prop where
  pw : Pw w W O1 O2 f p xS P S
  now : RfA W O3 K s1 nw
  last : RfA W K K s2 ls
  dis : ∀ i, O3 i ∨ K i → ¬ O1 i ∧ ¬ O2 i ∧ i < W.heap.size ∧ w.heap.size ≤ i
  ok : ∀ i, O3 i → ¬ K i
  box : ∀ i o, bx i = some o → W.heap[i]? = some o ∧ ¬ O1 i ∧ ¬ O2 i ∧ ¬ O3 i ∧ ¬ K i ∧ w.heap.size ≤ i
def AcM (w W : World) (bx : Nat → Option Obj) (f p s1 s2 : Nat) (P : PgP) (S : FsP) (nw ls : StP) : Prop := ∃ O1 O2 O3 K, AcS w W O1 O2 O3 K bx f p s1 s2 P S nw ls
theorem nodup_bnd : ∀ (n : Nat) (l : List Nat), l.Nodup → (∀ k ∈ l, k < n) → l.length ≤ n
  | 0, l, _, h => by
    cases l with
    | nil => exact Nat.le_refl _
    | cons x r => have := h x (List.mem_cons_self ..); omega
  | n + 1, l, hn, h => by
    by_cases hm : n ∈ l
    · have h1 := nodup_bnd n (l.erase n) (hn.erase n) (fun k hk => by
        have h2 := (hn.mem_erase_iff).1 hk
        have := h k h2.2
        have := h2.1
        omega)
      rw [List.length_erase_of_mem hm] at h1
      omega
    · have := nodup_bnd n l hn (fun k hk => by
        have := h k hk
        have : k ≠ n := by rintro rfl; exact hm hk
        omega)
      omega
theorem lt_of_heap {W : World} {i : Nat} {o : Obj} (h : W.heap[i]? = some o) : i < W.heap.size := (Array.getElem?_eq_some_iff.1 h).1
section
variable {w W W' : World} {O1 O2 O3 K : Nat → Prop} {bx : Nat → Option Obj} {f p s1 s2 : Nat} {P P2 : PgP} {S S2 : FsP} {nw nw2 ls : StP}
theorem AcS.low (h : AcS w W O1 O2 O3 K bx f p s1 s2 P S nw ls) : Below w.heap.size w W := h.pw.bl
theorem AcS.pwx (h : AcS w W O1 O2 O3 K bx f p s1 s2 P S nw ls) (hX : PwX w W W' O1 O2 f p xS P2 S2) : AcM w W' bx f p s1 s2 P2 S2 nw ls := by
  obtain ⟨O4, O5, h1, h2, h3, h4⟩ := hX
  have hz := h4.size
  have no : ∀ i, O3 i ∨ K i → ¬ (O1 i ∨ O2 i) := fun i hi e => by
    rcases e with e | e
    · exact (h.dis i hi).1 e
    · exact (h.dis i hi).2.1 e
  refine ⟨O4, O5, O3, K, h1, h.now.ch h4 (fun i hi => no i (.inl hi)) (fun i hi => no i (.inr hi)), h.last.ch h4 (fun i hi => no i (.inr hi)) (fun i hi => no i (.inr hi)), fun i hi => ⟨fun e => ?_, fun e => ?_, by have := (h.dis i hi).2.2.1; omega, (h.dis i hi).2.2.2⟩, h.ok, fun i o hi => ?_⟩
  · rcases h2 i e with e | e
    · exact (h.dis i hi).1 e
    · have := (h.dis i hi).2.2.1; omega
  · rcases h3 i e with e | e
    · exact (h.dis i hi).2.1 e
    · have := (h.dis i hi).2.2.1; omega
  · obtain ⟨b1, b2, b3, b4, b5, b6⟩ := h.box i o hi
    have hl := lt_of_heap b1
    refine ⟨(h4.block i hl (fun e => ?_)).trans b1, fun e => ?_, fun e => ?_, b4, b5, b6⟩
    · rcases e with e | e
      · exact b2 e
      · exact b3 e
    · rcases h2 i e with e | e
      · exact b2 e
      · omega
    · rcases h3 i e with e | e
      · exact b3 e
      · omega
theorem AcS.state (h : AcS w W O1 O2 O3 K bx f p s1 s2 P S nw ls) (hX : RfX W W' O3 K s1 nw2) : AcM w W' bx f p s1 s2 P S nw2 ls := by
  obtain ⟨O4, K4, h1, h2, h3, h4, h5, h6⟩ := hX
  have hz := h6.size
  have hbl := h.pw.bl.size
  refine ⟨O1, O2, O4, K4, h.pw.keep h6 (fun i hi _ => ⟨(h.dis i (.inl hi)).1, (h.dis i (.inl hi)).2.1, (h.dis i (.inl hi)).2.2.2⟩), h1, (h.last.ch h6 (fun i hi e => h.ok i e hi) (fun i hi e => h.ok i e hi)).mono (fun i hi _ => h4 i hi) (fun i hi _ => h4 i hi), fun i hi => ?_, h5, fun i o hi => ?_⟩
  · have hc : (O3 i ∨ K i) ∨ (W.heap.size ≤ i ∧ i < W'.heap.size) := by
      rcases hi with hi | hi
      · rcases h2 i hi with e | e
        · exact .inl (.inl e)
        · exact .inr e
      · rcases h3 i hi with e | e
        · exact .inl (.inr e)
        · exact .inr e
    rcases hc with e | e
    · obtain ⟨a1, a2, a3, a4⟩ := h.dis i e
      exact ⟨a1, a2, by omega, a4⟩
    · exact ⟨fun e2 => by have := (h.pw.l1 i e2).2; omega, fun e2 => by have := (h.pw.l2 i e2).2; omega, e.2, by omega⟩
  · obtain ⟨b1, b2, b3, b4, b5, b6⟩ := h.box i o hi
    have hl := lt_of_heap b1
    refine ⟨(h6.block i hl b4).trans b1, b2, b3, fun e => ?_, fun e => ?_, b6⟩
    · rcases h2 i e with e | e
      · exact b4 e
      · omega
    · rcases h3 i e with e | e
      · exact b5 e
      · omega
theorem AcM.below (h : AcM w W bx f p s1 s2 P S nw ls) (hb : Below W.heap.size W W') : AcM w W' bx f p s1 s2 P S nw ls := by
  obtain ⟨O1, O2, O3, K, h⟩ := h
  have hz := hb.size
  exact ⟨O1, O2, O3, K, h.pw.keep (T := fun _ => False) (Ch.of_below hb (Nat.le_refl _)) (fun i e => e.elim), h.now.below hb, h.last.below hb, fun i hi => by obtain ⟨a1, a2, a3, a4⟩ := h.dis i hi; exact ⟨a1, a2, by omega, a4⟩, h.ok, fun i o hi => by
    obtain ⟨b1, b2⟩ := h.box i o hi
    exact ⟨(hb.block i (lt_of_heap b1)).trans b1, b2⟩⟩
/-- A box more. -/
theorem AcM.boxed (h : AcM w W bx f p s1 s2 P S nw ls) (o : Obj) : AcM w (W.alloc o) (fun i => if i = W.heap.size then some o else bx i) f p s1 s2 P S nw ls := by
  have hb : Below W.heap.size W (W.alloc o) := (Below.refl _ W).alloc (Nat.le_refl _) o
  obtain ⟨O1, O2, O3, K, h⟩ := h
  have hbl := h.pw.bl.size
  obtain ⟨O1', O2', O3', K', h2⟩ := AcM.below ⟨O1, O2, O3, K, h⟩ hb
  refine ⟨O1, O2, O3, K, h.pw.keep (T := fun _ => False) (Ch.of_below hb (Nat.le_refl _)) (fun i e => e.elim), h.now.below hb, h.last.below hb, fun i hi => by obtain ⟨a1, a2, a3, a4⟩ := h.dis i hi; exact ⟨a1, a2, by simp; omega, a4⟩, h.ok, fun i o2 hi => ?_⟩
  by_cases e : i = W.heap.size
  · rw [if_pos e] at hi
    injection hi with hi
    subst hi e
    refine ⟨?_, fun e => by have := (h.pw.l1 _ e).2; omega, fun e => by have := (h.pw.l2 _ e).2; omega, fun e => by have := (h.dis _ (.inl e)).2.2.1; omega, fun e => by have := (h.dis _ (.inr e)).2.2.1; omega, hbl⟩
    show (W.heap.push o)[W.heap.size]? = _
    rw [Array.getElem?_push, if_pos rfl]
  · rw [if_neg e] at hi
    obtain ⟨b1, b2⟩ := h.box i o2 hi
    exact ⟨(hb.block i (lt_of_heap b1)).trans b1, b2⟩
theorem AcM.unbox {bx2 : Nat → Option Obj} (h : AcM w W bx f p s1 s2 P S nw ls) (hb : ∀ i o, bx2 i = some o → bx i = some o) : AcM w W bx2 f p s1 s2 P S nw ls := by
  obtain ⟨O1, O2, O3, K, h⟩ := h
  exact ⟨O1, O2, O3, K, h.pw, h.now, h.last, h.dis, h.ok, fun i o hi => h.box i o (hb i o hi)⟩
theorem AcM.low (h : AcM w W bx f p s1 s2 P S nw ls) : Below w.heap.size w W := by obtain ⟨_, _, _, _, h⟩ := h; exact h.pw.bl
theorem AcM.bk (h : AcM w W bx f p s1 s2 P S nw ls) {X : Nat} {cs : Array Value} {t : TypeId} (hb : bx X = some (.cells cs t (0, 0))) : Bk W X t cs := by
  obtain ⟨_, _, _, _, h⟩ := h
  exact (h.box X _ hb).1
-- the calls of an act
section
variable {L : List (List UInt8)} {i : Nat}
theorem ac_used (h : AcM w W bx f p s1 s2 P S nw ls) (hI : InvA P S L nw ls i) (hi : i ≤ 1000) (n : Int) (hn : -9223372036854775808 ≤ n ∧ n ≤ 9223372036854775807) :
    Calls Tryz.prog 51 #[.pointer (some ⟨s1, 0, none⟩), .int .i64 n] W fun e w' => e = .returned (.int .i64 (usedS nw n : Int)) ∧ AcM w w' bx f p s1 s2 P S nw ls := by
  have h0 := h
  obtain ⟨O1, O2, O3, K, h⟩ := h
  have hl := hI.rn.many
  have hbm := hI.bm
  have hm1 := hI.bat.m1
  have hfl := nodup_bnd P.now.many nw.free hI.rn.nd (fun k hk => (hI.rn.fb k hk).2)
  refine (used_any s1 n nw O3 K W h.now (by omega) (by omega) (by omega) hn).mono ?_
  rintro e w' ⟨rfl, hb⟩
  exact ⟨rfl, h0.below hb⟩
/-- Alloc of the pager: the number is the document's; what the document is to be. -/
theorem ac_palloc (h : AcM w W bx f p s1 s2 P S nw ls) (hI : InvA P S L nw ls i) (hi : i ≤ 1000) :
    Calls Tryz.prog 12 #[.pointer (some ⟨p, 0, none⟩)] W fun e w' => e = .returned (.tuple #[.int .i64 ((allocS nw).1 : Int), .int .i64 0]) ∧ ∃ P2, AcM w w' bx f p s1 s2 P2 S nw ls ∧ InvA P2 S L (allocS nw).2 ls (i + 1) := by
  obtain ⟨O1, O2, O3, K, h⟩ := h
  cases hf : nw.free with
  | nil =>
    obtain ⟨a1, a2, a3, a4⟩ := hI.alloc0 hf hi
    refine (alloc_at0 f p O2 xS P W h.pw.pg hI.ok hI.dead a1 a2).mono ?_
    rintro e w' ⟨rfl, k1, k2⟩
    exact ⟨by rw [a3], _, h.pwx (h.pw.pager k1 k2), a4⟩
  | cons x r =>
    obtain ⟨a1, a2, a3, n, a4, a5, a6, a7⟩ := hI.alloc1 hf hi
    have hbm := hI.bm
    have hbr := hI.br
    refine (alloc_at f p x n O1 O2 S xS P (cF L x) W h.pw.pg h.pw.fs (by decide) hI.ok hI.dead a1 a2 (by omega) (by omega) (fun e _ => hI.good.hold x a2 a3 e) a4 a5).mono ?_
    rintro e w' ⟨rfl, k1, k2⟩
    exact ⟨by rw [a6], _, h.pwx (h.pw.pager k1 k2), a7⟩
theorem ac_salloc (h : AcM w W bx f p s1 s2 P2 S nw ls) (hI : InvA P2 S L (allocS nw).2 ls (i + 1)) (hI0 : InvA P S L nw ls i) (hi : i ≤ 1000) :
    Calls Tryz.prog 52 #[.pointer (some ⟨s1, 0, none⟩)] W fun e w' => e = .returned (.int .i64 ((allocS nw).1 : Int)) ∧ AcM w w' bx f p s1 s2 P2 S (allocS nw).2 ls := by
  obtain ⟨O1, O2, O3, K, h⟩ := h
  have hl := hI0.rn.many
  have hbm := hI0.bm
  have hm1 := hI0.bat.m1
  have hfl := nodup_bnd P.now.many nw.free hI0.rn.nd (fun k hk => (hI0.rn.fb k hk).2)
  refine (alloc_any17 s1 nw O3 K W h.now (by omega) (by omega) (by omega) (fun k hk => by have := hI0.rn.fb k hk; omega) h.ok (fun i hi => (h.dis i hi).2.2.1)).mono ?_
  rintro e w' ⟨rfl, hX⟩
  exact ⟨rfl, h.state hX⟩
theorem ac_sdrop (h : AcM w W bx f p s1 s2 P S nw ls) (hI : InvA P S L nw ls i) (hi : i ≤ 1000) (no : Nat) :
    Calls Tryz.prog 53 #[.pointer (some ⟨s1, 0, none⟩), .int .i64 (no : Int)] W fun e w' => e = .returned (.tuple #[]) ∧ AcM w w' bx f p s1 s2 P S (dropS nw no) ls := by
  obtain ⟨O1, O2, O3, K, h⟩ := h
  have hbm := hI.bm
  have hfl := nodup_bnd P.now.many nw.free hI.rn.nd (fun k hk => (hI.rn.fb k hk).2)
  refine (drop_any s1 no nw O3 K W h.now (by omega) h.ok (fun i hi => (h.dis i (.inl hi)).2.2.1)).mono ?_
  rintro e w' ⟨rfl, hX⟩
  exact ⟨rfl, h.state hX⟩
theorem ac_pfree (h : AcM w W bx f p s1 s2 P S nw2 ls) (hI : InvA P S L nw ls i) (hi : i ≤ 1000) {no : Nat} (h1 : 1 ≤ no) (h2 : no < nw.L.length) (h3 : no ∉ nw.free) (hn : nw2 = dropS nw no) :
    Calls Tryz.prog 17 #[.pointer (some ⟨p, 0, none⟩), .int .i64 (no : Int)] W fun e w' => e = .returned (.int .i64 0) ∧ ∃ P2, AcM w w' bx f p s1 s2 P2 S nw2 ls ∧ InvA P2 S L nw2 ls (i + 1) := by
  subst hn
  obtain ⟨O1, O2, O3, K, h⟩ := h
  have hm : no < P.now.many := by rw [← hI.rn.many]; exact h2
  refine (free_any f p no O2 xS P W h.pw.pg hI.ok hI.dead h1 hm hI.bat.m2).mono ?_
  rintro e w' ⟨rfl, k1, k2⟩
  exact ⟨rfl, _, h.pwx (h.pw.pager k1 k2), hI.drop h1 hm h3 hi⟩
theorem ac_swrite (h : AcM w W bx f p s1 s2 P S nw ls) (hI : InvA P S L nw ls i) (hi : i ≤ 1000) {no : Nat} {A : Option Addr} {n c : Nat} {b : List UInt8} (h1 : 1 ≤ no) (h2 : no < nw.L.length) (hr : Rd W W.heap.size 1 A n (bys b)) (hn : n ≤ 508) :
    Calls Tryz.prog 54 #[.pointer (some ⟨s1, 0, none⟩), .int .i64 (no : Int), .slice A n c] W fun e w' => e = .returned (.tuple #[]) ∧ AcM w w' bx f p s1 s2 P S (writeS nw no b) ls := by
  obtain ⟨O1, O2, O3, K, h⟩ := h
  have hl := hI.rn.many
  have hbm := hI.bm
  refine (write_any17 s1 no A n c b nw O3 K W h.now hr hn h1 h2 (by omega) h.ok (fun i hi => (h.dis i hi).2.2.1)).mono ?_
  rintro e w' ⟨rfl, hX⟩
  exact ⟨rfl, h.state hX⟩
theorem ac_pwrite (h : AcM w W bx f p s1 s2 P S nw2 ls) (hI : InvA P S L nw ls i) (hi : i ≤ 1000) {no : Nat} {A : Option Addr} {n c : Nat} {b : List UInt8} (h1 : 1 ≤ no) (h2 : no < nw.L.length) (h3 : no ∉ nw.free) (hr : Rd W W.heap.size 1 A n (bys b)) (hA : A = none ∨ ∃ b o, A = some ⟨b, o, none⟩) (hn : n ≤ 508) (hw : nw2 = writeS nw no b) :
    Calls Tryz.prog 13 #[.pointer (some ⟨p, 0, none⟩), .int .i64 (no : Int), .slice A n c] W fun e w' => e = .returned (.int .i64 0) ∧ ∃ P2, AcM w w' bx f p s1 s2 P2 S nw2 ls ∧ InvA P2 S L nw2 ls (i + 1) := by
  subst hw
  obtain ⟨O1, O2, O3, K, h⟩ := h
  have hm : no < P.now.many := by rw [← hI.rn.many]; exact h2
  have hlen := hr.blen
  refine (pwrite_any f p no n c O2 xS P A b W h.pw.pg hI.ok hI.dead h1 hm hI.bat.m2 hr hA hn).mono ?_
  rintro e w' ⟨rfl, k1, k2⟩
  exact ⟨rfl, _, h.pwx (h.pw.pager k1 k2), hI.write h1 hm h3 (by omega) hi⟩
end
end
end Go.Proofs.YtoadamkmabkldaaGreatDoor
