/- VfsActs: acts in plain words; Texts; what do and told do. -/
import Derived.Test.YtknjopefbbldfaaGreatDoorVfsZr
import Derived.Test.YtknjopefbbldfaaGreatDoorVfsZo
import Derived.Test.YtknjopefbbldfaaGreatDoorVfsW
import Derived.Test.YtknjopefbbldfaaGreatDoorVfsWk
import Derived.Test.YtknjopefbbldfaaGreatDoorVfsX
import Derived.Test.YtknjopefbbldfaaGreatDoorVfsY
import Derived.Test.YtknjopefbbldfaaGreatDoorVfsL
import Derived.Test.YtknjopefbbldfaaGreatDoorFrA
namespace Go.Proofs.YtknjopefbbldfaaGreatDoor
open Go.RowKit
attribute [local go_sem ↓] Go.wp_at_zero Go.wp_at_succ

def actP (S : FsP) (a : ActV) : Nat × FsP :=
  if a.kind = 0 then createP S a.name.data.toList else if a.kind = 1 then writeP S a.name.data.toList a.n a.B else if a.kind = 2 then cutF S a.name.data.toList a.n
  else if a.kind = 3 then renameP S a.name.data.toList a.to.data.toList else if a.kind = 4 then deleteP S a.name.data.toList else if a.kind = 5 then syncF S a.name.data.toList
  else if a.kind = 6 then (0, fuseP S a.n) else if a.kind = 7 then (0, crashP S a.keep) else (0, S)
set_option maxHeartbeats 4000000 in
theorem texts_same (A A2 : Option Addr) (n c c2 : Nat) (l : List (List UInt8)) (w : World) (h1 : Rd w w.heap.size 1 A n (nms l)) (h2 : Rd w w.heap.size 1 A2 n (nms l)) (hn : n ≤ 1000000) :
    Calls Tryz.prog 34 #[.slice A n c, .slice A2 n c2] w fun e w' => e = .returned (.bool true) ∧ Below w.heap.size w w' := by
  go_enter Tryz.func34, Tryz.ntmps34
  go_wp2_with fail
  go_loopw [5] (fun a wr => ∃ j : Nat, j ≤ n ∧ a = .int .i64 j ∧ ∃ q, wr = w.drewN q) (fun a _ => n - (intOf a).toNat)
  case atStart => exact ⟨0, Nat.zero_le _, rfl, 0, rfl⟩
  case round =>
    obtain ⟨j, hj, rfl, q, rfl⟩ := hrel
    by_cases hlt : j < n
    · obtain ⟨b, o, u, rfl, hb, hx, hc⟩ := h1.at_ (k := j) hlt
      obtain ⟨b2, o2, u2, rfl, hb2, hx2, hc2⟩ := h2.at_ (k := j) hlt
      have hu : u2 = u := by rw [hx] at hx2; injection hx2 with hx2; exact hx2.symm
      subst hu
      obtain ⟨s, hs⟩ : ∃ s : List UInt8, u2 = .string ⟨s.toArray⟩ := by
        unfold nms at hx
        rw [List.getElem?_map, Option.map_eq_some_iff] at hx
        obtain ⟨y, _, e⟩ := hx
        exact ⟨y, e.symm⟩
      subst hs
      have hj1 : (j : Int) < (n : Int) := by omega
      clear hx hx2
      have d1 : (w.drewN q).cell? ⟨b, o + j, none⟩ = some (.string ⟨s.toArray⟩) := hc
      have d2 : (w.drewN q).cell? ⟨b2, o2 + j, none⟩ = some (.string ⟨s.toArray⟩) := hc2
      go_wp2_with fail
      go_quiet (fail)
      go_wp2_with fail
      go_roundw
      case rel => exact ⟨j + 1, by omega, by first | rfl | (congr 1), _, rfl⟩
      case measure => simp [intOf]; omega
    · have : j = n := by omega
      subst this
      go_wp2_with fail
      go_ret
      exact ⟨rfl, below_drewN (Below.refl _ _) _⟩
/-- The six cells of an act. -/
@[reducible] def actC (a : ActV) (A : Option Addr) (n c : Nat) : Array Value := #[.int .i64 a.kind, .int .i64 a.n, .string a.name, .string a.to, .slice A n c, .int .u64 (a.keep.toNat : Int)]
set_option maxHeartbeats 4000000 in
set_option maxRecDepth 100000 in
theorem do_any (f : Nat) (O : Nat → Prop) (S : FsP) (a : ActV) (A : Option Addr) (n c b0 : Nat) (w : World) (h : FsA w O f S) (hst : S.stamp ≤ 1000) (hname : a.name.size ≤ 100) (hto : a.to.size ≤ 100) (hi1 : -9223372036854775808 ≤ a.n ∧ a.n ≤ 9223372036854775807)
    (hn : n = a.B.length) (hnm : n ≤ 1000) (hnc : n ≤ c) (hc : c ≤ maxLen) (hr : Rs w b0 A a.B) (hb0 : 0 < n → ¬ O b0) (hb1 : 0 < n → b0 < w.heap.size) :
    Calls Tryz.prog 8 #[.pointer (some ⟨f, 0, none⟩), .agg (actC a A n c)] w fun e w' => e = .returned (.int .i64 ((actP S a).1 : Int)) ∧ FsA w' (fun i => O i ∨ w.heap.size ≤ i) f (actP S a).2 ∧ Ch O w w' := by
  have H1 := Lib.hid (show FsA (w.alloc (.cells (actC a A n c) 32)) (fun i => O i ∨ w.heap.size ≤ i) f S from (h.heap (fun i _ hi => Below.heap_alloc w _ i hi)).mono (fun i hi _ => .inl hi))
  have hbk := Bk.new w 32 (actC a A n c)
  have d0 : (w.alloc (.cells (actC a A n c) 32)).cell? ⟨w.heap.size, 0, none⟩ = some (.int .i64 a.kind) := hbk.cell 0
  have d1 : (w.alloc (.cells (actC a A n c) 32)).cell? ⟨w.heap.size, 1, none⟩ = some (.int .i64 a.n) := hbk.cell 1
  have d2 : (w.alloc (.cells (actC a A n c) 32)).cell? ⟨w.heap.size, 2, none⟩ = some (.string a.name) := hbk.cell 2
  have d3 : (w.alloc (.cells (actC a A n c) 32)).cell? ⟨w.heap.size, 3, none⟩ = some (.string a.to) := hbk.cell 3
  have d4 : (w.alloc (.cells (actC a A n c) 32)).cell? ⟨w.heap.size, 4, none⟩ = some (.slice A n c) := hbk.cell 4
  have d5 : (w.alloc (.cells (actC a A n c) 32)).cell? ⟨w.heap.size, 5, none⟩ = some (.int .u64 (a.keep.toNat : Int)) := hbk.cell 5
  have hr1 : Rs (w.alloc (.cells (actC a A n c) 32)) b0 A a.B := fun h0 => (hr.heap (Below.heap_alloc w _ b0 (hb1 (by omega)))) h0
  have HX := Lib.hid (And.intro hst (And.intro hname (And.intro hto (And.intro hi1 (And.intro hn (And.intro hnm (And.intro hnc (And.intro hc (And.intro hr1 (And.intro (show 0 < n → ¬ (O b0 ∨ w.heap.size ≤ b0) from fun h0 => by
    have e1 := hb0 h0; have e2 := hb1 h0; rintro (e | e)
    · exact e1 e
    · omega) (fun h0 : 0 < n => show b0 < (w.alloc (.cells (actC a A n c) 32)).heap.size from by have := hb1 h0; simp; omega)))))))))))
  have HA := Lib.hid (show ∀ w', Ch (fun i => O i ∨ w.heap.size ≤ i) (w.alloc (.cells (actC a A n c) 32)) w' → Ch O w w' from fun w' k => ((Ch.refl O w).alloc _).trans k (fun i hi => hi))
  have HO := Lib.hid (show ∀ i, (w.alloc (.cells (actC a A n c) 32)).heap.size ≤ i → (O i ∨ w.heap.size ≤ i) from fun i hi => .inr (by simp at hi; omega))
  clear h hst hname hto hi1 hn hnm hnc hc hr hr1 hb0 hb1 hbk
  unfold actP
  by_cases h0 : a.kind = 0
  · rw [if_pos h0]
    have g0 : (a.kind == 0) = true := by simpa using h0
    have HC := Lib.hid (by obtain ⟨x1, x2, x3, x4, x5, x6, x7, x8, x9, x10, x11⟩ := HX.out; exact create_any f _ S a.name _ H1.out (by have := x2; omega) (by omega))
    clear h0
    go_enter Tryz.func8, Tryz.ntmps8
    go_wp2_with fail
    with_reducible refine HC.out.mono ?_
    rintro e w2 ⟨rfl, h2, k2⟩
    have H2 := Lib.hid (And.intro (h2.mono (fun i hi _ => by rcases hi with hi | hi; exact hi; exact HO.out i hi)) (HA.out w2 k2))
    clear h2 k2
    go_wp2_with fail
    go_ret
    exact ⟨rfl, H2.out.1, H2.out.2⟩
  rw [if_neg h0]
  by_cases h1 : a.kind = 1
  · rw [if_pos h1]
    have g0 : (a.kind == 0) = false := by simpa using h0
    have g1 : (a.kind == 1) = true := by simpa using h1
    have HC := Lib.hid (by obtain ⟨x1, x2, x3, x4, x5, x6, x7, x8, x9, x10, x11⟩ := HX.out; exact write_any f _ S a.name a.n n c b0 a.B A _ HO.out H1.out (by omega) (by omega) x5 (by omega) x7 x8 x9 x10 x11)
    clear h0 h1
    go_enter Tryz.func8, Tryz.ntmps8
    go_wp2_with fail
    with_reducible refine HC.out.mono ?_
    rintro e w2 ⟨rfl, h2, k2⟩
    have H2 := Lib.hid (And.intro (h2.mono (fun i hi _ => hi)) (HA.out w2 k2))
    clear h2 k2
    go_wp2_with fail
    go_ret
    exact ⟨rfl, H2.out.1, H2.out.2⟩
  rw [if_neg h1]
  by_cases h2 : a.kind = 2
  · rw [if_pos h2]
    have g0 : (a.kind == 0) = false := by simpa using h0
    have g1 : (a.kind == 1) = false := by simpa using h1
    have g2 : (a.kind == 2) = true := by simpa using h2
    have HC := Lib.hid (by obtain ⟨x1, x2, x3, x4, x5, x6, x7, x8, x9, x10, x11⟩ := HX.out; exact cut_any f _ S a.name a.n _ H1.out (by omega) (by omega))
    clear h0 h1 h2
    go_enter Tryz.func8, Tryz.ntmps8
    go_wp2_with fail
    with_reducible refine HC.out.mono ?_
    rintro e w2 ⟨rfl, h2, k2⟩
    have H2 := Lib.hid (And.intro (h2.mono (fun i hi _ => hi)) (HA.out w2 k2))
    clear h2 k2
    go_wp2_with fail
    go_ret
    exact ⟨rfl, H2.out.1, H2.out.2⟩
  rw [if_neg h2]
  by_cases h3 : a.kind = 3
  · rw [if_pos h3]
    have g0 : (a.kind == 0) = false := by simpa using h0
    have g1 : (a.kind == 1) = false := by simpa using h1
    have g2 : (a.kind == 2) = false := by simpa using h2
    have g3 : (a.kind == 3) = true := by simpa using h3
    have HC := Lib.hid (by obtain ⟨x1, x2, x3, x4, x5, x6, x7, x8, x9, x10, x11⟩ := HX.out; exact rename_any f _ S a.name a.to _ H1.out (by omega) (by omega) (by omega))
    clear h0 h1 h2 h3
    go_enter Tryz.func8, Tryz.ntmps8
    go_wp2_with fail
    with_reducible refine HC.out.mono ?_
    rintro e w2 ⟨rfl, h2, k2⟩
    have H2 := Lib.hid (And.intro (h2.mono (fun i hi _ => hi)) (HA.out w2 k2))
    clear h2 k2
    go_wp2_with fail
    go_ret
    exact ⟨rfl, H2.out.1, H2.out.2⟩
  rw [if_neg h3]
  by_cases h4 : a.kind = 4
  · rw [if_pos h4]
    have g0 : (a.kind == 0) = false := by simpa using h0
    have g1 : (a.kind == 1) = false := by simpa using h1
    have g2 : (a.kind == 2) = false := by simpa using h2
    have g3 : (a.kind == 3) = false := by simpa using h3
    have g4 : (a.kind == 4) = true := by simpa using h4
    have HC := Lib.hid (by obtain ⟨x1, x2, x3, x4, x5, x6, x7, x8, x9, x10, x11⟩ := HX.out; exact delete_any f _ S a.name _ H1.out (by omega) (by omega))
    clear h0 h1 h2 h3 h4
    go_enter Tryz.func8, Tryz.ntmps8
    go_wp2_with fail
    with_reducible refine HC.out.mono ?_
    rintro e w2 ⟨rfl, h2, k2⟩
    have H2 := Lib.hid (And.intro (h2.mono (fun i hi _ => hi)) (HA.out w2 k2))
    clear h2 k2
    go_wp2_with fail
    go_ret
    exact ⟨rfl, H2.out.1, H2.out.2⟩
  rw [if_neg h4]
  by_cases h5 : a.kind = 5
  · rw [if_pos h5]
    have g0 : (a.kind == 0) = false := by simpa using h0
    have g1 : (a.kind == 1) = false := by simpa using h1
    have g2 : (a.kind == 2) = false := by simpa using h2
    have g3 : (a.kind == 3) = false := by simpa using h3
    have g4 : (a.kind == 4) = false := by simpa using h4
    have g5 : (a.kind == 5) = true := by simpa using h5
    have HC := Lib.hid (by obtain ⟨x1, x2, x3, x4, x5, x6, x7, x8, x9, x10, x11⟩ := HX.out; exact sync_any f _ S a.name _ H1.out (by omega) (by omega))
    clear h0 h1 h2 h3 h4 h5
    go_enter Tryz.func8, Tryz.ntmps8
    go_wp2_with fail
    with_reducible refine HC.out.mono ?_
    rintro e w2 ⟨rfl, h2, k2⟩
    have H2 := Lib.hid (And.intro (h2.mono (fun i hi _ => hi)) (HA.out w2 k2))
    clear h2 k2
    go_wp2_with fail
    go_ret
    exact ⟨rfl, H2.out.1, H2.out.2⟩
  rw [if_neg h5]
  by_cases h6 : a.kind = 6
  · rw [if_pos h6]
    have g0 : (a.kind == 0) = false := by simpa using h0
    have g1 : (a.kind == 1) = false := by simpa using h1
    have g2 : (a.kind == 2) = false := by simpa using h2
    have g3 : (a.kind == 3) = false := by simpa using h3
    have g4 : (a.kind == 4) = false := by simpa using h4
    have g5 : (a.kind == 5) = false := by simpa using h5
    have g6 : (a.kind == 6) = true := by simpa using h6
    have HC := Lib.hid (by obtain ⟨x1, x2, x3, x4, x5, x6, x7, x8, x9, x10, x11⟩ := HX.out; exact fuse_any f _ S a.n _ H1.out x4.2)
    clear h0 h1 h2 h3 h4 h5 h6
    go_enter Tryz.func8, Tryz.ntmps8
    go_wp2_with fail
    with_reducible refine HC.out.mono ?_
    rintro e w2 ⟨rfl, h2, k2⟩
    have H2 := Lib.hid (And.intro (h2.mono (fun i hi _ => hi)) (HA.out w2 k2))
    clear h2 k2
    go_wp2_with fail
    go_ret
    exact ⟨rfl, H2.out.1, H2.out.2⟩
  rw [if_neg h6]
  by_cases h7 : a.kind = 7
  · rw [if_pos h7]
    have g0 : (a.kind == 0) = false := by simpa using h0
    have g1 : (a.kind == 1) = false := by simpa using h1
    have g2 : (a.kind == 2) = false := by simpa using h2
    have g3 : (a.kind == 3) = false := by simpa using h3
    have g4 : (a.kind == 4) = false := by simpa using h4
    have g5 : (a.kind == 5) = false := by simpa using h5
    have g6 : (a.kind == 6) = false := by simpa using h6
    have g7 : (a.kind == 7) = true := by simpa using h7
    have HC := Lib.hid (by obtain ⟨x1, x2, x3, x4, x5, x6, x7, x8, x9, x10, x11⟩ := HX.out; exact crash_any f _ S a.keep _ H1.out (by omega))
    clear h0 h1 h2 h3 h4 h5 h6 h7
    go_enter Tryz.func8, Tryz.ntmps8
    go_wp2_with fail
    with_reducible refine HC.out.mono ?_
    rintro e w2 ⟨rfl, h2, k2⟩
    have H2 := Lib.hid (And.intro (h2.mono (fun i hi _ => hi)) (HA.out w2 k2))
    clear h2 k2
    go_wp2_with fail
    go_ret
    exact ⟨rfl, H2.out.1, H2.out.2⟩
  rw [if_neg h7]
  have g0 : (a.kind == 0) = false := by simpa using h0
  have g1 : (a.kind == 1) = false := by simpa using h1
  have g2 : (a.kind == 2) = false := by simpa using h2
  have g3 : (a.kind == 3) = false := by simpa using h3
  have g4 : (a.kind == 4) = false := by simpa using h4
  have g5 : (a.kind == 5) = false := by simpa using h5
  have g6 : (a.kind == 6) = false := by simpa using h6
  have g7 : (a.kind == 7) = false := by simpa using h7
  clear h0 h1 h2 h3 h4 h5 h6 h7
  go_enter Tryz.func8, Tryz.ntmps8
  go_wp2_with fail
  go_ret
  exact ⟨rfl, H1.out, HA.out _ (Ch.refl _ _)⟩
set_option maxHeartbeats 4000000 in
set_option maxRecDepth 100000 in
theorem told_any (f : Nat) (O : Nat → Prop) (S : FsP) (a : ActV) (A : Option Addr) (n c b0 : Nat) (w : World) (h : RfA w O f S) (hst : S.stamp ≤ 1000) (hm : S.fs.length ≤ 1000) (hname : a.name.size ≤ 100) (hto : a.to.size ≤ 100) (hi1 : -9223372036854775808 ≤ a.n ∧ a.n ≤ 9223372036854775807)
    (hn : n = a.B.length) (hnm : n ≤ 1000) (hnc : n ≤ c) (hc : c ≤ maxLen) (hr : Rs w b0 A a.B) (hb0 : 0 < n → ¬ O b0) (hb1 : 0 < n → b0 < w.heap.size) :
    Calls Tryz.prog 9 #[.pointer (some ⟨f, 0, none⟩), .agg (actC a A n c)] w fun e w' => e = .returned (.int .i64 ((actP S a).1 : Int)) ∧ RfA w' (fun i => O i ∨ w.heap.size ≤ i) f (actP S a).2 ∧ Ch O w w' := by
  have H1 := Lib.hid (show RfA (w.alloc (.cells (actC a A n c) 32)) (fun i => O i ∨ w.heap.size ≤ i) f S from (h.heap (fun i _ hi => Below.heap_alloc w _ i hi)).mono (fun i hi _ => .inl hi))
  have hbk := Bk.new w 32 (actC a A n c)
  have d0 : (w.alloc (.cells (actC a A n c) 32)).cell? ⟨w.heap.size, 0, none⟩ = some (.int .i64 a.kind) := hbk.cell 0
  have d1 : (w.alloc (.cells (actC a A n c) 32)).cell? ⟨w.heap.size, 1, none⟩ = some (.int .i64 a.n) := hbk.cell 1
  have d2 : (w.alloc (.cells (actC a A n c) 32)).cell? ⟨w.heap.size, 2, none⟩ = some (.string a.name) := hbk.cell 2
  have d3 : (w.alloc (.cells (actC a A n c) 32)).cell? ⟨w.heap.size, 3, none⟩ = some (.string a.to) := hbk.cell 3
  have d4 : (w.alloc (.cells (actC a A n c) 32)).cell? ⟨w.heap.size, 4, none⟩ = some (.slice A n c) := hbk.cell 4
  have d5 : (w.alloc (.cells (actC a A n c) 32)).cell? ⟨w.heap.size, 5, none⟩ = some (.int .u64 (a.keep.toNat : Int)) := hbk.cell 5
  have hr1 : Rs (w.alloc (.cells (actC a A n c) 32)) b0 A a.B := fun h0 => (hr.heap (Below.heap_alloc w _ b0 (hb1 (by omega)))) h0
  have HX := Lib.hid (And.intro hst (And.intro hname (And.intro hto (And.intro hi1 (And.intro hn (And.intro hnm (And.intro hnc (And.intro hc (And.intro hr1 (And.intro (show 0 < n → ¬ (O b0 ∨ w.heap.size ≤ b0) from fun h0 => by
    have e1 := hb0 h0; have e2 := hb1 h0; rintro (e | e)
    · exact e1 e
    · omega) (fun h0 : 0 < n => show b0 < (w.alloc (.cells (actC a A n c) 32)).heap.size from by have := hb1 h0; simp; omega)))))))))))
  have HA := Lib.hid (show ∀ w', Ch (fun i => O i ∨ w.heap.size ≤ i) (w.alloc (.cells (actC a A n c) 32)) w' → Ch O w w' from fun w' k => ((Ch.refl O w).alloc _).trans k (fun i hi => hi))
  have HO := Lib.hid (show ∀ i, (w.alloc (.cells (actC a A n c) 32)).heap.size ≤ i → (O i ∨ w.heap.size ≤ i) from fun i hi => .inr (by simp at hi; omega))
  have HM := Lib.hid hm
  clear h hst hname hto hi1 hn hnm hnc hc hr hr1 hb0 hb1 hbk hm
  unfold actP
  by_cases h0 : a.kind = 0
  · rw [if_pos h0]
    have g0 : (a.kind == 0) = true := by simpa using h0
    have HC := Lib.hid (by obtain ⟨x1, x2, x3, x4, x5, x6, x7, x8, x9, x10, x11⟩ := HX.out; exact rcreate_any f _ S a.name _ H1.out (by omega) (by omega) HM.out)
    clear h0
    go_enter Tryz.func9, Tryz.ntmps9
    go_wp2_with fail
    with_reducible refine HC.out.mono ?_
    rintro e w2 ⟨rfl, h2, k2⟩
    have H2 := Lib.hid (And.intro (h2.mono (fun i hi _ => by rcases hi with hi | hi; exact hi; exact HO.out i hi)) (HA.out w2 k2))
    clear h2 k2
    go_wp2_with fail
    go_ret
    exact ⟨rfl, H2.out.1, H2.out.2⟩
  rw [if_neg h0]
  by_cases h1 : a.kind = 1
  · rw [if_pos h1]
    have g0 : (a.kind == 0) = false := by simpa using h0
    have g1 : (a.kind == 1) = true := by simpa using h1
    have HC := Lib.hid (by obtain ⟨x1, x2, x3, x4, x5, x6, x7, x8, x9, x10, x11⟩ := HX.out; exact rwrite_any f _ S a.name a.n n c b0 a.B A _ H1.out (by omega) HM.out x5 (by omega) x7 x8 x9 x10 x11)
    clear h0 h1
    go_enter Tryz.func9, Tryz.ntmps9
    go_wp2_with fail
    with_reducible refine HC.out.mono ?_
    rintro e w2 ⟨rfl, h2, k2⟩
    have H2 := Lib.hid (And.intro (h2.mono (fun i hi _ => by rcases hi with hi | hi; exact hi; exact HO.out i hi)) (HA.out w2 k2))
    clear h2 k2
    go_wp2_with fail
    go_ret
    exact ⟨rfl, H2.out.1, H2.out.2⟩
  rw [if_neg h1]
  by_cases h2 : a.kind = 2
  · rw [if_pos h2]
    have g0 : (a.kind == 0) = false := by simpa using h0
    have g1 : (a.kind == 1) = false := by simpa using h1
    have g2 : (a.kind == 2) = true := by simpa using h2
    have HC := Lib.hid (by obtain ⟨x1, x2, x3, x4, x5, x6, x7, x8, x9, x10, x11⟩ := HX.out; exact rcut_any f _ S a.name a.n _ H1.out (by omega) HM.out)
    clear h0 h1 h2
    go_enter Tryz.func9, Tryz.ntmps9
    go_wp2_with fail
    with_reducible refine HC.out.mono ?_
    rintro e w2 ⟨rfl, h2, k2⟩
    have H2 := Lib.hid (And.intro (h2.mono (fun i hi _ => by rcases hi with hi | hi; exact hi; exact HO.out i hi)) (HA.out w2 k2))
    clear h2 k2
    go_wp2_with fail
    go_ret
    exact ⟨rfl, H2.out.1, H2.out.2⟩
  rw [if_neg h2]
  by_cases h3 : a.kind = 3
  · rw [if_pos h3]
    have g0 : (a.kind == 0) = false := by simpa using h0
    have g1 : (a.kind == 1) = false := by simpa using h1
    have g2 : (a.kind == 2) = false := by simpa using h2
    have g3 : (a.kind == 3) = true := by simpa using h3
    have HC := Lib.hid (by obtain ⟨x1, x2, x3, x4, x5, x6, x7, x8, x9, x10, x11⟩ := HX.out; exact rrename_any f _ S a.name a.to _ H1.out (by omega) (by omega) HM.out)
    clear h0 h1 h2 h3
    go_enter Tryz.func9, Tryz.ntmps9
    go_wp2_with fail
    with_reducible refine HC.out.mono ?_
    rintro e w2 ⟨rfl, h2, k2⟩
    have H2 := Lib.hid (And.intro (h2.mono (fun i hi _ => by rcases hi with hi | hi; exact hi; exact HO.out i hi)) (HA.out w2 k2))
    clear h2 k2
    go_wp2_with fail
    go_ret
    exact ⟨rfl, H2.out.1, H2.out.2⟩
  rw [if_neg h3]
  by_cases h4 : a.kind = 4
  · rw [if_pos h4]
    have g0 : (a.kind == 0) = false := by simpa using h0
    have g1 : (a.kind == 1) = false := by simpa using h1
    have g2 : (a.kind == 2) = false := by simpa using h2
    have g3 : (a.kind == 3) = false := by simpa using h3
    have g4 : (a.kind == 4) = true := by simpa using h4
    have HC := Lib.hid (by obtain ⟨x1, x2, x3, x4, x5, x6, x7, x8, x9, x10, x11⟩ := HX.out; exact rdelete_any f _ S a.name _ H1.out HM.out)
    clear h0 h1 h2 h3 h4
    go_enter Tryz.func9, Tryz.ntmps9
    go_wp2_with fail
    with_reducible refine HC.out.mono ?_
    rintro e w2 ⟨rfl, h2, k2⟩
    have H2 := Lib.hid (And.intro (h2.mono (fun i hi _ => by rcases hi with hi | hi; exact hi; exact HO.out i hi)) (HA.out w2 k2))
    clear h2 k2
    go_wp2_with fail
    go_ret
    exact ⟨rfl, H2.out.1, H2.out.2⟩
  rw [if_neg h4]
  by_cases h5 : a.kind = 5
  · rw [if_pos h5]
    have g0 : (a.kind == 0) = false := by simpa using h0
    have g1 : (a.kind == 1) = false := by simpa using h1
    have g2 : (a.kind == 2) = false := by simpa using h2
    have g3 : (a.kind == 3) = false := by simpa using h3
    have g4 : (a.kind == 4) = false := by simpa using h4
    have g5 : (a.kind == 5) = true := by simpa using h5
    have HC := Lib.hid (by obtain ⟨x1, x2, x3, x4, x5, x6, x7, x8, x9, x10, x11⟩ := HX.out; exact rsync_any f _ S a.name _ H1.out HM.out)
    clear h0 h1 h2 h3 h4 h5
    go_enter Tryz.func9, Tryz.ntmps9
    go_wp2_with fail
    with_reducible refine HC.out.mono ?_
    rintro e w2 ⟨rfl, h2, k2⟩
    have H2 := Lib.hid (And.intro (h2.mono (fun i hi _ => by rcases hi with hi | hi; exact hi; exact HO.out i hi)) (HA.out w2 k2))
    clear h2 k2
    go_wp2_with fail
    go_ret
    exact ⟨rfl, H2.out.1, H2.out.2⟩
  rw [if_neg h5]
  by_cases h6 : a.kind = 6
  · rw [if_pos h6]
    have g0 : (a.kind == 0) = false := by simpa using h0
    have g1 : (a.kind == 1) = false := by simpa using h1
    have g2 : (a.kind == 2) = false := by simpa using h2
    have g3 : (a.kind == 3) = false := by simpa using h3
    have g4 : (a.kind == 4) = false := by simpa using h4
    have g5 : (a.kind == 5) = false := by simpa using h5
    have g6 : (a.kind == 6) = true := by simpa using h6
    obtain ⟨vL, Rs0, hM, hO⟩ := H1.out
    have c3 := hM.hd.cell 3
    have f3 := hM.hd.free 3
    obtain ⟨M, hMd⟩ : ∃ M, M = max a.n (-1) := ⟨_, rfl⟩
    have em := fun ats ty => run_max ats ty a.n (-1) M (by rw [hMd]; split <;> omega)
    have hmx : max a.n (-1) = M := hMd.symm
    have HM2 := Lib.hid (And.intro hM (And.intro hO (And.intro hMd HX.out.2.2.2.1)))
    clear hM hO hMd
    clear h0 h1 h2 h3 h4 h5 h6
    go_enter Tryz.func9, Tryz.ntmps9
    go_wp2
    go_ret
    obtain ⟨hM, hO, hMd, hni⟩ := HM2.out
    have hS : fuseP S a.n = { S with fuse := M } := by rw [hMd]; rfl
    rw [hS]
    have hw := hM.wf
    refine ⟨rfl, ⟨vL, Rs0, hM.upd (hM.hd.set 3 (.int .i64 M)) (fun i _ hne => Below.heap_setCell _ ⟨f, 3, none⟩ _ i hne) hM.ner rfl ⟨hw.most1, hw.most2, by show -1 ≤ M; omega, by show M ≤ _; omega, hw.files, hw.order, hw.room, hw.names⟩, fun i hi => hO i hi⟩, HA.out _ ((Ch.refl _ _).set (p := ⟨f, 3, none⟩) (.inl (hO f (.inl rfl))) _)⟩
  rw [if_neg h6]
  by_cases h7 : a.kind = 7
  · rw [if_pos h7]
    have g0 : (a.kind == 0) = false := by simpa using h0
    have g1 : (a.kind == 1) = false := by simpa using h1
    have g2 : (a.kind == 2) = false := by simpa using h2
    have g3 : (a.kind == 3) = false := by simpa using h3
    have g4 : (a.kind == 4) = false := by simpa using h4
    have g5 : (a.kind == 5) = false := by simpa using h5
    have g6 : (a.kind == 6) = false := by simpa using h6
    have g7 : (a.kind == 7) = true := by simpa using h7
    have HC := Lib.hid (by obtain ⟨x1, x2, x3, x4, x5, x6, x7, x8, x9, x10, x11⟩ := HX.out; exact rcrash_any f _ S a.keep _ H1.out HM.out)
    clear h0 h1 h2 h3 h4 h5 h6 h7
    go_enter Tryz.func9, Tryz.ntmps9
    go_wp2_with fail
    with_reducible refine HC.out.mono ?_
    rintro e w2 ⟨rfl, h2, k2⟩
    have H2 := Lib.hid (And.intro (h2.mono (fun i hi _ => by rcases hi with hi | hi; exact hi; exact HO.out i hi)) (HA.out w2 k2))
    clear h2 k2
    go_wp2_with fail
    go_ret
    exact ⟨rfl, H2.out.1, H2.out.2⟩
  rw [if_neg h7]
  have g0 : (a.kind == 0) = false := by simpa using h0
  have g1 : (a.kind == 1) = false := by simpa using h1
  have g2 : (a.kind == 2) = false := by simpa using h2
  have g3 : (a.kind == 3) = false := by simpa using h3
  have g4 : (a.kind == 4) = false := by simpa using h4
  have g5 : (a.kind == 5) = false := by simpa using h5
  have g6 : (a.kind == 6) = false := by simpa using h6
  have g7 : (a.kind == 7) = false := by simpa using h7
  clear h0 h1 h2 h3 h4 h5 h6 h7
  go_enter Tryz.func9, Tryz.ntmps9
  go_wp2_with fail
  go_ret
  exact ⟨rfl, H1.out, HA.out _ (Ch.refl _ _)⟩
end Go.Proofs.YtknjopefbbldfaaGreatDoor
