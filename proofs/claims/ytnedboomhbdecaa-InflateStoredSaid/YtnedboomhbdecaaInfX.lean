/- Contracts of package inflate: Rest, Put to a fresh unpacker. -/
import Derived.Test.YtnedboomhbdecaaInfW
namespace Go.Proofs.Ytnedboomhbdecaa
open Go.RowKit
attribute [local go_sem ↓] Go.wp_at_zero Go.wp_at_succ

theorem hel_0 : hel 0 = 0 := by decide
set_option maxHeartbeats 2000000 in
set_option maxRecDepth 100000 in
theorem put_fresh (g gi : Nat) (S : Nat → Prop) (A : Option Addr) (n c : Nat) (m : List UInt8) (c1 c2 c3 c4 c5 c6 c7 c8 : Value) (w : World) (h : Bk w g 95 #[.pointer (some ⟨gi, 0, none⟩), c1, c2, c3, c4, c5, c6, c7, c8]) (hr : RdS w S gi [] 0) (hd : Rd w w.heap.size 1 A n (bys m)) (hn : n ≤ 1000000) :
    Calls Try.prog 48 #[.pointer (some ⟨g, 0, none⟩), .slice A n c] w fun e w' => e = .returned (.tuple #[]) ∧ ∃ (g1 : Nat) (S1 : Nat → Prop), Bk w' g 95 #[.pointer (some ⟨g1, 0, none⟩), c1, c2, c3, c4, c5, c6, c7, c8] ∧ RdS w' S1 g1 m 0 ∧ (∀ k, S1 k → w.heap.size ≤ k) ∧ Ch (fun i => i = g) w w' := by
  have hrows : RdRows w w.heap.size none 0 [] := ⟨[], Rd.nil_, rfl, by simp⟩
  have hrd := rread_any none 0 0 [] w hrows (by omega) (by simp)
  have Hrd := Lib.hid hrd
  have hglt := h.lt
  have Hglt := Lib.hid hglt
  have H := Lib.hid h
  have Hr := Lib.hid hr
  have Hd := Lib.hid hd
  have Hn := Lib.hid hn
  clear hrd hrows h hr hd hn hglt
  go_enter Try.func48, Try.ntmps48
  go_wp2_with fail
  refine Hrd.out.mono ?_
  rintro e w1 ⟨rfl, S1, hr1, hS1, hb1⟩
  have hbk1 := H.out.below hb1 Hglt.out
  have hr01 := Hr.out.ch (S' := fun _ => False) (Ch.of_below hb1 (Nat.le_refl _)) (fun _ _ h => h)
  have q0 : w1.cell? ⟨g, 0, none⟩ = some (.pointer (some ⟨gi, 0, none⟩)) := hbk1.cell 0
  have f0 : w1.frozen? ⟨g, 0, none⟩ = false := hbk1.free 0
  have hmk := rmark_eq gi S [] 0 w1 hr01
  have Hmk := Lib.hid hmk
  have Hhas := Lib.hid hr01
  have Hr1 := Lib.hid hr1
  have HS1 := Lib.hid hS1
  have Hb1 := Lib.hid hb1
  have Hbk1 := Lib.hid hbk1
  clear hmk hr01 hr1 hS1 hb1 hbk1 Hrd Hr
  go_wp2_with fail
  refine Hmk.out.mono ?_
  rintro e w2 ⟨rfl, rfl⟩
  go_wp2_with fail
  go_loopw [6] (fun _ wr => ∃ q, wr = w2.drewN q) (fun _ _ => 0)
  case atStart => exact ⟨0, rfl⟩
  case round =>
    obtain ⟨q, rfl⟩ := hrel
    have hha := rhas_any gi S [] 0 (w2.drewN q) 8 (Hhas.out.ch ((Ch.refl (fun _ => False) w2).drewN q) (fun _ _ h => h))
    rw [show (decide ((8 : Int) ≤ 8 * (([] : List UInt8).length : Int) - (0 : Nat))) = false by decide] at hha
    have Hha := Lib.hid hha
    clear hha
    go_wp2_with fail
    refine Hha.out.mono ?_
    rintro e w3 ⟨rfl, q3, rfl⟩
    have hq : (w2.drewN q).drewN q3 = w2.drewN (q + q3) := World.drewN_drewN _ _ _
    rw [hq]
    have had := radd_any w.heap.size S1 [] 0 A n c w.heap.size m (w2.drewN (q + q3)) (Hr1.out.ch ((Ch.refl (fun _ => False) w2).drewN _) (fun _ _ h => h)) (Hd.out.below (below_drewN Hb1.out _) (Nat.le_refl _)) (by have := Hn.out; simp; omega)
    have Had := Lib.hid had
    clear had
    go_wp2_with fail
    refine Had.out.mono ?_
    rintro e w4 ⟨rfl, S4, hr4, hc4, hS4⟩
    have hbt := rbits_yes w.heap.size S4 ([] ++ m) 0 0 w4 hr4 (by rw [hel_0]; omega)
    rw [hel_0] at hbt
    have Hbt := Lib.hid hbt
    have Hc4 := Lib.hid hc4
    have HS4 := Lib.hid hS4
    clear hbt hc4 hS4 hr4
    go_wp2_with fail
    refine Hbt.out.mono ?_
    rintro e w5 ⟨rfl, hr5, hc5⟩
    have hS4g : ∀ k, S4 k → w.heap.size ≤ k := fun k hk => by
      rcases HS4.out k hk with h | h
      · exact HS1.out k h
      · exact Nat.le_trans Hb1.out.size h
    have hc24 : Ch S4 w w5 := Ch.trans (Ch.trans (Ch.of_below (below_drewN Hb1.out _) (Nat.le_refl _)) Hc4.out (fun i hi => .inr (HS1.out i hi))) hc5 (fun i hi => .inl hi)
    have hbk5 := H.out.ch hc24 (fun h => by have := hS4g _ h; have := Hglt.out; omega)
    have q5 : w5.cell? ⟨g, 0, none⟩ = some (.pointer (some ⟨gi, 0, none⟩)) := hbk5.cell 0
    have f5 : w5.frozen? ⟨g, 0, none⟩ = false := hbk5.free 0
    have hset := hbk5.set 0 (.pointer (some ⟨w.heap.size, 0, none⟩))
    have hr6 := hr5.ch ((Ch.refl (fun i => i = g) w5).set (p := ⟨g, 0, none⟩) (.inl rfl) (.pointer (some ⟨w.heap.size, 0, none⟩))) (fun i hi e => by subst e; have := hS4g _ hi; have := Hglt.out; omega)
    have hc6 : Ch (fun i => i = g) w (w5.setCell ⟨g, 0, none⟩ (.pointer (some ⟨w.heap.size, 0, none⟩))) := ((Ch.refl (fun i => i = g) w).trans hc24 (fun i hi => .inr (hS4g i hi))).set (p := ⟨g, 0, none⟩) (.inl rfl) _
    have Hset := Lib.hid hset
    have Hr6 := Lib.hid hr6
    have Hc6 := Lib.hid hc6
    have HS4g := Lib.hid hS4g
    clear hset hr6 hc6 hS4g hr5 hc5 hbk5 hc24 Hbt Had
    go_wp2_with fail
    go_end0
    exact ⟨rfl, _, S4, Hset.out, Hr6.out, HS4g.out, Hc6.out⟩
theorem rest_any (g gi n co : Nat) (S : Nat → Prop) (L : List UInt8) (a : Nat) (Ao : Option Addr) (st left : Nat) (last : Bool) (c6 v7 v8 : Value) (w : World) (hst : st ≤ 4) (hrd : RdS w S gi L a) (hS : ¬ S g) (hdn : dnB st last left = true) (hL : L.length ≤ 1000000)
    (h : Bk w g 95 #[.pointer (some ⟨gi, 0, none⟩), .slice Ao n co, .int .i64 (n : Int), .int .i64 (st : Int), .bool last, .int .i64 (left : Int), c6, v7, v8]) :
    Calls Try.prog 51 #[.pointer (some ⟨g, 0, none⟩)] w fun e w' => e = .returned (.int .i64 (((8 * L.length - a) / 8 : Nat) : Int)) ∧ Ch (fun i => i = g) w w' := by
  have hdone := done_any g n co Ao st left last _ c6 v7 v8 w hst h
  rw [hdn] at hdone
  have hle := hrd.le
  have Hdone := Lib.hid hdone
  have Hrd := Lib.hid hrd
  have HS := Lib.hid hS
  clear hdone hrd hdn h hS
  go_enter Try.func51, Try.ntmps51
  go_wp2_with fail
  refine Hdone.out.mono ?_
  rintro e w1 ⟨rfl, ⟨st', hbk1, _⟩, hc1⟩
  have q0 : w1.cell? ⟨g, 0, none⟩ = some (.pointer (some ⟨gi, 0, none⟩)) := hbk1.cell 0
  have hlf := rleft_any gi S L a w1 (Hrd.out.ch hc1 (fun i hi e => HS.out (e ▸ hi)))
  have hcast : 8 * (L.length : Int) - (a : Int) = ((8 * L.length - a : Nat) : Int) := by omega
  rw [hcast] at hlf
  obtain ⟨d, hd⟩ : ∃ d, 8 * L.length - a = d := ⟨_, rfl⟩
  rw [hd] at hlf
  have Hd := Lib.hid hd
  have hdl : d ≤ 8000000 := by omega
  have hq : IntKind.i64.wrap (d : Int) = d := IntWalk.i64_in _ (by omega)
  have hq2 : IntKind.i64.wrap ((d : Int).tdiv 8) = ((d / 8 : Nat) : Int) := by rw [show (d : Int).tdiv 8 = ((d / 8 : Nat) : Int) from rfl, IntWalk.i64_in _ (by omega)]
  have hq3 : IntKind.i64.wrap ((d : Int) / 8) = ((d / 8 : Nat) : Int) := by rw [IntWalk.i64_in _ (by omega)]; omega
  have Hlf := Lib.hid hlf
  have Hc1 := Lib.hid hc1
  clear hlf hc1 hbk1 hcast hd hle
  go_wp2_with fail
  refine Hlf.out.mono ?_
  rintro e w2 ⟨rfl, q, rfl⟩
  go_wp2_with fail
  go_ret
  exact ⟨by rw [Hd.out]; show Ending.returned (.int .i64 ((d : Int) / 8)) = .returned (.int .i64 ((d / 8 : Nat) : Int)); simp, Hc1.out.drewN q⟩
end Go.Proofs.Ytnedboomhbdecaa
