/- Contracts of package vfs: Write, whatever is asked. -/
import Derived.Test.YtknjopefbbldfaaGreatDoorVfsX
namespace Go.Proofs.YtknjopefbbldfaaGreatDoor
open Go.RowKit
attribute [local go_sem ↓] Go.wp_at_zero Go.wp_at_succ

set_option maxHeartbeats 4000000 in
set_option maxRecDepth 100000 in
theorem write_any (f : Nat) (O : Nat → Prop) (S : FsP) (s : ByteArray) (q : Int) (n c b0 : Nat) (bs : List UInt8) (A : Option Addr) (w : World) (hO : ∀ i, w.heap.size ≤ i → O i) (h : FsA w O f S) (hs : s.size ≤ 1000000) (hst : S.stamp ≤ 1000000)
    (hn : n = bs.length) (hnm : n ≤ 100000) (hnc : n ≤ c) (hc : c ≤ maxLen) (hr : Rs w b0 A bs) (hb0 : 0 < n → ¬ O b0) (hb1 : 0 < n → b0 < w.heap.size) :
    Calls Tryz.prog 12 #[.pointer (some ⟨f, 0, none⟩), .string s, .int .i64 q, .slice A n c] w fun e w' => e = .returned (.int .i64 ((writeP S s.data.toList q bs).1 : Int)) ∧ FsA w' O f (writeP S s.data.toList q bs).2 ∧ Ch O w w' := by
  have hsm : s.size ≤ maxLen := Nat.le_trans hs (by unfold maxLen; decide)
  have H := Lib.hid h
  have HY := Lib.hid (fun x hd hf p hp => write_at f O S w hO h s p n c b0 bs A x hs hst hn hnm hnc hc hr hb0 hb1 hd hf hp)
  obtain ⟨m, bl, gl, sv, hM, hOs⟩ := h
  cases hd : S.down with
  | true =>
    have e1 : writeP S s.data.toList q bs = (9, S) := by unfold writeP; rw [hd]; rfl
    rw [e1]
    have HA := Lib.hid (at_down f m bl gl sv S s w hM hsm hd)
    clear hM hO hOs hd hs hsm hst hn hnm hnc hc hr hb0 hb1 HY e1
    go_enter Tryz.func12, Tryz.ntmps12
    go_wp2_with fail
    with_reducible refine HA.out.mono ?_
    rintro e w1 ⟨rfl, hw1⟩; subst hw1
    go_wp2_with fail
    go_ret
    exact ⟨rfl, H.out, Ch.refl _ _⟩
  | false =>
    cases hf : findP S s.data.toList with
    | none =>
      have e1 : writeP S s.data.toList q bs = (6, S) := by unfold writeP; rw [hd, hf]; rfl
      rw [e1]
      have HA := Lib.hid (at_none f m bl gl sv S s w hM hsm hd hf)
      clear hM hO hOs hd hs hsm hst hf hn hnm hnc hc hr hb0 hb1 HY e1
      go_enter Tryz.func12, Tryz.ntmps12
      go_wp2_with fail
      with_reducible refine HA.out.mono ?_
      rintro e w1 ⟨rfl, hw1⟩; subst hw1
      go_wp2_with fail
      go_ret
      exact ⟨rfl, H.out, Ch.refl _ _⟩
    | some x =>
      have HA := Lib.hid (at_some f m bl gl sv S s w hM hsm hd hf)
      have c1 : w.cell? ⟨bl s.data.toList, 1, none⟩ = some (.int .i64 (x.B.length : Int)) := (hM.fl _ x hf).hd.cell 1
      by_cases hbad : q < 0 ∨ (x.B.length : Int) < q
      · have e1 : writeP S s.data.toList q bs = (1, S) := by unfold writeP; rw [hd, hf]; simp only [Bool.false_eq_true, if_false, if_pos hbad]
        rw [e1]
        by_cases h1 : q < 0
        · clear hM hO hOs hd hs hsm hst hf hn hnm hnc hc hr hb0 hb1 HY e1 hbad
          go_enter Tryz.func12, Tryz.ntmps12
          go_wp2_with fail
          with_reducible refine HA.out.mono ?_
          rintro e w1 ⟨rfl, hw1⟩; subst hw1
          go_wp2_with fail
          go_ret
          exact ⟨rfl, H.out, Ch.refl _ _⟩
        · obtain ⟨N, rfl⟩ : ∃ k : Nat, q = (k : Int) := ⟨q.toNat, by omega⟩
          have h2 : x.B.length < N := by omega
          clear hM hO hOs hd hs hsm hst hf hn hnm hnc hc hr hb0 hb1 HY e1 hbad
          go_enter Tryz.func12, Tryz.ntmps12
          go_wp2_with fail
          with_reducible refine HA.out.mono ?_
          rintro e w1 ⟨rfl, hw1⟩; subst hw1
          go_wp2_with fail
          go_ret
          exact ⟨rfl, H.out, Ch.refl _ _⟩
      · obtain ⟨p, rfl⟩ : ∃ k : Nat, q = (k : Int) := ⟨q.toNat, by omega⟩
        exact HY.out x hd hf p (by omega)
end Go.Proofs.YtknjopefbbldfaaGreatDoor
