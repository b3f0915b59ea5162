/- The document's answer for record: at, signed, wide. -/
import Derived.Test.YtbdehlphblbmoaaRec6
namespace Go.Proofs.Ytbdehlphblbmoaa
open Go.RowKit
attribute [local go_sem ↓] Go.wp_at_zero Go.wp_at_succ

theorem byN_cell {w : World} {B n p : Nat} {A : Option Addr} {L : List UInt8} (hr : Rd w B 1 A n (bys L)) (hp : p < n) : ∃ b o, A = some ⟨b, o, none⟩ ∧ b < B ∧ byN L p < 256 ∧ w.cell? ⟨b, o + p, none⟩ = some (.int .u8 (byN L p : Int)) := by
  obtain ⟨b, o, u, hA, hb, hu, hlt, hc⟩ := hr.byte hp
  have : byN L p = u.toNat := by unfold byN; rw [hu]; rfl
  exact ⟨b, o, hA, hb, by omega, by rw [this]; exact hc⟩
theorem sgnB_by {L : List UInt8} {p : Nat} (hp : p + 4 ≤ L.length) (x y : UInt8) : sgnB L p x y = (((byN L p : Int) == 80) && (((byN L (p + 1) : Int) == 75) && (((byN L (p + 2) : Int) == (x.toNat : Int)) && ((byN L (p + 3) : Int) == (y.toNat : Int))))) := by
  have hl : 4 ≤ (L.drop p).length := by rw [List.length_drop]; omega
  match hd : L.drop p, hl with
  | b0 :: b1 :: b2 :: b3 :: r, _ =>
    have e0 : byN L p = b0.toNat := by unfold byN; rw [show p = p + 0 by omega, ← List.getElem?_drop, hd]; rfl
    have e1 : byN L (p + 1) = b1.toNat := by unfold byN; rw [← List.getElem?_drop, hd]; rfl
    have e2 : byN L (p + 2) = b2.toNat := by unfold byN; rw [← List.getElem?_drop, hd]; rfl
    have e3 : byN L (p + 3) = b3.toNat := by unfold byN; rw [← List.getElem?_drop, hd]; rfl
    unfold sgnB
    rw [hd, e0, e1, e2, e3, Bool.eq_iff_iff]
    simp [← UInt8.toNat_inj]
    omega
set_option maxHeartbeats 1000000 in
theorem at_num (A : Option Addr) (n c p x : Nat) (L : List UInt8) (w : World) (hr : Rd w w.heap.size 1 A n (bys L)) (hnc : n ≤ c) (hn : n ≤ 1000000000) (hp : p + x ≤ n) (hx : x ≤ 6) (hx0 : 0 < x) :
    Calls Try.prog 20 #[.slice A n c, .int .i64 p, .int .i64 x] w fun e w' => e = .returned (.int .i64 (nAt L p x)) ∧ w = w' := by
  have hx8 : ((x : Int) == 8) = false := by simp; omega
  have hnb := fun A' c' (h : Rd w w.heap.size 1 A' x (bys ((L.drop p).take x))) => number_any A' x c' ((L.drop p).take x) w h (by omega)
  have hcu := hr.bcut (k := p) (m := x) hp (A' := A.map (·.add p)) (fun _ => rfl)
  have Hnb := Lib.hid (hnb (A.map (·.add p)) (c - p) hcu)
  have hcp : ¬ c = p := by omega
  clear hr hnb hcu
  go_enter Try.func20, Try.ntmps20
  go_wp2_with fail
  refine Hnb.out.mono ?_
  rintro e w1 ⟨rfl, rfl⟩
  go_wp2
  go_ret
  exact ⟨rfl, rfl⟩
set_option maxHeartbeats 1000000 in
theorem at_long (A : Option Addr) (n c p : Nat) (L : List UInt8) (w : World) (hr : Rd w w.heap.size 1 A n (bys L)) (hnc : n ≤ c) (hn : n ≤ 1000000000) (hp : p + 8 ≤ n) :
    Calls Try.prog 20 #[.slice A n c, .int .i64 p, .int .i64 8] w fun e w' => e = .returned (.int .i64 (long8 L p)) ∧ w = w' := by
  have hll := hr.blen
  obtain ⟨b, o, rfl, hb, l6, c6⟩ := byN_cell hr (p := p + 6) (by omega)
  obtain ⟨b', o', e1, _, l7, c7⟩ := byN_cell hr (p := p + 7) (by omega)
  injection e1 with e1; injection e1 with e1a e1b; subst e1a e1b
  have Hl := Lib.hid (long8_ref (L := L) (p := p) (by omega))
  have hcu := hr.bcut (k := p) (m := 6) (by omega) (A' := some ⟨b, o + p, none⟩) (fun _ => by simp [addLit])
  have Hnb := Lib.hid (number_any (some ⟨b, o + p, none⟩) 6 (c - p) ((L.drop p).take 6) w hcu (by omega))
  have hcp : ¬ c = p := by omega
  clear hr hcu hll
  generalize byN L (p + 6) = u6 at *
  generalize byN L (p + 7) = u7 at *
  by_cases h6 : u6 = 0
  · by_cases h7 : u7 = 0
    · rw [if_neg (by omega)] at Hl
      subst h6 h7
      go_enter Try.func20, Try.ntmps20
      go_wp2_with fail
      refine Hnb.out.mono ?_
      rintro e w1 ⟨rfl, rfl⟩
      go_wp2
      go_ret
      exact ⟨ret_int Hl.out.symm, rfl⟩
    · rw [if_pos (.inr h7)] at Hl
      subst h6
      have hb7 : ((u7 : Int) != 0) = true := by rw [bne_iff_ne]; omega
      clear h7 Hnb
      go_enter Try.func20, Try.ntmps20
      go_wp2
      go_ret
      exact ⟨ret_int Hl.out.symm, rfl⟩
  · rw [if_pos (.inl h6)] at Hl
    have hb7 : ((u6 : Int) != 0) = true := by rw [bne_iff_ne]; omega
    clear h6 Hnb
    go_enter Try.func20, Try.ntmps20
    go_wp2
    go_ret
    exact ⟨ret_int Hl.out.symm, rfl⟩
set_option maxHeartbeats 1000000 in
theorem signed_any (A : Option Addr) (n c p : Nat) (x y : UInt8) (L : List UInt8) (w : World) (hr : Rd w w.heap.size 1 A n (bys L)) (hnc : n ≤ c) (hn : n ≤ 1000000000) (hp : p + 4 ≤ n) :
    Calls Try.prog 19 #[.slice A n c, .int .i64 p, .int .u8 (x.toNat : Int), .int .u8 (y.toNat : Int)] w fun e w' => e = .returned (.bool (sgnB L p x y)) ∧ w = w' := by
  obtain ⟨b, o, rfl, hb, l0, c0⟩ := byN_cell hr (p := p) (by omega)
  obtain ⟨b', o', e1, _, l1, c1⟩ := byN_cell hr (p := p + 1) (by omega)
  obtain ⟨b'', o'', e2, _, l2, c2⟩ := byN_cell hr (p := p + 2) (by omega)
  obtain ⟨b''', o''', e3, _, l3, c3⟩ := byN_cell hr (p := p + 3) (by omega)
  injection e1 with e1; injection e1 with e1a e1b; subst e1a e1b
  injection e2 with e2; injection e2 with e1a e1b; subst e1a e1b
  injection e3 with e3; injection e3 with e1a e1b; subst e1a e1b
  have Hs := Lib.hid (sgnB_by (by have := hr.blen; omega : p + 4 ≤ L.length) x y)
  clear hr
  generalize byN L p = u0 at *
  generalize byN L (p + 1) = u1 at *
  generalize byN L (p + 2) = u2 at *
  generalize byN L (p + 3) = u3 at *
  go_enter Try.func19, Try.ntmps19
  go_wp2_with fail
  all_goals
    go_ret
    exact ⟨ret_bool (by rw [Hs.out]; simp [*]), rfl⟩
end Go.Proofs.Ytbdehlphblbmoaa
