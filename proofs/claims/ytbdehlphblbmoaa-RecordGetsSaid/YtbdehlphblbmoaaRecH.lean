/- Contracts of package record: the reader, whatever happened before. -/
import Derived.Test.YtbdehlphblbmoaaRec5
import Derived.Test.YtbdehlphblbmoaaRecG
namespace Go.Proofs.Ytbdehlphblbmoaa
open Go.RowKit
attribute [local go_sem ↓] Go.wp_at_zero Go.wp_at_succ

/-- A reader that should stand at P; F: the error it began with. -/
def RQ (F : Int) (w : World) (g : Nat) (A : Option Addr) (n c P : Nat) (e : Int) : Prop :=
  ∃ p, RR w g A n c p e ∧ ((F = 0 ∧ e = 0 ∧ p = P ∧ P ≤ n) ∨ (F = 0 ∧ e = 3 ∧ n < P) ∨ (F ≠ 0 ∧ e = F))
theorem RQ.lt {F : Int} {w : World} {g : Nat} {A : Option Addr} {n c P : Nat} {e : Int} (h : RQ F w g A n c P e) : g < w.heap.size := by
  obtain ⟨p, h, _⟩ := h; exact Bk.lt h
theorem RQ.c2 {F : Int} {w : World} {g : Nat} {A : Option Addr} {n c P : Nat} {e : Int} (h : RQ F w g A n c P e) : w.cell? ⟨g, 2, none⟩ = some (.int .i64 e) := by
  obtain ⟨p, h, _⟩ := h; exact Bk.cell h 2
theorem RQ.c1 {F : Int} {w : World} {g : Nat} {A : Option Addr} {n c P : Nat} (h : RQ F w g A n c P 0) : w.cell? ⟨g, 1, none⟩ = some (.int .i64 (P : Int)) := by
  obtain ⟨p, h, h1 | h1 | h1⟩ := h
  · obtain ⟨_, _, rfl, _⟩ := h1; exact Bk.cell h 1
  · omega
  · omega
theorem RQ.F0 {F : Int} {w : World} {g : Nat} {A : Option Addr} {n c P : Nat} (h : RQ F w g A n c P 0) : F = 0 := by
  obtain ⟨p, h, h1 | h1 | h1⟩ := h
  · omega
  · omega
  · omega
theorem RQ.er {F : Int} {w : World} {g : Nat} {A : Option Addr} {n c P : Nat} {e : Int} (h : RQ F w g A n c P e) (he : e ≠ 0) : (F = 0 ∧ e = 3 ∧ n < P) ∨ (F ≠ 0 ∧ e = F) := by
  obtain ⟨p, h, h1 | h1 | h1⟩ := h
  · omega
  · exact .inl h1
  · exact .inr h1
theorem RQ.blk {F : Int} {w w' : World} {g : Nat} {A : Option Addr} {n c P : Nat} {e : Int} (h : RQ F w g A n c P e) (k : w'.heap[g]? = w.heap[g]?) : RQ F w' g A n c P e := by
  obtain ⟨p, h, h1⟩ := h
  exact ⟨p, k.trans h, h1⟩
theorem RQ.ch {F : Int} {w w' : World} {S : Nat → Prop} {g : Nat} {A : Option Addr} {n c P : Nat} {e : Int} (h : RQ F w g A n c P e) (k : Ch S w w') (hg : ¬ S g) : RQ F w' g A n c P e := h.blk (k.block g h.lt hg)
theorem RQ.below {B : Nat} {F : Int} {w w' : World} {g : Nat} {A : Option Addr} {n c P : Nat} {e : Int} (h : RQ F w g A n c P e) (k : Below B w w') (hg : g < B) : RQ F w' g A n c P e := h.blk (k.block g hg)

set_option maxHeartbeats 1000000 in
theorem num_end (g : Nat) (A : Option Addr) (n c k x : Nat) (w : World) (h : RR w g A n c k 0) (hn : n ≤ 1000000000) (hk8 : k ≤ n) (hx : 1 ≤ x ∧ x ≤ 7) (hk : n < k + x) :
    Calls Try.prog 17 #[.pointer (some ⟨g, 0, none⟩), .int .i64 x] w fun e' w' => e' = .returned (.int .i64 0) ∧ RR w' g A n c k 3 ∧ Ch (fun i => i = g) w w' := by
  have hwid : wid (x : Int) = x := wid_in _ (by omega) (by omega)
  have hg := get_end A n c (k : Int) (x : Int) w.drew (by omega) (by omega) (.inr (by rw [hwid]; omega))
  have c0 : w.cell? ⟨g, 0, none⟩ = some (.slice A n c) := Bk.cell h 0
  have c1 : w.cell? ⟨g, 1, none⟩ = some (.int .i64 (k : Int)) := Bk.cell h 1
  have c2 : w.cell? ⟨g, 2, none⟩ = some (.int .i64 0) := Bk.cell h 2
  have f2 : w.frozen? ⟨g, 2, none⟩ = false := Bk.free h 2
  have hfin : RR (w.drew.setCell ⟨g, 2, none⟩ (.int .i64 3)) g A n c k 3 ∧ Ch (fun i => i = g) w (w.drew.setCell ⟨g, 2, none⟩ (.int .i64 3)) := by
    have h2 := Bk.set (Bk.drew h) 2 (.int .i64 3)
    simp only [List.setIfInBounds_toArray, List.set_cons_zero, List.set_cons_succ] at h2
    exact ⟨h2, (Ch.refl (fun i => i = g) w).drew.set (p := ⟨g, 2, none⟩) (.inl rfl) _⟩
  have Hg := Lib.hid hg
  have Hfin := Lib.hid hfin
  clear hg hfin h hwid
  go_enter Try.func17, Try.ntmps17
  go_wp2_with fail
  go_region_held3 (fun w' => w'.cell? ⟨g, 0, none⟩ = some (.slice A n c) ∧ w'.cell? ⟨g, 1, none⟩ = some (.int .i64 (k : Int))) (first | (exact ⟨c0, c1⟩) | (exact ⟨c0, c1⟩))
    (first
      | ((go_at_call 36; (with_reducible refine Hg.out.mono ?_); rintro e w1 ⟨rfl, rfl⟩)))
  clear Hg
  go_wp2
  go_ret
  exact ⟨rfl, Hfin.out.1, Hfin.out.2⟩
/-- A number. -/
theorem num_q (F : Int) (g : Nat) (A : Option Addr) (n c P x : Nat) (e : Int) (L : List UInt8) (w : World) (h : RQ F w g A n c P e) (hr : Rd w w.heap.size 1 A n (bys L)) (hnc : n ≤ c) (hn : n ≤ 1000000000) (hx : 1 ≤ x ∧ x ≤ 7) :
    Calls Try.prog 17 #[.pointer (some ⟨g, 0, none⟩), .int .i64 x] w fun e' w' => ∃ v e1 : Int, e' = .returned (.int .i64 v) ∧ 0 ≤ v ∧ v < 256 ^ x ∧ (e1 = 0 → e = 0 ∧ P + x ≤ n ∧ v = nAt L P x) ∧ (e1 ≠ 0 → v = 0) ∧ RQ F w' g A n c (P + x) e1 ∧ Ch (fun i => i = g) w w' := by
  obtain ⟨p, hR, hc⟩ := h
  have h256 : (0 : Int) < 256 ^ x := Int.pow_pos (by omega)
  by_cases he : e = 0
  · subst he
    obtain ⟨hF, hP, rfl⟩ : F = 0 ∧ P ≤ n ∧ p = P := by omega
    by_cases hk : P + x ≤ n
    · refine (num_ok g A n c P x L w hR hr hnc hn hx hk).mono ?_
      rintro e' w' ⟨he, h1, h2⟩
      exact ⟨_, 0, he, nAt_nn _ _ _, nAt_lt _ _ _, fun _ => ⟨rfl, hk, rfl⟩, fun h => absurd rfl h, ⟨_, h1, .inl ⟨hF, rfl, rfl, hk⟩⟩, h2⟩
    · refine (num_end g A n c P x w hR hn hP hx (by omega)).mono ?_
      rintro e' w' ⟨he, h1, h2⟩
      exact ⟨_, 3, he, Int.le_refl _, h256, fun h => by omega, fun _ => rfl, ⟨_, h1, .inr (.inl ⟨hF, rfl, by omega⟩)⟩, h2⟩
  · refine (num_err g A n c p e x w hR he).mono ?_
    rintro e' w' ⟨he', rfl⟩
    exact ⟨_, e, he', Int.le_refl _, h256, fun h => absurd h he, fun _ => rfl, ⟨_, hR, by omega⟩, Ch.refl _ _⟩
/-- Bytes. -/
theorem cut_q (F : Int) (g : Nat) (A : Option Addr) (n c P m : Nat) (e : Int) (L : List UInt8) (w : World) (h : RQ F w g A n c P e) (hr : Rd w w.heap.size 1 A n (bys L)) (hnc : n ≤ c) (hn : n ≤ 1000000000) :
    Calls Try.prog 24 #[.pointer (some ⟨g, 0, none⟩), .int .i64 m] w fun e' w' => ∃ A1 m1 c1 l1, ∃ e1 : Int, e' = .returned (.slice A1 m1 c1) ∧ m1 ≤ c1 ∧ (e1 = 0 → e = 0 ∧ P + m ≤ n ∧ m1 = m ∧ l1 = (L.drop P).take m) ∧ w'.ownsRow w.heap.size 5 1 (.slice A1 m1 c1) m1 (bys l1) ∧ m1 ≤ n ∧ RQ F w' g A n c (P + m) e1 ∧ Ch (fun i => i = g) w w' := by
  obtain ⟨p, hR, hc⟩ := h
  by_cases he : e = 0
  · subst he
    obtain ⟨hF, hP, rfl⟩ : F = 0 ∧ P ≤ n ∧ p = P := by omega
    by_cases hk : P + m ≤ n
    · refine (rcut_ok g A n c P m L w hR hr hnc hn hk).mono ?_
      rintro e' w' ⟨v, he, ho, h1, h2⟩
      obtain ⟨A1, c1, rfl, hc1, _⟩ := own_form ho
      exact ⟨A1, m, c1, _, 0, he, hc1, fun _ => ⟨rfl, hk, rfl, rfl⟩, ho, by omega, ⟨_, h1, .inl ⟨hF, rfl, rfl, hk⟩⟩, h2⟩
    · refine (rcut_end g A n c P m w hR hn (by omega)).mono ?_
      rintro e' w' ⟨he, h1, h2⟩
      exact ⟨none, 0, 0, [], 3, he, Nat.le_refl _, fun h => by omega, own_nilB _ _ _, by omega, ⟨_, h1, .inr (.inl ⟨hF, rfl, by omega⟩)⟩, h2⟩
  · refine (rcut_err g A n c p e m w hR he).mono ?_
    rintro e' w' ⟨he', rfl⟩
    exact ⟨none, 0, 0, [], e, he', Nat.le_refl _, fun h => absurd h he, own_nilB _ _ _, by omega, ⟨_, hR, by omega⟩, Ch.refl _ _⟩
set_option maxHeartbeats 1000000 in
theorem rcut_neg (g : Nat) (A : Option Addr) (n c : Nat) (a : Int) (m : Nat) (w : World) (h : RR w g A n c a 0) (ha : a < 0) :
    Calls Try.prog 24 #[.pointer (some ⟨g, 0, none⟩), .int .i64 m] w fun e' w' => e' = .returned (.slice none 0 0) ∧ RR w' g A n c a 1 ∧ Ch (fun i => i = g) w w' := by
  have hg := cut_arg A n c a (m : Int) w.drew (.inl ha)
  have c0 : w.cell? ⟨g, 0, none⟩ = some (.slice A n c) := Bk.cell h 0
  have c1 : w.cell? ⟨g, 1, none⟩ = some (.int .i64 a) := Bk.cell h 1
  have c2 : w.cell? ⟨g, 2, none⟩ = some (.int .i64 0) := Bk.cell h 2
  have f2 : w.frozen? ⟨g, 2, none⟩ = false := Bk.free h 2
  have hfin : RR (w.drew.setCell ⟨g, 2, none⟩ (.int .i64 1)) g A n c a 1 ∧ Ch (fun i => i = g) w (w.drew.setCell ⟨g, 2, none⟩ (.int .i64 1)) := by
    have h2 := Bk.set (Bk.drew h) 2 (.int .i64 1)
    simp only [List.setIfInBounds_toArray, List.set_cons_zero, List.set_cons_succ] at h2
    exact ⟨h2, (Ch.refl (fun i => i = g) w).drew.set (p := ⟨g, 2, none⟩) (.inl rfl) _⟩
  have Hg := Lib.hid hg
  have Hfin := Lib.hid hfin
  clear hg hfin h
  go_enter Try.func24, Try.ntmps24
  go_wp2_with fail
  go_region_held3 (fun w' => w'.cell? ⟨g, 0, none⟩ = some (.slice A n c) ∧ w'.cell? ⟨g, 1, none⟩ = some (.int .i64 a)) (first | (exact ⟨c0, c1⟩) | (exact ⟨c0, c1⟩))
    (first
      | ((go_at_call 39; (with_reducible refine Hg.out.mono ?_); rintro e w1 ⟨rfl, rfl⟩)))
  clear Hg
  go_wp2
  go_ret
  exact ⟨rfl, Hfin.out.1, Hfin.out.2⟩
set_option maxHeartbeats 1000000 in
theorem rsign_neg (g : Nat) (A : Option Addr) (n c : Nat) (a : Int) (x y : UInt8) (w : World) (h : RR w g A n c a 0) (ha : a < 0) :
    Calls Try.prog 15 #[.pointer (some ⟨g, 0, none⟩), sgV x y] w fun e' w' => e' = .returned (.tuple #[]) ∧ RR w' g A n c a 1 ∧ Ch (fun i => i = g) w w' := by
  unfold sgV
  have hlt := RR.lt h
  have h1 : RR (w.alloc (.cells #[.int .u8 80, .int .u8 75, .int .u8 (x.toNat : Int), .int .u8 (y.toNat : Int)] 51)) g A n c a 0 := Bk.alloc h _
  have hc := rcut_neg g A n c a 4 _ h1 ha
  have h0 : Ch (fun i => i = g) w (w.alloc (.cells #[.int .u8 80, .int .u8 75, .int .u8 (x.toNat : Int), .int .u8 (y.toNat : Int)] 51)) := (Ch.refl _ w).alloc _
  have Hc := Lib.hid hc
  have H0 := Lib.hid h0
  clear hc h0 h1 h
  go_enter Try.func15, Try.ntmps15
  go_wp2_with fail
  refine Hc.out.mono ?_
  rintro e w1 ⟨rfl, hr1, hc1⟩
  have c2 : w1.cell? ⟨g, 2, none⟩ = some (.int .i64 1) := Bk.cell hr1 2
  have hfin := H0.out.trans hc1 (fun i h => .inl h)
  have Hfin := Lib.hid (And.intro hr1 hfin)
  clear Hc H0 hr1 hfin hc1
  go_wp2_with fail
  go_quiet (fail)
  go_wp2
  go_end0
  exact ⟨rfl, Bk.drewN Hfin.out.1 _, Hfin.out.2.drewN _⟩
/-- A head's sign, at any place. -/
theorem sign_q (g : Nat) (A : Option Addr) (n c : Nat) (a : Int) (x y : UInt8) (L : List UInt8) (w : World) (h : RR w g A n c a 0) (hr : Rd w w.heap.size 1 A n (bys L)) (hnc : n ≤ c) (hn : n ≤ 1000000000) :
    Calls Try.prog 15 #[.pointer (some ⟨g, 0, none⟩), sgV x y] w fun e' w' => e' = .returned (.tuple #[]) ∧ RQ (frG L a x y) w' g A n c (a.toNat + 4) (frG L a x y) ∧ Ch (fun i => i = g) w w' := by
  have hll := hr.blen
  by_cases ha : a < 0
  · refine (rsign_neg g A n c a x y w h ha).mono ?_
    rintro e' w' ⟨he, h1, h2⟩
    have hf : frG L a x y = 1 := by unfold frG; rw [if_pos ha]
    rw [hf]
    exact ⟨he, ⟨_, h1, .inr (.inr ⟨by omega, rfl⟩)⟩, h2⟩
  · obtain ⟨k, rfl⟩ : ∃ k : Nat, a = k := ⟨a.toNat, by omega⟩
    rw [Int.toNat_natCast]
    by_cases hk : k + 4 ≤ n
    · refine (rsign_in g A n c k x y L w h hr hnc hn hk).mono ?_
      rintro e w' ⟨he, h1, h2⟩
      have hf : frG L (k : Int) x y = sgnE (sgnB L k x y) := by
        unfold frG sgnE
        rw [if_neg ha, Int.toNat_natCast, if_neg (by omega)]
        cases sgnB L k x y <;> simp
      rw [hf]
      refine ⟨he, ⟨_, h1, ?_⟩, h2⟩
      by_cases h0 : sgnE (sgnB L k x y) = 0
      · exact .inl ⟨h0, h0, rfl, hk⟩
      · exact .inr (.inr ⟨h0, rfl⟩)
    · refine (rsign_end g A n c k x y w h hn (by omega)).mono ?_
      rintro e w' ⟨he, h1, h2⟩
      have hf : frG L (k : Int) x y = 3 := by unfold frG; rw [if_neg ha, Int.toNat_natCast, if_pos (by omega)]
      rw [hf]
      exact ⟨he, ⟨_, h1, .inr (.inr ⟨by omega, rfl⟩)⟩, h2⟩
end Go.Proofs.Ytbdehlphblbmoaa
