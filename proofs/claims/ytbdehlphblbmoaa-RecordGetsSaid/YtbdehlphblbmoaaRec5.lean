/- Contracts of package record: the signs, the wide tail. -/
import Derived.Test.YtbdehlphblbmoaaRec4
namespace Go.Proofs.Ytbdehlphblbmoaa
open Go.RowKit
attribute [local go_sem ↓] Go.wp_at_zero Go.wp_at_succ

theorem tail_any (w : World) : Calls Try.prog 16 #[] w fun e w' => e = .returned (sgV 5 6) ∧ Below w.heap.size w w' := by
  go_enter Try.func16, Try.ntmps16
  go_wp2
  exact bodyPost_ret (v := .agg #[.int .u8 80, .int .u8 75, .int .u8 5, .int .u8 6]) (by simp [results, Try.results16, go_sem]) rfl ⟨rfl, (Below.refl _ _).alloc (Nat.le_refl _) _⟩
theorem wide_sgn (w : World) : Calls Try.prog 33 #[] w fun e w' => e = .returned (sgV 6 6) ∧ Below w.heap.size w w' := by
  go_enter Try.func33, Try.ntmps33
  go_wp2
  exact bodyPost_ret (v := .agg #[.int .u8 80, .int .u8 75, .int .u8 6, .int .u8 6]) (by simp [results, Try.results33, go_sem]) rfl ⟨rfl, (Below.refl _ _).alloc (Nat.le_refl _) _⟩
theorem locator_any (w : World) : Calls Try.prog 35 #[] w fun e w' => e = .returned (sgV 6 7) ∧ Below w.heap.size w w' := by
  go_enter Try.func35, Try.ntmps35
  go_wp2
  exact bodyPost_ret (v := .agg #[.int .u8 80, .int .u8 75, .int .u8 6, .int .u8 7]) (by simp [results, Try.results35, go_sem]) rfl ⟨rfl, (Below.refl _ _).alloc (Nat.le_refl _) _⟩
/-- A reader that has failed: the long number is 0. -/
theorem long_err (g : Nat) (A : Option Addr) (n c : Nat) (p e : Int) (w : World) (h : RR w g A n c p e) (he : e ≠ 0) :
    Calls Try.prog 37 #[.pointer (some ⟨g, 0, none⟩)] w fun e' w' => e' = .returned (.int .i64 0) ∧ w = w' := by
  have hn := num_err g A n c p e 4 w h he
  have Hn := Lib.hid hn
  clear hn h
  go_enter Try.func37, Try.ntmps37
  go_wp2_with fail
  refine Hn.out.mono ?_
  rintro e1 w1 ⟨rfl, rfl⟩
  go_wp2_with fail
  refine Hn.out.mono ?_
  rintro e1 w1 ⟨rfl, rfl⟩
  go_wp2
  go_ret
  exact ⟨rfl, rfl⟩
/-- What the wide tail's reader says. -/
def WPost : Option (Int × Int × Int) → Ending → Prop
  | none, e => ∃ x y z b, e = .returned (.tuple #[.agg #[.int .i64 x, .int .i64 y, .int .i64 z, .bool b], .bool false])
  | some t, e => e = .returned (.tuple #[.agg #[.int .i64 t.1, .int .i64 t.2.1, .int .i64 t.2.2, .bool true], .bool true])
theorem wideF_q (L : List UInt8) (q : Nat) : wideF L (q + 20) =
    if sgnB L q 6 7 = false then none
    else if long8 L (q + 8) < 0 ∨ (L.length : Int) < long8 L (q + 8) + 56 then none
    else if sgnB L (long8 L (q + 8)).toNat 6 6 = false then none
    else if long8 L ((long8 L (q + 8)).toNat + 32) < 0 ∨ long8 L ((long8 L (q + 8)).toNat + 40) < 0 ∨ long8 L ((long8 L (q + 8)).toNat + 48) < 0 then none
    else some (long8 L ((long8 L (q + 8)).toNat + 32), long8 L ((long8 L (q + 8)).toNat + 40), long8 L ((long8 L (q + 8)).toNat + 48)) := by
  have e1 : q + 20 - 20 = q := by omega
  have e2 : q + 20 - 12 = q + 8 := by omega
  unfold wideF
  rw [if_neg (by omega), e1, e2]
theorem below_set4 {B : Nat} {a w : World} (h : Below B a w) (u0 u1 u2 u3 : Value) : Below B a ((((w.setCell ⟨B, 0, none⟩ u0).setCell ⟨B, 1, none⟩ u1).setCell ⟨B, 2, none⟩ u2).setCell ⟨B, 3, none⟩ u3) :=
  (((h.setCell (p := ⟨B, 0, none⟩) (Nat.le_refl _) _).setCell (p := ⟨B, 1, none⟩) (Nat.le_refl _) _).setCell (p := ⟨B, 2, none⟩) (Nat.le_refl _) _).setCell (p := ⟨B, 3, none⟩) (Nat.le_refl _) _
/-- What a sign leaves. -/
def SgnR (w w' : World) (g : Nat) (A : Option Addr) (n c k : Nat) (L : List UInt8) (x y : UInt8) : Prop :=
  ∃ p e, RR w' g A n c p e ∧ Ch (fun i => i = g) w w' ∧ (k + 4 ≤ n ∧ sgnB L k x y = true ∧ p = ((k + 4 : Nat) : Int) ∧ e = 0 ∨ (n < k + 4 ∨ sgnB L k x y = false) ∧ e ≠ 0)
theorem rsign_any (g : Nat) (A : Option Addr) (n c k : Nat) (x y : UInt8) (L : List UInt8) (w : World) (h : RR w g A n c k 0) (hr : Rd w w.heap.size 1 A n (bys L)) (hnc : n ≤ c) (hn : n ≤ 1000000000) :
    Calls Try.prog 15 #[.pointer (some ⟨g, 0, none⟩), sgV x y] w fun e' w' => e' = .returned (.tuple #[]) ∧ SgnR w w' g A n c k L x y := by
  by_cases hk : k + 4 ≤ n
  · refine (rsign_in g A n c k x y L w h hr hnc hn hk).mono ?_
    rintro e w' ⟨he, h1, h2⟩
    refine ⟨he, _, _, h1, h2, ?_⟩
    rcases Bool.eq_false_or_eq_true (sgnB L k x y) with hs | hs
    · exact .inl ⟨hk, hs, rfl, by rw [hs]; rfl⟩
    · exact .inr ⟨.inr hs, by rw [hs]; decide⟩
  · refine (rsign_end g A n c k x y w h hn (by omega)).mono ?_
    rintro e w' ⟨he, h1, h2⟩
    exact ⟨he, _, _, h1, h2, .inr ⟨.inl (by omega), by decide⟩⟩
/-- What stands while the wide tail is read: the result's cells, a reader. -/
structure Wd (w w1 : World) (A : Option Addr) (n c g : Nat) (p e : Int) : Prop where
  bl : Below w.heap.size w w1
  rs : Bk w1 w.heap.size 25 #[.int .i64 0, .int .i64 0, .int .i64 0, .bool false]
  rd : RR w1 g A n c p e
  gt : w.heap.size < g
section
variable {w w1 w2 : World} {A : Option Addr} {n c g : Nat} {p e p' e' : Int}
theorem Wd.rb {L : List UInt8} (v : Wd w w1 A n c g p e) (h : Rd w w.heap.size 1 A n (bys L)) : Rd w1 w1.heap.size 1 A n (bys L) := (h.below v.bl (Nat.le_refl _)).more v.bl.size
theorem Wd.ch (v : Wd w w1 A n c g p e) (hc : Ch (fun i => i = g) w1 w2) (hr : RR w2 g A n c p' e') : Wd w w2 A n c g p' e' :=
  ⟨v.bl.trans (hc.below v.bl.size (fun i hi => by have : i = g := hi; have := v.gt; omega)), v.rs.ch hc (fun h => by have : w.heap.size = g := h; have := v.gt; omega), hr, v.gt⟩
theorem Wd.fre (v : Wd w w1 A n c g p e) : w1.frozen? ⟨w.heap.size, 0, none⟩ = false ∧ w1.frozen? ⟨w.heap.size, 1, none⟩ = false ∧ w1.frozen? ⟨w.heap.size, 2, none⟩ = false ∧ w1.frozen? ⟨w.heap.size, 3, none⟩ = false :=
  ⟨v.rs.free 0, v.rs.free 1, v.rs.free 2, v.rs.free 3⟩
theorem Wd.res (v : Wd w w1 A n c g p e) : w1.cell? ⟨w.heap.size, 0, none⟩ = some (.int .i64 0) ∧ w1.cell? ⟨w.heap.size, 1, none⟩ = some (.int .i64 0) ∧ w1.cell? ⟨w.heap.size, 2, none⟩ = some (.int .i64 0) ∧ w1.cell? ⟨w.heap.size, 3, none⟩ = some (.bool false) :=
  ⟨v.rs.cell 0, v.rs.cell 1, v.rs.cell 2, v.rs.cell 3⟩
end
set_option maxHeartbeats 1000000 in
theorem widest_any (A : Option Addr) (n c k : Nat) (L : List UInt8) (w : World) (hr : Rd w w.heap.size 1 A n (bys L)) (hnc : n ≤ c) (hn : n ≤ 1000000000) (hk : k ≤ n) :
    Calls Try.prog 18 #[.slice A n c, .int .i64 k] w fun e w' => WPost (wideF L k) e ∧ Below w.heap.size w w' := by
  have hll := hr.blen
  by_cases hk20 : k < 20
  · have Hw := Lib.hid (show wideF L k = none by unfold wideF; rw [if_pos hk20])
    clear hll
    go_enter Try.func18, Try.ntmps18
    go_wp2
    exact bodyPost_ret (v := .tuple #[.agg #[.int .i64 0, .int .i64 0, .int .i64 0, .bool false], .bool false]) (by simp [results, Try.results18, go_sem]) rfl ⟨by rw [Hw.out]; exact ⟨_, _, _, _, rfl⟩, (Below.refl _ _).alloc (Nat.le_refl _) _⟩
  · obtain ⟨q, rfl⟩ : ∃ q, k = q + 20 := ⟨k - 20, by omega⟩
    clear hk20
    have Hw0 := Lib.hid (wideF_q L q)
    have Hr := Lib.hid hr
    have Hll := Lib.hid hll
    clear hr hll
    go_enter Try.func18, Try.ntmps18
    go_wp2_with fail
    refine (locator_any _).mono ?_
    rintro e w1 ⟨rfl, hb1⟩
    have v0 : Wd w w1 A n c (w.heap.size + 1) q 0 := ⟨(((Below.refl _ _).alloc (Nat.le_refl _) _).alloc (by simp) _).trans (hb1.mono (by simp; omega)),
      Bk.below (Bk.alloc (Bk.new _ _ _) _) hb1 (by simp <;> omega), Bk.below (Bk.new' _ _ _ (by simp)) hb1 (by simp), by omega⟩
    have hs := rsign_in (w.heap.size + 1) A n c q 6 7 L w1 v0.rd (v0.rb Hr.out) hnc hn (by omega)
    clear hb1
    go_wp2_with fail
    refine hs.mono ?_
    rintro e w2 ⟨rfl, hr2, hc2⟩
    have v1 := v0.ch hc2 hr2
    clear hs hr2 hc2 v0
    rcases Bool.eq_false_or_eq_true (sgnB L q 6 7) with hsg | hsg
    · rw [hsg] at v1
      have v1 : Wd w w2 A n c (w.heap.size + 1) ((q + 4 : Nat) : Int) 0 := v1
      have hn1 := num_ok (w.heap.size + 1) A n c (q + 4) 4 L w2 v1.rd (v1.rb Hr.out) hnc hn (by omega) (by omega)
      have Hsg := Lib.hid hsg
      have V1 := Lib.hid v1
      clear hsg v1
      go_wp2_with fail
      refine hn1.mono ?_
      rintro e w3 ⟨rfl, hr3, hc3⟩
      have v2 := V1.out.ch hc3 hr3
      clear hn1 V1 hr3 hc3
      have hl1 := long_ok (w.heap.size + 1) A n c (q + 4 + 4) w.heap.size L w3 v2.rd (Hr.out.below v2.bl (Nat.le_refl _)) (by omega) hnc hn (by omega)
      have V2 := Lib.hid v2
      clear v2
      go_wp2_with fail
      refine hl1.mono ?_
      rintro e w4 ⟨rfl, hr4, hc4⟩
      have v3 := V2.out.ch hc4 hr4
      clear hl1 V2 hr4 hc4
      obtain ⟨r0, r1, r2, r3⟩ := v3.res
      obtain ⟨f0, f1, f2, f3⟩ := v3.fre
      have c2 : w4.cell? ⟨w.heap.size + 1, 2, none⟩ = some (.int .i64 0) := Bk.cell v3.rd 2
      have V3 := Lib.hid v3
      have hlb := long8_bd L (q + 4 + 4)
      rw [show q + 4 + 4 = q + 8 by omega] at hlb ⊢
      clear v3
      by_cases hneg : long8 L (q + 8) < 0
      · have Hw := Lib.hid (show wideF L (q + 20) = none by rw [Hw0.out, Hsg.out, if_neg (by simp), if_pos (.inl hneg)])
        clear Hw0
        generalize long8 L (q + 8) = v at *
        go_wp2
        exact bodyPost_ret (v := .tuple #[.agg #[.int .i64 0, .int .i64 0, .int .i64 0, .bool false], .bool false]) (by simp [results, Try.results18, go_sem, r0, r1, r2, r3]) rfl ⟨by rw [Hw.out]; exact ⟨_, _, _, _, rfl⟩, below_set4 V3.out.bl _ _ _ _⟩
      · obtain ⟨m, hm⟩ : ∃ m : Nat, long8 L (q + 8) = m := ⟨(long8 L (q + 8)).toNat, by omega⟩
        rw [hm] at Hw0 hneg hlb ⊢
        rw [Int.toNat_natCast] at Hw0
        have Hm := Lib.hid hm
        clear hm hneg
        have hz4 := V3.out.bl.size
        go_wp2_with fail
        refine (wide_sgn _).mono ?_
        rintro e w5 ⟨rfl, hb5⟩
        have v5 : Wd w w5 A n c w4.heap.size m 0 := ⟨(V3.out.bl.alloc hz4 _).trans (hb5.mono (by simp <;> omega)),
          Bk.below (Bk.alloc V3.out.rs _) hb5 (by have := V3.out.rs.lt; simp <;> omega), Bk.below (Bk.new' _ _ _ (by simp)) hb5 (by simp), V3.out.rs.lt⟩
        have hs := rsign_any w4.heap.size A n c m 6 6 L w5 v5.rd (v5.rb Hr.out) hnc hn
        have V5 := Lib.hid v5
        clear v5 hb5 r0 r1 r2 r3 f0 f1 f2 f3 c2 hz4 V3 v1
        generalize w4.heap.size = g at *
        go_wp2_with fail
        refine hs.mono ?_
        rintro e w6 ⟨rfl, p6, e6, hr6, hc6, hor⟩
        have v6 := V5.out.ch hc6 hr6
        clear hs hr6 hc6 V5
        rcases hor with ⟨hk4, hsg, rfl, rfl⟩ | ⟨hno, he6⟩
        · by_cases hk5 : m + 4 + 52 ≤ n
          · have hcu := rcut_ok g A n c (m + 4) 52 L w6 v6.rd (v6.rb Hr.out) hnc hn hk5
            have Hsg2 := Lib.hid hsg
            have V6 := Lib.hid v6
            clear hsg v6
            go_wp2_with fail
            refine hcu.mono ?_
            rintro e w7 ⟨v7, rfl, hown7, hr7, hc7⟩
            obtain ⟨g7, c7, rfl, _, _, _⟩ := own_pos hown7 (by omega)
            have v7 := V6.out.ch hc7 hr7
            have c2 : w7.cell? ⟨g, 2, none⟩ = some (.int .i64 0) := Bk.cell v7.rd 2
            have c1 : w7.cell? ⟨g, 1, none⟩ = some (.int .i64 ((m + 4 + 52 : Nat) : Int)) := Bk.cell v7.rd 1
            have q1 : w7.frozen? ⟨g, 1, none⟩ = false := Bk.free v7.rd 1
            have v8 : Wd w (w7.setCell ⟨g, 1, none⟩ (.int .i64 ((m : Int) + 32))) A n c g ((m + 32 : Nat) : Int) 0 := by
              have h2 := Bk.set v7.rd 1 (.int .i64 ((m + 32 : Nat) : Int))
              simp only [List.setIfInBounds_toArray, List.set_cons_zero, List.set_cons_succ] at h2
              exact v7.ch ((Ch.refl (fun i => i = g) w7).set (p := ⟨g, 1, none⟩) (.inl rfl) _) h2
            have V8 := Lib.hid v8
            clear hcu V6 hr7 hc7 v7 hown7 v8
            go_wp2_with fail
            generalize w7.setCell ⟨g, 1, none⟩ (.int .i64 ((m : Int) + 32)) = w8 at *
            have hl1 := long_ok g A n c (m + 32) w.heap.size L w8 V8.out.rd (Hr.out.below V8.out.bl (Nat.le_refl _)) (by have := V8.out.gt; omega) hnc hn (by omega)
            refine hl1.mono ?_
            rintro e w9 ⟨rfl, hr9, hc9⟩
            have v9 := V8.out.ch hc9 hr9
            clear hl1 V8 hr9 hc9 c1 c2 q1
            have hl1 := long_ok g A n c (m + 32 + 8) w.heap.size L w9 v9.rd (Hr.out.below v9.bl (Nat.le_refl _)) (by have := v9.gt; omega) hnc hn (by omega)
            have V9 := Lib.hid v9
            clear v9
            go_wp2_with fail
            refine hl1.mono ?_
            rintro e w10 ⟨rfl, hr9, hc9⟩
            have v9 := V9.out.ch hc9 hr9
            clear hl1 V9 hr9 hc9
            have hl1 := long_ok g A n c (m + 32 + 8 + 8) w.heap.size L w10 v9.rd (Hr.out.below v9.bl (Nat.le_refl _)) (by have := v9.gt; omega) hnc hn (by omega)
            have V9 := Lib.hid v9
            clear v9
            go_wp2_with fail
            refine hl1.mono ?_
            rintro e w11 ⟨rfl, hr9, hc9⟩
            have v9 := V9.out.ch hc9 hr9
            obtain ⟨r0, r1, r2, r3⟩ := v9.res
            obtain ⟨f0, f1, f2, f3⟩ := v9.fre
            have hlt := v9.rs.lt
            have V11 := Lib.hid v9
            clear hl1 V9 hr9 hc9 v9
            have Hf := Lib.hid (show wideF L (q + 20) = if long8 L (m + 32) < 0 ∨ long8 L (m + 32 + 8) < 0 ∨ long8 L (m + 32 + 8 + 8) < 0 then none else some (long8 L (m + 32), long8 L (m + 32 + 8), long8 L (m + 32 + 8 + 8)) by
              rw [Hw0.out, Hsg.out, if_neg (by simp), if_neg (by rw [Hll.out]; omega), Hsg2.out, if_neg (by simp)])
            have bx := long8_bd L (m + 32)
            have by_ := long8_bd L (m + 32 + 8)
            have bz := long8_bd L (m + 32 + 8 + 8)
            clear Hw0
            generalize long8 L (m + 32) = x at *
            generalize long8 L (m + 32 + 8) = y at *
            generalize long8 L (m + 32 + 8 + 8) = z at *
            go_wp2_with fail
            have hq := ((((V11.out.rs.set 0 (.int .i64 x)).set 1 (.int .i64 y)).set 2 (.int .i64 z)).set 3 (.bool true))
            simp only [List.setIfInBounds_toArray, List.set_cons_zero, List.set_cons_succ] at hq
            have Hq := Lib.hid hq
            clear hq Hr Hll Hsg2 Hm
            by_cases hx : x < 0
            · rw [if_pos (.inl hx)] at Hf
              have hdx : decide ((0 : Int) ≤ x) = false := by simp; omega
              go_region
              all_goals
                go_wp2
                have q0 := Hq.out.cell 0
                have q1 := Hq.out.cell 1
                have q2 := Hq.out.cell 2
                have q3 := Hq.out.cell 3
                exact bodyPost_ret (v := .tuple #[.agg #[.int .i64 x, .int .i64 y, .int .i64 z, .bool true], .bool false]) (by simp [results, Try.results18, go_sem, q0, q1, q2, q3, hlt]) rfl ⟨by rw [Hf.out]; exact ⟨_, _, _, _, rfl⟩, ((below_set4 V11.out.bl _ _ _ _).alloc (by simp <;> omega) _).drew⟩
            · have hdx : decide ((0 : Int) ≤ x) = true := by simp; omega
              by_cases hy : y < 0
              · rw [if_pos (.inr (.inl hy))] at Hf
                have hdy : decide ((0 : Int) ≤ y) = false := by simp; omega
                go_region
                all_goals
                  go_wp2
                  have q0 := Hq.out.cell 0
                  have q1 := Hq.out.cell 1
                  have q2 := Hq.out.cell 2
                  have q3 := Hq.out.cell 3
                  exact bodyPost_ret (v := .tuple #[.agg #[.int .i64 x, .int .i64 y, .int .i64 z, .bool true], .bool false]) (by simp [results, Try.results18, go_sem, q0, q1, q2, q3, hlt]) rfl ⟨by rw [Hf.out]; exact ⟨_, _, _, _, rfl⟩, ((below_set4 V11.out.bl _ _ _ _).alloc (by simp <;> omega) _).drew⟩
              · have hdy : decide ((0 : Int) ≤ y) = true := by simp; omega
                by_cases hz : z < 0
                · rw [if_pos (.inr (.inr hz))] at Hf
                  have hdz : decide ((0 : Int) ≤ z) = false := by simp; omega
                  go_region
                  all_goals
                    go_wp2
                    have q0 := Hq.out.cell 0
                    have q1 := Hq.out.cell 1
                    have q2 := Hq.out.cell 2
                    have q3 := Hq.out.cell 3
                    exact bodyPost_ret (v := .tuple #[.agg #[.int .i64 x, .int .i64 y, .int .i64 z, .bool true], .bool false]) (by simp [results, Try.results18, go_sem, q0, q1, q2, q3, hlt]) rfl ⟨by rw [Hf.out]; exact ⟨_, _, _, _, rfl⟩, ((below_set4 V11.out.bl _ _ _ _).alloc (by simp <;> omega) _).drew⟩
                · rw [if_neg (by omega)] at Hf
                  have hdz : decide ((0 : Int) ≤ z) = true := by simp; omega
                  go_region
                  all_goals
                    go_wp2
                    have q0 := Hq.out.cell 0
                    have q1 := Hq.out.cell 1
                    have q2 := Hq.out.cell 2
                    have q3 := Hq.out.cell 3
                    exact bodyPost_ret (v := .tuple #[.agg #[.int .i64 x, .int .i64 y, .int .i64 z, .bool true], .bool true]) (by simp [results, Try.results18, go_sem, q0, q1, q2, q3, hlt]) rfl ⟨by rw [Hf.out]; exact rfl, ((below_set4 V11.out.bl _ _ _ _).alloc (by simp <;> omega) _).drew⟩
          · have hcu := rcut_end g A n c (m + 4) 52 w6 v6.rd hn (by omega)
            have Hw := Lib.hid (show wideF L (q + 20) = none by
              rw [Hw0.out, Hsg.out, if_neg (by simp), if_pos (.inr (by rw [Hll.out]; omega))])
            have V6 := Lib.hid v6
            clear hsg v6 Hw0
            go_wp2_with fail
            refine hcu.mono ?_
            rintro e w7 ⟨rfl, hr7, hc7⟩
            have v7 := V6.out.ch hc7 hr7
            obtain ⟨r0, r1, r2, r3⟩ := v7.res
            obtain ⟨f0, f1, f2, f3⟩ := v7.fre
            have c2 : w7.cell? ⟨g, 2, none⟩ = some (.int .i64 3) := Bk.cell v7.rd 2
            have V7 := Lib.hid v7
            clear hcu V6 hr7 hc7 v7
            go_wp2
            exact bodyPost_ret (v := .tuple #[.agg #[.int .i64 0, .int .i64 0, .int .i64 0, .bool false], .bool false]) (by simp [results, Try.results18, go_sem, r0, r1, r2, r3]) rfl ⟨by rw [Hw.out]; exact ⟨_, _, _, _, rfl⟩, below_set4 V7.out.bl _ _ _ _⟩
        · have Hw := Lib.hid (show wideF L (q + 20) = none by
            rw [Hw0.out, Hsg.out, if_neg (by simp)]
            rcases hno with hno | hno
            · rw [if_pos (.inr (by rw [Hll.out]; omega))]
            · rw [hno]; simp)
          have hcu := rcut_err g A n c p6 e6 52 w6 v6.rd he6
          obtain ⟨r0, r1, r2, r3⟩ := v6.res
          obtain ⟨f0, f1, f2, f3⟩ := v6.fre
          have c2 : w6.cell? ⟨g, 2, none⟩ = some (.int .i64 e6) := Bk.cell v6.rd 2
          have hb6 : (e6 != 0) = true := by rw [bne_iff_ne]; exact he6
          have V6 := Lib.hid v6
          clear v6 hno Hw0 he6
          go_wp2_with fail
          refine hcu.mono ?_
          rintro e w7 ⟨rfl, rfl⟩
          clear hcu
          go_wp2
          exact bodyPost_ret (v := .tuple #[.agg #[.int .i64 0, .int .i64 0, .int .i64 0, .bool false], .bool false]) (by simp [results, Try.results18, go_sem, r0, r1, r2, r3]) rfl ⟨by rw [Hw.out]; exact ⟨_, _, _, _, rfl⟩, below_set4 V6.out.bl _ _ _ _⟩
    · rw [hsg] at v1
      have v1 : Wd w w2 A n c (w.heap.size + 1) ((q + 4 : Nat) : Int) 4 := v1
      have Hw := Lib.hid (show wideF L (q + 20) = none by rw [Hw0.out, if_pos hsg])
      have hn1 := num_err (w.heap.size + 1) A n c _ 4 4 w2 v1.rd (by omega)
      have hl1 := long_err (w.heap.size + 1) A n c _ 4 w2 v1.rd (by omega)
      have c2 : w2.cell? ⟨w.heap.size + 1, 2, none⟩ = some (.int .i64 4) := Bk.cell v1.rd 2
      have hst := v1.res
      clear hsg Hw0
      go_wp2_with fail
      refine hn1.mono ?_
      rintro e w3 ⟨rfl, rfl⟩
      go_wp2_with fail
      refine hl1.mono ?_
      rintro e w3 ⟨rfl, rfl⟩
      clear hn1 hl1
      have V1 := Lib.hid v1
      obtain ⟨r0, r1, r2, r3⟩ := hst
      obtain ⟨f0, f1, f2, f3⟩ := v1.fre
      clear v1
      go_wp2
      exact bodyPost_ret (v := .tuple #[.agg #[.int .i64 0, .int .i64 0, .int .i64 0, .bool false], .bool false]) (by simp [results, Try.results18, go_sem, r0, r1, r2, r3]) rfl ⟨by rw [Hw.out]; exact ⟨_, _, _, _, rfl⟩, below_set4 V1.out.bl _ _ _ _⟩
end Go.Proofs.Ytbdehlphblbmoaa
