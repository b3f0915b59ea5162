/- Contracts of package bits: the reader. -/
import Derived.Test.YtnedboomhbdecaaBit2
import Derived.Test.YtnedboomhbdecaaBitQ
import Derived.Test.YtnedboomhbdecaaBitN
namespace Go.Proofs.Ytnedboomhbdecaa
open Go.RowKit

/-- A reader at block g over these bytes, of which so many bits were taken; all its blocks are in S. -/
def RdS (w : World) (S : Nat → Prop) (g : Nat) (l : List UInt8) (a : Nat) : Prop :=
  ∃ v, Bk w g 90 #[v, .int .i64 (a : Int)] ∧ w.ownsRow 0 5 1 v l.length (bys l) ∧ S g ∧ (∀ k, v.ownBlock = some k → S k ∧ k ≠ g) ∧ (∀ k, S k → k < w.heap.size) ∧ a ≤ 8 * l.length ∧ l.length ≤ 100000000
theorem RdS.ch {w w' : World} {S S' : Nat → Prop} {g : Nat} {l : List UInt8} {a : Nat} (h : RdS w S g l a) (k : Ch S' w w') (hd : ∀ i, S i → ¬ S' i) : RdS w' S g l a := by
  obtain ⟨v, h1, h2, h3, h4, h5, h6⟩ := h
  exact ⟨v, h1.ch k (hd g h3), own_ch h2 k (fun i hi => hd i (h4 i hi).1), h3, h4, fun i hi => Nat.lt_of_lt_of_le (h5 i hi) k.size, h6⟩

section
variable (g : Nat) (S : Nat → Prop) (l : List UInt8) (a : Nat) (w : World)
theorem rleft_any (h : RdS w S g l a) : Calls Try.prog 34 #[.pointer (some ⟨g, 0, none⟩)] w fun e w' => e = .returned (.int .i64 (8 * (l.length : Int) - a)) ∧ ∃ q, w' = w.drewN q := by
  obtain ⟨v, hb, hown, _, _, _, ha, hl⟩ := h
  obtain ⟨A, c, rfl, _, _⟩ := own_form hown
  have c0 := hb.cell 0
  have c1 := hb.cell 1
  simp at c0 c1
  generalize l.length = n at *
  have q1 : IntKind.i64.wrap (8 * (n : Int)) = 8 * (n : Int) := IntWalk.i64_in _ (by omega)
  have q2 : IntKind.i64.wrap (8 * (n : Int) - (a : Int)) = 8 * (n : Int) - (a : Int) := IntWalk.i64_in _ (by omega)
  go_enter Try.func34, Try.ntmps34
  go_wp2
  go_quiet (fail)
  go_wp2
  go_ret
  exact ⟨rfl, _, rfl⟩
theorem rmark_any (h : RdS w S g l a) : Calls Try.prog 35 #[.pointer (some ⟨g, 0, none⟩)] w fun e w' => e = .returned (.int .i64 a) ∧ w = w' := by
  obtain ⟨v, hb, _⟩ := h
  have c1 := hb.cell 1
  simp at c1
  go_enter Try.func35, Try.ntmps35
  go_wp2
  go_ret
  exact ⟨rfl, rfl⟩
theorem rhas_any (x : Int) (h : RdS w S g l a) : Calls Try.prog 43 #[.pointer (some ⟨g, 0, none⟩), .int .i64 x] w fun e w' => e = .returned (.bool (decide (x ≤ 8 * (l.length : Int) - a))) ∧ ∃ q, w' = w.drewN q := by
  go_enter Try.func43, Try.ntmps43
  go_wp2_with fail
  refine (rleft_any g S l a w h).mono ?_
  rintro e w' ⟨rfl, q, rfl⟩
  go_wp2
  go_ret
  exact ⟨rfl, q, rfl⟩
/-- Back. -/
theorem rback_any (x : Int) (h : RdS w S g l a) : Calls Try.prog 36 #[.pointer (some ⟨g, 0, none⟩), .int .i64 x] w fun e w' => e = .returned (.tuple #[]) ∧ RdS w' S g l (if 0 ≤ x ∧ x ≤ a then x.toNat else a) ∧ Ch S w w' := by
  have h' := h
  obtain ⟨v, hb, hown, hS, hSv, hlt, ha, hl⟩ := h
  have c1 := hb.cell 1
  have f1 := hb.free 1
  simp at c1
  by_cases hx : 0 ≤ x ∧ x ≤ a
  · rw [if_pos hx]
    obtain ⟨h0, h1⟩ := hx
    obtain ⟨k, rfl⟩ := Int.eq_ofNat_of_zero_le h0
    have hset := hb.set 1 (.int .i64 (k : Int))
    simp only [List.setIfInBounds_toArray, List.set_cons_zero, List.set_cons_succ] at hset
    have hch := (Ch.refl S w).set (p := ⟨g, 1, none⟩) (.inl hS) (.int .i64 (k : Int))
    have how := own_ch hown ((Ch.refl (fun k => k = g) _).set (p := ⟨g, 1, none⟩) (.inl rfl) (.int .i64 (k : Int))) (fun i hi => (hSv i hi).2)
    go_enter Try.func36, Try.ntmps36
    go_wp2
    go_end0
    exact ⟨rfl, ⟨v, hset, how, hS, hSv, fun i hi => Nat.lt_of_lt_of_le (hlt i hi) hch.size, by simp; omega, hl⟩, hch⟩
  · rw [if_neg hx]
    have hx' : x < 0 ∨ 0 ≤ x ∧ (a : Int) < x := by omega
    clear hx
    rcases hx' with hx | ⟨h0, hx⟩
    all_goals
      go_enter Try.func36, Try.ntmps36
      go_wp2
      go_end0
      exact ⟨rfl, h', Ch.refl _ _⟩
end

set_option maxHeartbeats 2000000 in
/-- Peek: the next bits, where there are so many. -/
theorem peek_yes (g : Nat) (S : Nat → Prop) (l : List UInt8) (a : Nat) (x : Int) (w : World) (h : RdS w S g l a) (hx : hel x ≤ 8 * (l.length : Int) - a) :
    Calls Try.prog 39 #[.pointer (some ⟨g, 0, none⟩), .int .i64 x] w fun e w' => e = .returned (.tuple #[.int .i64 ((peekN l a (hel x).toNat : Nat) : Int), .bool true]) ∧ ∃ q, w' = w.drewN q := by
  have hh := hel_bd x
  obtain ⟨d, hd⟩ : ∃ d : Nat, hel x = d := ⟨(hel x).toNat, by omega⟩
  have e0 : (hel x).toNat = d := by omega
  have Hd := Lib.hid hd
  have hd24 : d ≤ 24 := by omega
  have hdl : a + d ≤ 8 * l.length := by omega
  rw [e0]
  clear hh hd e0 hx
  have h' := h
  obtain ⟨v, hb, hown, _, _, _, ha, hl⟩ := h
  obtain ⟨A, c, rfl, _, _⟩ := own_form hown
  have hr := Rd.of_own hown
  have c0 := hb.cell 0
  have c1 := hb.cell 1
  simp at c0 c1
  have hdI : (d : Int) ≤ 8 * (l.length : Int) - a := by omega
  go_enter Try.func39, Try.ntmps39
  go_wp2_with fail
  refine (held_any x w).mono ?_
  rintro e w' ⟨rfl, rfl⟩
  rw [Hd.out]
  go_wp2_with fail
  refine (rhas_any g S l a w (d : Int) h').mono ?_
  rintro e w' ⟨rfl, q, rfl⟩
  rw [decide_eq_true hdI]
  clear hdI
  go_wp2_with fail
  go_loopw [6, 7, 8, 9] (fun vv gg _ _ wr => ∃ t : Nat, t ≤ d ∧ gg = .int .i64 t ∧ vv = .int .i64 ((peekN l a t : Nat) : Int) ∧ ∃ q, wr = w.drewN q) (fun _ gg _ _ _ => d - (intOf gg).toNat)
  case atStart => exact ⟨0, Nat.zero_le _, rfl, by simp [peekN, natOf], q, rfl⟩
  case round =>
    obtain ⟨t, ht, rfl, rfl, q, rfl⟩ := hrel
    by_cases hlt : t < d
    · obtain ⟨k, hk⟩ : ∃ k : Nat, k = min (8 - (a + t) % 8) (d - t) := ⟨_, rfl⟩
      have hk1 : 0 < k := by omega
      have hk8 : (a + t) % 8 + k ≤ 8 := by omega
      have hkd : t + k ≤ d := by omega
      have hmin : (if (8 : Int) - ((a : Int) + (t : Int)) % 8 < (d : Int) - (t : Int) then (8 : Int) - ((a : Int) + (t : Int)) % 8 else (d : Int) - (t : Int)) = (k : Int) := by split <;> omega
      have hmin2 : (if (d : Int) - (t : Int) < (8 : Int) - ((a : Int) + (t : Int)) % 8 then (d : Int) - (t : Int) else (8 : Int) - ((a : Int) + (t : Int)) % 8) = (k : Int) := by split <;> omega
      obtain ⟨b, o, u, rfl, _, hu, hu8, hcu⟩ := hr.byte (k := (a + t) / 8) (by omega)
      have hst := peekN_step l a t k u hu hk8
      have hPl := peekN_lt l a t
      have Hst := Lib.hid hst
      have Hk := Lib.hid hk
      clear hst hk hu
      generalize peekN l a t = P at *
      have hX : u.toNat / 2 ^ ((a + t) % 8) < 256 := Nat.lt_of_le_of_lt (Nat.div_le_self _ _) hu8
      have hk8' : k ≤ 8 := by omega
      have e1 : ((u.toNat : Int) / 2 ^ ((a + t) % 8)) = ((u.toNat / 2 ^ ((a + t) % 8) : Nat) : Int) := by simp
      have hand := and_mask k _ hX hk8'
      have hY : u.toNat / 2 ^ ((a + t) % 8) % 2 ^ k < 256 := Nat.lt_of_le_of_lt (Nat.mod_le _ _) hX
      have hor := or_up P _ t hPl (by omega) hY
      rw [← e1] at hand
      have Hand := Lib.hid hand
      have Hor := Lib.hid hor
      clear e1 hand hor
      go_wp2_with fail
      go_quiet (fail)
      have hval : bits .or .i64 (P : Int) (wrap64 (bits .and .i64 ((u.toNat : Int) / 2 ^ ((a + t) % 8)) (wrap64 (wrap64 (2 ^ k) - 1)) * 2 ^ t)) = ((peekN l a (t + k) : Nat) : Int) := by
        have hp : 2 ^ k ≤ 2 ^ 8 := Nat.pow_le_pow_right (by omega) hk8'
        have hpI : (2 : Int) ^ k ≤ 256 := by
          have : ((2 ^ k : Nat) : Int) ≤ ((2 ^ 8 : Nat) : Int) := by omega
          simpa using this
        have hp0 : (0 : Int) < 2 ^ k := Int.pow_pos (by omega)
        have ht24 : 2 ^ t ≤ 2 ^ 24 := Nat.pow_le_pow_right (by omega) (by omega)
        have hm : u.toNat / 2 ^ ((a + t) % 8) % 2 ^ k * 2 ^ t ≤ 256 * 2 ^ 24 := Nat.mul_le_mul (by omega) ht24
        have e3 : (((u.toNat / 2 ^ ((a + t) % 8) % 2 ^ k : Nat) : Int) * 2 ^ t) = ((u.toNat / 2 ^ ((a + t) % 8) % 2 ^ k * 2 ^ t : Nat) : Int) := by simp
        rw [IntWalk.wrap64_in (2 ^ k) (by omega), IntWalk.wrap64_in (2 ^ k - 1) (by omega), Hand.out, IntWalk.wrap64_in _ (by rw [e3]; omega), Hor.out, Hst.out]
        simp
      rw [hval]
      have Hval := Lib.hid hval
      clear hval
      go_wp2
      go_roundw
      case rel => exact ⟨t + k, by omega, by go_num, rfl, _, rfl⟩
      case measure => simp [intOf]; omega
    · have : t = d := by omega
      subst this
      go_wp2
      go_ret2
      exact ⟨rfl, q, rfl⟩
end Go.Proofs.Ytnedboomhbdecaa
