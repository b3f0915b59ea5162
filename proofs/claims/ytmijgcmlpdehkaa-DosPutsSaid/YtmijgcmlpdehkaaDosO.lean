/- The walk of DosOrder. -/
import Derived.Test.YtmijgcmlpdehkaaDosL
namespace Go.Proofs.Ytmijgcmlpdehkaa
open Go.RowKit

/-- The six numbers by their place. -/
def pick6 (a b c d e f : Int) (k : Nat) : Int := match k with
  | 0 => a
  | 1 => b
  | 2 => c
  | 3 => d
  | 4 => e
  | _ => f
theorem lex6 (a0 b0 c0 d0 e0 f0 a1 b1 c1 d1 e1 f1 : Int) (hr0 : Right6 a0 b0 c0 d0 e0 f0) (hr1 : Right6 a1 b1 c1 d1 e1 f1) (j : Nat) (hj : j < 5)
    (he : ∀ k, k < j → pick6 a0 b0 c0 d0 e0 f0 k = pick6 a1 b1 c1 d1 e1 f1 k) (hne : ¬ pick6 a0 b0 c0 d0 e0 f0 j = pick6 a1 b1 c1 d1 e1 f1 j) :
    (decide (dosN a0 b0 c0 d0 e0 f0 < dosN a1 b1 c1 d1 e1 f1) == decide (pick6 a0 b0 c0 d0 e0 f0 j < pick6 a1 b1 c1 d1 e1 f1 j)) = true := by
  obtain ⟨⟨_, _⟩, ⟨_, _⟩, ⟨_, _⟩, ⟨_, _⟩, ⟨_, _⟩, ⟨_, _⟩⟩ := hr0
  obtain ⟨⟨_, _⟩, ⟨_, _⟩, ⟨_, _⟩, ⟨_, _⟩, ⟨_, _⟩, ⟨_, _⟩⟩ := hr1
  have m0 := mdays_bd a0 b0
  have m1 := mdays_bd a1 b1
  rw [beq_iff_eq, decide_eq_decide]
  unfold dosN
  have : j = 0 ∨ j = 1 ∨ j = 2 ∨ j = 3 ∨ j = 4 := by omega
  rcases this with rfl | rfl | rfl | rfl | rfl
  · simp only [pick6] at hne ⊢; omega
  · have h0 := he 0 (by omega)
    simp only [pick6] at h0 hne ⊢; omega
  · have h0 := he 0 (by omega)
    have h1 := he 1 (by omega)
    simp only [pick6] at h0 h1 hne ⊢; omega
  · have h0 := he 0 (by omega)
    have h1 := he 1 (by omega)
    have h2 := he 2 (by omega)
    simp only [pick6] at h0 h1 h2 hne ⊢; omega
  · have h0 := he 0 (by omega)
    have h1 := he 1 (by omega)
    have h2 := he 2 (by omega)
    have h3 := he 3 (by omega)
    simp only [pick6] at h0 h1 h2 h3 hne ⊢; omega
theorem lex6s (a0 b0 c0 d0 e0 f0 a1 b1 c1 d1 e1 f1 : Int) (_hr0 : Right6 a0 b0 c0 d0 e0 f0) (_hr1 : Right6 a1 b1 c1 d1 e1 f1)
    (he : ∀ k, k < 5 → pick6 a0 b0 c0 d0 e0 f0 k = pick6 a1 b1 c1 d1 e1 f1 k) :
    (decide (dosN a0 b0 c0 d0 e0 f0 < dosN a1 b1 c1 d1 e1 f1) == decide (f0 / 2 < f1 / 2)) = true := by
  have h0 := he 0 (by omega)
  have h1 := he 1 (by omega)
  have h2 := he 2 (by omega)
  have h3 := he 3 (by omega)
  have h4 := he 4 (by omega)
  simp only [pick6] at h0 h1 h2 h3 h4
  rw [beq_iff_eq, decide_eq_decide]
  unfold dosN
  omega
theorem six_at (w : World) (g : Nat) (t : TypeId) (a b c d e f : Int) (h : Bk w g t #[.int .i64 a, .int .i64 b, .int .i64 c, .int .i64 d, .int .i64 e, .int .i64 f]) (k : Nat) (hk : k < 6) : w.cell? ⟨g, k, none⟩ = some (.int .i64 (pick6 a b c d e f k)) := by
  rw [h.cell]
  have : k = 0 ∨ k = 1 ∨ k = 2 ∨ k = 3 ∨ k = 4 ∨ k = 5 := by omega
  rcases this with rfl | rfl | rfl | rfl | rfl | rfl <;> rfl
theorem six6 {w : World} {g : Nat} {t : TypeId} {a b c d e f : Int} (h : Bk w g t #[.int .i64 a, .int .i64 b, .int .i64 c, .int .i64 d, .int .i64 e, .int .i64 f]) : Six w g a b c d e f :=
  ⟨h.cell 0, h.cell 1, h.cell 2, h.cell 3, h.cell 4, h.cell 5⟩
/-- Where the two arrays lie, in a later world. -/
theorem two_at (w w1 : World) (t : TypeId) (u v : Array Value) (hb : Below ((w.alloc (.cells u t)).alloc (.cells v t)).heap.size ((w.alloc (.cells u t)).alloc (.cells v t)) w1) : Bk w1 w.heap.size t u ∧ Bk w1 (w.heap.size + 1) t v ∧ Below w.heap.size w w1 := by
  have h1 := ((Bk.new w t u).alloc (.cells v t)).below hb (by rw [asz, asz]; omega)
  have h2 := (Bk.new' (w.alloc (.cells u t)) t v (g := w.heap.size + 1) (by rw [asz])).below hb (by rw [asz, asz]; omega)
  exact ⟨h1, h2, (((Below.refl _ _).alloc (Nat.le_refl _) _).alloc (by rw [asz]; omega) _).trans (hb.mono (by rw [asz, asz]; omega))⟩

def i64b (z : Int) : Prop := -9223372036854775808 ≤ z ∧ z ≤ 9223372036854775807
set_option maxHeartbeats 1000000 in
theorem dosOrder_no (a0 b0 c0 d0 e0 f0 a1 b1 c1 d1 e1 f1 : Int) (w : World) (hr : ¬ Right6 a0 b0 c0 d0 e0 f0 ∨ Right6 a0 b0 c0 d0 e0 f0 ∧ ¬ Right6 a1 b1 c1 d1 e1 f1) :
    Calls Try.prog 4 #[.agg #[.int .i64 a0, .int .i64 b0, .int .i64 c0, .int .i64 d0, .int .i64 e0, .int .i64 f0], .agg #[.int .i64 a1, .int .i64 b1, .int .i64 c1, .int .i64 d1, .int .i64 e1, .int .i64 f1]] w fun e w' => e = .returned (.bool true) ∧ Below w.heap.size w w' := by
  have H := Lib.hid hr
  clear hr
  go_enter Try.func4, Try.ntmps4
  go_wp2_with fail
  refine (doswakes_any _).mono ?_
  rintro e w1 ⟨rfl, hbw1⟩
  obtain ⟨hA, hB, hbe1⟩ := two_at w w1 _ _ _ hbw1
  clear hbw1
  obtain ⟨k0, k1, k2, k3, k4, k5⟩ := six6 hA
  go_wp2_with fail
  rcases H.out with hr | ⟨hr1, hr2⟩
  · refine (put_no _ _ _ _ _ _ _ hr).mono ?_
    rintro e w2 ⟨rfl, hb2⟩
    have hB2 := hB.below hb2 hB.lt
    have hbe2 := hbe1.trans (hb2.mono hbe1.size)
    obtain ⟨q0, q1, q2, q3, q4, q5⟩ := six6 hB2
    clear hA hB hb2
    go_wp2_with fail
    by_cases hr2 : Right6 a1 b1 c1 d1 e1 f1
    · refine (put_yes _ _ _ _ _ _ _ hr2).mono ?_
      rintro e w3 ⟨rfl, hb3⟩
      go_wp2
      go_ret
      exact ⟨rfl, hbe2.trans (hb3.mono hbe2.size)⟩
    · refine (put_no _ _ _ _ _ _ _ hr2).mono ?_
      rintro e w3 ⟨rfl, hb3⟩
      go_wp2
      go_ret
      exact ⟨rfl, hbe2.trans (hb3.mono hbe2.size)⟩
  · refine (put_yes _ _ _ _ _ _ _ hr1).mono ?_
    rintro e w2 ⟨rfl, hb2⟩
    have hB2 := hB.below hb2 hB.lt
    have hbe2 := hbe1.trans (hb2.mono hbe1.size)
    obtain ⟨q0, q1, q2, q3, q4, q5⟩ := six6 hB2
    clear hA hB hb2
    go_wp2_with fail
    refine (put_no _ _ _ _ _ _ _ hr2).mono ?_
    rintro e w3 ⟨rfl, hb3⟩
    go_wp2
    go_ret
    exact ⟨rfl, hbe2.trans (hb3.mono hbe2.size)⟩
set_option maxHeartbeats 1000000 in
theorem dosOrder_yes (a0 b0 c0 d0 e0 f0 a1 b1 c1 d1 e1 f1 : Int) (w : World) (hr0 : Right6 a0 b0 c0 d0 e0 f0) (hr1 : Right6 a1 b1 c1 d1 e1 f1) :
    Calls Try.prog 4 #[.agg #[.int .i64 a0, .int .i64 b0, .int .i64 c0, .int .i64 d0, .int .i64 e0, .int .i64 f0], .agg #[.int .i64 a1, .int .i64 b1, .int .i64 c1, .int .i64 d1, .int .i64 e1, .int .i64 f1]] w fun e w' => e = .returned (.bool true) ∧ Below w.heap.size w w' := by
  have Hr0 := Lib.hid hr0
  have Hr1 := Lib.hid hr1
  clear hr0 hr1
  go_enter Try.func4, Try.ntmps4
  go_wp2_with fail
  refine (doswakes_any _).mono ?_
  rintro e w1 ⟨rfl, hbw1⟩
  obtain ⟨hA, hB, hbe1⟩ := two_at w w1 _ _ _ hbw1
  clear hbw1
  obtain ⟨k0, k1, k2, k3, k4, k5⟩ := six6 hA
  go_wp2_with fail
  refine (put_yes _ _ _ _ _ _ _ Hr0.out).mono ?_
  rintro e w2 ⟨rfl, hb2⟩
  have hA2 := hA.below hb2 hA.lt
  have hB2 := hB.below hb2 hB.lt
  have hbe2 := hbe1.trans (hb2.mono hbe1.size)
  obtain ⟨q0, q1, q2, q3, q4, q5⟩ := six6 hB2
  clear hA hB hb2 hbe1
  go_wp2_with fail
  refine (put_yes _ _ _ _ _ _ _ Hr1.out).mono ?_
  rintro e w3 ⟨rfl, hb3⟩
  have hA3 := hA2.below hb3 hA2.lt
  have hB3 := hB2.below hb3 hB2.lt
  have hbe3 := hbe2.trans (hb3.mono hbe2.size)
  clear hA2 hB2 hb3 hbe2 q0 q1 q2 q3 q4 q5 k0 k1 k2 k3 k4 k5
  go_wp2_with fail
  have hf0 : 0 ≤ f0 := by have := Hr0.out; unfold Right6 at this; omega
  have hf1 : 0 ≤ f1 := by have := Hr1.out; unfold Right6 at this; omega
  have hf2 : f0 ≤ 59 := by have := Hr0.out; unfold Right6 at this; omega
  have hf3 : f1 ≤ 59 := by have := Hr1.out; unfold Right6 at this; omega
  go_loopw [52] (fun i wr => ∃ j : Nat, j ≤ 5 ∧ i = .int .i64 j ∧ Hid (∀ k, k < j → pick6 a0 b0 c0 d0 e0 f0 k = pick6 a1 b1 c1 d1 e1 f1 k) ∧ ∃ q, wr = w3.drewN q) (fun i _ => 6 - (intOf i).toNat)
  case atStart => exact ⟨0, Nat.zero_le _, rfl, Lib.hid (fun k hk => by omega), 0, rfl⟩
  case round =>
    obtain ⟨j, hj, rfl, hpre, q, rfl⟩ := hrel
    by_cases h5 : j = 5
    · subst h5
      have hl := lex6s a0 b0 c0 d0 e0 f0 a1 b1 c1 d1 e1 f1 Hr0.out Hr1.out hpre.out
      obtain ⟨k0, k1, k2, k3, k4, k5⟩ := six6 hA3
      obtain ⟨q0, q1, q2, q3, q4, q5⟩ := six6 hB3
      generalize dosN a0 b0 c0 d0 e0 f0 = x at *
      generalize dosN a1 b1 c1 d1 e1 f1 = y at *
      go_wp2
      go_ret
      exact ⟨ret_bool (by first | exact hl | simp), below_drewN hbe3 _⟩
    · have ha := six_at _ _ _ _ _ _ _ _ _ hA3 j (by omega)
      have hb := six_at _ _ _ _ _ _ _ _ _ hB3 j (by omega)
      have e5 : ((j : Int) == 5) = false := by rw [beq_eq_false_iff_ne]; omega
      have hj6 : (j : Int) < 6 := by omega
      by_cases hab : pick6 a0 b0 c0 d0 e0 f0 j = pick6 a1 b1 c1 d1 e1 f1 j
      · have ne : (pick6 a0 b0 c0 d0 e0 f0 j != pick6 a1 b1 c1 d1 e1 f1 j) = false := by rw [bne_eq_false_iff_eq]; exact hab
        have Hab := Lib.hid hab
        clear hab
        have Hpre : Hid (∀ k, k < j + 1 → pick6 a0 b0 c0 d0 e0 f0 k = pick6 a1 b1 c1 d1 e1 f1 k) := Lib.hid (fun k hk => by
          by_cases e : k = j
          · subst e; exact Hab.out
          · exact hpre.out k (by omega))
        clear Hab hpre
        generalize pick6 a0 b0 c0 d0 e0 f0 j = u at ha ne
        generalize pick6 a1 b1 c1 d1 e1 f1 j = v at hb ne
        go_wp2_with fail
        go_quiet (fail)
        go_wp2_with fail
        go_roundw
        case rel => exact ⟨j + 1, by omega, by go_num, Hpre, _, rfl⟩
        case measure => simp [intOf]; omega
      · have ne : (pick6 a0 b0 c0 d0 e0 f0 j != pick6 a1 b1 c1 d1 e1 f1 j) = true := by rw [bne_iff_ne]; exact hab
        have hl := lex6 a0 b0 c0 d0 e0 f0 a1 b1 c1 d1 e1 f1 Hr0.out Hr1.out j (by omega) hpre.out hab
        clear hab
        generalize pick6 a0 b0 c0 d0 e0 f0 j = u at *
        generalize pick6 a1 b1 c1 d1 e1 f1 j = v at *
        generalize dosN a0 b0 c0 d0 e0 f0 = x at *
        generalize dosN a1 b1 c1 d1 e1 f1 = y at *
        go_wp2_with fail
        go_quiet (fail)
        go_wp2_with fail
        go_quiet (fail)
        go_wp2
        go_ret
        exact ⟨ret_bool (by first | exact hl | simp), by first | exact below_drewN hbe3 _ | exact below_drewN (below_drewN hbe3 _) _ | exact below_drewN (below_drewN (below_drewN hbe3 _) _) _⟩
theorem dosOrder_walk (a0 b0 c0 d0 e0 f0 a1 b1 c1 d1 e1 f1 : Int) (w : World) (_ : i64b a0) (_ : i64b b0) (_ : i64b c0) (_ : i64b d0) (_ : i64b e0) (_ : i64b f0) (_ : i64b a1) (_ : i64b b1) (_ : i64b c1) (_ : i64b d1) (_ : i64b e1) (_ : i64b f1) :
    Calls Try.prog 4 #[.agg #[.int .i64 a0, .int .i64 b0, .int .i64 c0, .int .i64 d0, .int .i64 e0, .int .i64 f0], .agg #[.int .i64 a1, .int .i64 b1, .int .i64 c1, .int .i64 d1, .int .i64 e1, .int .i64 f1]] w fun e w' => e = .returned (.bool true) ∧ Below w.heap.size w w' := by
  by_cases h0 : Right6 a0 b0 c0 d0 e0 f0
  · by_cases h1 : Right6 a1 b1 c1 d1 e1 f1
    · exact dosOrder_yes _ _ _ _ _ _ _ _ _ _ _ _ w h0 h1
    · exact dosOrder_no _ _ _ _ _ _ _ _ _ _ _ _ w (.inr ⟨h0, h1⟩)
  · exact dosOrder_no _ _ _ _ _ _ _ _ _ _ _ _ w (.inl h0)
end Go.Proofs.Ytmijgcmlpdehkaa
