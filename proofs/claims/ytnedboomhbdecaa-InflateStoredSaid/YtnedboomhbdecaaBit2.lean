/- Contracts of package bits: the writer's methods. -/
import Derived.Test.YtnedboomhbdecaaBit1
namespace Go.Proofs.Ytnedboomhbdecaa
open Go.RowKit

/-- What is known of a writer behind a call. -/
def WrPost (w : World) (S : Nat → Prop) (g : Nat) (l : List Bool) (w' : World) : Prop := ∃ S', WrS w' S' g l ∧ Ch S w w' ∧ ∀ k, S' k → S k ∨ w.heap.size ≤ k
theorem WrPost.trans {w w1 w2 : World} {S S1 : Nat → Prop} {g : Nat} {l : List Bool} (hc : Ch S w w1) (hs : ∀ k, S1 k → S k ∨ w.heap.size ≤ k) (h : WrPost w1 S1 g l w2) : WrPost w S g l w2 := by
  obtain ⟨S2, h1, h2, h3⟩ := h
  refine ⟨S2, h1, hc.trans h2 hs, fun k hk => ?_⟩
  rcases h3 k hk with h4 | h4
  · exact hs k h4
  · have := hc.size; exact .inr (by omega)

set_option maxHeartbeats 1000000 in
theorem wbits_any (g : Nat) (S : Nat → Prop) (l : List Bool) (x v : Int) (w : World) (h : WrS w S g l) (hl : l.length ≤ 1000000000) :
    Calls Try.prog 18 #[.pointer (some ⟨g, 0, none⟩), .int .i64 x, .int .i64 v] w fun e w' => e = .returned (.tuple #[]) ∧ WrPost w S g (l ++ lowB (hel x).toNat v) w' := by
  have hb := hel_bd x
  obtain ⟨d, hd⟩ : ∃ d : Nat, hel x = d := ⟨(hel x).toNat, by omega⟩
  have e0 : (hel x).toNat = d := by omega
  have Hd := Lib.hid hd
  have hd24 : d ≤ 24 := by omega
  rw [e0]
  clear hd hb e0
  go_enter Try.func18, Try.ntmps18
  go_wp2_with fail
  refine (held_any x w).mono ?_
  rintro e w' ⟨rfl, rfl⟩
  rw [Hd.out]
  go_wp2_with fail
  go_loopw [6, 11] (fun _ i wr => ∃ k : Nat, k ≤ d ∧ i = .int .i64 k ∧ WrPost w S g (l ++ lowB k v) wr) (fun _ i _ => d - (intOf i).toNat)
  case atStart => exact ⟨0, Nat.zero_le _, rfl, S, by simpa [lowB] using h, Ch.refl _ _, fun k hk => .inl hk⟩
  case round =>
    obtain ⟨k, hk, rfl, S1, hw1, hc1, hs1⟩ := hrel
    by_cases hlt : k < d
    · have hone := one_any g S1 (l ++ lowB k v) (bitOf v k) wr hw1 (by rw [List.length_append, lowB_len]; omega)
      rw [← bitOf_int] at hone
      have ha := and1_i64 (v / 2 ^ k)
      have Hone := Lib.hid hone
      clear hone
      go_wp2_with fail
      refine Hone.out.mono ?_
      rintro e w2 ⟨rfl, S2, hw2, hc2, hs2⟩
      have hp := WrPost.trans hc1 hs1 ⟨S2, hw2, hc2, hs2⟩
      clear Hone
      go_wp2_with fail
      go_roundw
      case rel => exact ⟨k + 1, by omega, by go_num, by rw [lowB_succ, ← List.append_assoc]; exact hp⟩
      case measure => simp [intOf]; omega
    · have : k = d := by omega
      subst this
      go_wp2
      go_end0
      exact ⟨rfl, S1, hw1, hc1, hs1⟩

set_option maxHeartbeats 1000000 in
theorem wcode_any (g : Nat) (S : Nat → Prop) (l : List Bool) (x v : Int) (w : World) (h : WrS w S g l) (hl : l.length ≤ 1000000000) :
    Calls Try.prog 17 #[.pointer (some ⟨g, 0, none⟩), .int .i64 x, .int .i64 v] w fun e w' => e = .returned (.tuple #[]) ∧ WrPost w S g (l ++ (lowB (hel x).toNat v).reverse) w' := by
  have hb := hel_bd x
  obtain ⟨d, hd⟩ : ∃ d : Nat, hel x = d := ⟨(hel x).toNat, by omega⟩
  have e0 : (hel x).toNat = d := by omega
  have Hd := Lib.hid hd
  have hd24 : d ≤ 24 := by omega
  rw [e0]
  clear hd hb e0
  go_enter Try.func17, Try.ntmps17
  go_wp2_with fail
  refine (held_any x w).mono ?_
  rintro e w' ⟨rfl, rfl⟩
  rw [Hd.out]
  go_wp2_with fail
  go_loopw [6] (fun i wr => ∃ k : Nat, k ≤ d ∧ i = .int .i64 ((k : Int) - 1) ∧ WrPost w S g (l ++ ((lowB d v).drop k).reverse) wr) (fun i _ => (intOf i + 1).toNat)
  case atStart => exact ⟨d, Nat.le_refl _, rfl, S, by rw [List.drop_of_length_le (by rw [lowB_len]; omega)]; simpa using h, Ch.refl _ _, fun k hk => .inl hk⟩
  case round =>
    obtain ⟨k, hk, rfl, S1, hw1, hc1, hs1⟩ := hrel
    rcases Nat.eq_zero_or_pos k with h0 | h0
    · subst h0
      go_wp2
      go_end0
      exact ⟨rfl, S1, hw1, hc1, hs1⟩
    · obtain ⟨i, rfl⟩ : ∃ i, k = i + 1 := ⟨k - 1, by omega⟩
      have hone := one_any g S1 (l ++ ((lowB d v).drop (i + 1)).reverse) (bitOf v i) wr hw1 (by rw [List.length_append, List.length_reverse, List.length_drop, lowB_len]; omega)
      rw [← bitOf_int] at hone
      have ha := and1_i64 (v / 2 ^ i)
      have Hone := Lib.hid hone
      clear hone
      go_wp2_with fail
      refine Hone.out.mono ?_
      rintro e w2 ⟨rfl, S2, hw2, hc2, hs2⟩
      have hp := WrPost.trans hc1 hs1 ⟨S2, hw2, hc2, hs2⟩
      clear Hone
      go_wp2_with fail
      go_roundw
      case rel => exact ⟨i, by omega, by go_num, by rw [drop_rev d v i (by omega), ← List.append_assoc]; exact hp⟩
      case measure => simp [intOf]

theorem wlen_any (g : Nat) (S : Nat → Prop) (l : List Bool) (w : World) (h : WrS w S g l) :
    Calls Try.prog 21 #[.pointer (some ⟨g, 0, none⟩)] w fun e w' => e = .returned (.int .i64 (l.length : Int)) ∧ w = w' := by
  obtain ⟨v, hb, _⟩ := h
  have hc := hb.cell 1
  simp at hc
  go_enter Try.func21, Try.ntmps21
  go_wp2
  go_ret
  exact ⟨rfl, rfl⟩

theorem wbytes_any (g : Nat) (S : Nat → Prop) (l : List Bool) (w : World) (h : WrS w S g l) (hl : l.length ≤ 1000000000) :
    Calls Try.prog 20 #[.pointer (some ⟨g, 0, none⟩)] w fun e w' => ∃ A c, e = .returned (.slice A ((l.length + 7) / 8) c) ∧ (l.length + 7) / 8 ≤ c ∧
      Rd w' w'.heap.size 1 A ((l.length + 7) / 8) (bys (packB l)) ∧ Below w.heap.size w w' := by
  obtain ⟨v, hb, hown, _⟩ := h
  obtain ⟨A0, c0, rfl, _, _⟩ := own_form hown
  have hr := Rd.of_own hown
  have hc := hb.cell 0
  simp at hc
  obtain ⟨n, hn⟩ : ∃ n, (l.length + 7) / 8 = n := ⟨_, rfl⟩
  rw [hn] at hr hc ⊢
  have hn2 : n ≤ 1000000000 := by omega
  clear hn hown hb
  go_enter Try.func20, Try.ntmps20
  go_wp2_with (
    at_builtin
    refine ap_bys (own_nilB w w.heap.size _) hr (Below.refl _ _) (Nat.le_refl _) (by omega) rfl rfl rfl ?_
    intro v1 w1 hown1 hb1 _ _)
  rw [List.nil_append, Nat.zero_add] at hown1
  obtain ⟨A1, c1, rfl, hc1, _⟩ := own_form hown1
  go_ret
  exact ⟨A1, c1, rfl, hc1, Rd.of_own hown1, hb1⟩
end Go.Proofs.Ytnedboomhbdecaa
