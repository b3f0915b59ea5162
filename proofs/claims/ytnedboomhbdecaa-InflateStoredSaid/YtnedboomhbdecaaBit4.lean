/- Contracts of package bits: Reader.Bits, Add, Read. -/
import Derived.Test.YtnedboomhbdecaaBit3
import Derived.Deep.RegionWith
namespace Go.Proofs.Ytnedboomhbdecaa
open Go.RowKit

theorem peek_no (g : Nat) (S : Nat → Prop) (l : List UInt8) (a : Nat) (x : Int) (w : World) (h : RdS w S g l a) (hx : ¬ hel x ≤ 8 * (l.length : Int) - a) :
    Calls Try.prog 39 #[.pointer (some ⟨g, 0, none⟩), .int .i64 x] w fun e w' => e = .returned (.tuple #[.int .i64 0, .bool false]) ∧ ∃ q, w' = w.drewN q := by
  have Hx := Lib.hid (decide_eq_false hx)
  clear hx
  go_enter Try.func39, Try.ntmps39
  go_wp2_with fail
  refine (held_any x w).mono ?_
  rintro e w' ⟨rfl, rfl⟩
  go_wp2_with fail
  refine (rhas_any g S l a w (hel x) h).mono ?_
  rintro e w' ⟨rfl, q, rfl⟩
  rw [Hx.out]
  go_wp2
  go_ret2
  exact ⟨rfl, q, rfl⟩

theorem rbits_no (g : Nat) (S : Nat → Prop) (l : List UInt8) (a : Nat) (x : Int) (w : World) (h : RdS w S g l a) (hx : ¬ hel x ≤ 8 * (l.length : Int) - a) :
    Calls Try.prog 32 #[.pointer (some ⟨g, 0, none⟩), .int .i64 x] w fun e w' => e = .returned (.tuple #[.int .i64 0, .bool false]) ∧ ∃ q, w' = w.drewN q := by
  have HC := Lib.hid (peek_no g S l a x w h hx)
  clear hx
  go_enter Try.func32, Try.ntmps32
  go_wp2_with fail
  refine HC.out.mono ?_
  rintro e w' ⟨rfl, q, rfl⟩
  go_wp2
  go_ret2
  exact ⟨rfl, q, rfl⟩

set_option maxHeartbeats 1000000 in
theorem rbits_yes (g : Nat) (S : Nat → Prop) (l : List UInt8) (a : Nat) (x : Int) (w : World) (h : RdS w S g l a) (hx : hel x ≤ 8 * (l.length : Int) - a) :
    Calls Try.prog 32 #[.pointer (some ⟨g, 0, none⟩), .int .i64 x] w fun e w' => e = .returned (.tuple #[.int .i64 ((peekN l a (hel x).toNat : Nat) : Int), .bool true]) ∧ RdS w' S g l (a + (hel x).toNat) ∧ Ch S w w' := by
  have HC := Lib.hid (peek_yes g S l a x w h hx)
  have hh := hel_bd x
  obtain ⟨d, hd⟩ : ∃ d : Nat, hel x = d := ⟨(hel x).toNat, by omega⟩
  have e0 : (hel x).toNat = d := by omega
  have Hd := Lib.hid hd
  have E0 := Lib.hid e0
  have hdl : a + d ≤ 8 * l.length := by omega
  obtain ⟨v, hb, hown, hS, hSv, hlt, ha, hl⟩ := h
  rw [e0]
  clear hh hd e0 hx
  go_enter Try.func32, Try.ntmps32
  go_wp2_with fail
  refine HC.out.mono ?_
  rintro e w' ⟨rfl, q, rfl⟩
  rw [E0.out]
  clear HC
  generalize hP : peekN l a d = P
  have HP := Lib.hid hP
  clear hP
  have hbq : Bk (w.drewN q) g 90 #[v, .int .i64 (a : Int)] := hb
  have howq : (w.drewN q).ownsRow 0 5 1 v l.length (bys l) := hown
  have hcq : Ch S w (w.drewN q) := (Ch.refl S w).drewN q
  generalize w.drewN q = W at *
  have c1 := hbq.cell 1
  have f1 := hbq.free 1
  simp at c1
  have q1 : IntKind.i64.wrap ((a : Int) + (d : Int)) = (a : Int) + (d : Int) := IntWalk.i64_in _ (by omega)
  go_wp2_with fail
  go_region_with ((go_at_call 53; refine (held_any _ _).mono ?_; rintro e w' ⟨rfl, rfl⟩; rw [Hd.out]))
  all_goals
    have hset := hbq.drew.set 1 (.int .i64 ((a : Int) + (d : Int)))
    simp only [List.setIfInBounds_toArray, List.set_cons_zero, List.set_cons_succ] at hset
    have hch := (hcq.drew).set (p := ⟨g, 1, none⟩) (.inl hS) (.int .i64 ((a : Int) + (d : Int)))
    have how := own_ch (w := W.drew) howq ((Ch.refl (fun k => k = g) _).set (p := ⟨g, 1, none⟩) (.inl rfl) (.int .i64 ((a : Int) + (d : Int)))) (fun i hi => (hSv i hi).2)
    clear q1 c1 f1
    go_wp2
    go_ret2
    rw [← HP.out]
    exact ⟨rfl, ⟨v, hset, how, hS, hSv, fun i hi => Nat.lt_of_lt_of_le (hlt i hi) hch.size, hdl, hl⟩, hch⟩
/-- Read, of one piece of bytes that is a slice in a slice. -/
theorem radd_any (g : Nat) (S : Nat → Prop) (l : List UInt8) (a : Nat) (A : Option Addr) (n c B : Nat) (m : List UInt8) (w : World) (h : RdS w S g l a) (hr : Rd w B 1 A n (bys m)) (hl : l.length + n ≤ 100000000) :
    Calls Try.prog 42 #[.pointer (some ⟨g, 0, none⟩), .slice A n c] w fun e w' => e = .returned (.tuple #[]) ∧ ∃ S', RdS w' S' g (l ++ m) a ∧ Ch S w w' ∧ ∀ k, S' k → S k ∨ w.heap.size ≤ k := by
  obtain ⟨v, hb, hown, hS, hSv, hlt, ha, _⟩ := h
  have hml := hr.blen
  have c0 := hb.cell 0
  simp at c0
  have Hml := Lib.hid hml
  clear hml
  generalize hN : l.length = N at *
  have HN := Lib.hid hN
  clear hN
  obtain ⟨A0, cc0, rfl, hc0, _⟩ := own_form hown
  go_enter Try.func42, Try.ntmps42
  go_wp2_with (
    at_builtin
    refine ap_bys hown hr (Below.refl 0 _) (Nat.zero_le _) (by omega) rfl rfl rfl ?_
    intro v1 w1 hown1 _ hg1 hv1
    obtain ⟨A1, c1, rfl, hc1, _⟩ := own_form hown1
    have hgv : some g ≠ (Value.slice A0 N cc0).ownBlock := fun e => (hSv g e.symm).2 rfl
    have hbk1 := hb.grown hg1 hgv
    have hd0 := hbk1.cell 0
    have he0 := hbk1.free 0
    simp at hd0
    have hch1 : Ch S w w1 := (Ch.refl S w).grown hg1 (fun i hi => .inl (hSv i hi).1)
    clear c0)
  have hgl := hb.lt
  have hpp : ∀ p, (Value.slice A1 (N + n) c1).ownBlock = some p → p ≠ g ∧ (S p ∨ w.heap.size ≤ p) ∧ p < w1.heap.size := by
    intro p hp
    have hpl := (hown1.lt p hp).2
    rcases hv1 with hv1 | hv1
    · rw [hp] at hv1
      have := hSv p hv1.symm
      exact ⟨this.2, .inl this.1, hpl⟩
    · rw [hp] at hv1
      injection hv1 with hv1
      exact ⟨by omega, .inr (by omega), hpl⟩
  have hset := hbk1.set 0 (.slice A1 (N + n) c1)
  simp only [List.setIfInBounds_toArray, List.set_cons_zero] at hset
  have hch := hch1.set (p := ⟨g, 0, none⟩) (.inl hS) (.slice A1 (N + n) c1)
  have how := own_ch hown1 ((Ch.refl (fun k => k = g) _).set (p := ⟨g, 0, none⟩) (.inl rfl) (.slice A1 (N + n) c1)) (fun i hi => (hpp i hi).1)
  have hsz := hch1.size
  go_end0
  refine ⟨rfl, fun k => S k ∨ (Value.slice A1 (N + n) c1).ownBlock = some k, ⟨.slice A1 (N + n) c1, hset, ?_, .inl hS, fun k hk => ⟨.inr hk, (hpp k hk).1⟩, ?_, ?_, ?_⟩, hch, ?_⟩
  · rw [List.length_append, HN.out, Hml.out]; exact how
  · rintro k (hk | hk)
    · exact Nat.lt_of_lt_of_le (hlt k hk) hch.size
    · have := (hpp k hk).2.2; simpa using this
  · rw [List.length_append, HN.out]; omega
  · rw [List.length_append, HN.out, Hml.out]; exact hl
  · rintro k (hk | hk)
    · exact .inl hk
    · exact (hpp k hk).2.1
end Go.Proofs.Ytnedboomhbdecaa
