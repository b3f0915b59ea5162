/- Contracts of package glob: the reader of a pattern's runes. -/
import Derived.Test.YtbdehlphblbmoaaDoorGlbP
import Derived.Test.YtbdehlphblbmoaaDoorCh
import Derived.Test.YtbdehlphblbmoaaDoorRows
import Derived.Deep.RegionHeld3
import Derived.Deep.DrawnRows
import Derived.Deep.QuietTactic
import Derived.BigQuiet
import Derived.Deep.RegionLaw
import Derived.Deep.Cut
import Derived.Deep.CutBlock
import Derived.Deep.DeepCutAuto
import Derived.IntWalk
namespace Go.Proofs.YtbdehlphblbmoaaDoor
open Go.RowKit
attribute [local go_sem ↓] Go.wp_at_zero Go.wp_at_succ

/-- Runes, as cells. -/
def rns (l : List Int) : List Value := l.map fun n => Value.int .i32 n
theorem rns_len (l : List Int) : (rns l).length = l.length := by simp [rns]
/-- A pattern's reader: these runes are left. -/
def GRd (W : World) (g B : Nat) (l : List Int) : Prop := ∃ A n c, Bk W g 55 #[.slice A n c] ∧ Rd W B 1 A n (rns l) ∧ n ≤ c ∧ n ≤ 100000
theorem GRd.lt {W : World} {g B : Nat} {l : List Int} (h : GRd W g B l) : g < W.heap.size := by obtain ⟨_, _, _, h, _⟩ := h; exact h.lt
theorem GRd.len {W : World} {g B : Nat} {l : List Int} (h : GRd W g B l) : l.length ≤ 100000 := by
  obtain ⟨A, n, c, _, h, _, hn⟩ := h
  have := h.1
  rw [rns_len] at this
  omega
theorem GRd.ch {W W' : World} {S : Nat → Prop} {g B : Nat} {l : List Int} (h : GRd W g B l) (k : Ch S W W') (hB : B ≤ W.heap.size) (hg : ¬ S g) (hs : ∀ i, S i → B ≤ i) : GRd W' g B l := by
  obtain ⟨A, n, c, h1, h2, h3, h4⟩ := h
  exact ⟨A, n, c, h1.ch k hg, h2.ch k hB hs, h3, h4⟩
/-- One rune is taken. -/
theorem grd_next {W : World} {g B n c b o : Nat} {x : Int} {l : List Int} (h : Bk W g 55 #[.slice (some ⟨b, o, none⟩) n c]) (hr : Rd W B 1 (some ⟨b, o, none⟩) n (rns (x :: l))) (hnc : n ≤ c) (hn : n ≤ 100000) (hg : B ≤ g) {A7 : Option Addr} (hA : n - 1 = 0 ∨ A7 = some ⟨b, o + 1, none⟩) :
    GRd (W.setCell ⟨g, 0, none⟩ (.slice A7 (n - 1) (c - 1))) g B l ∧ Ch (fun i => i = g) W (W.setCell ⟨g, 0, none⟩ (.slice A7 (n - 1) (c - 1))) := by
  have hlen : l.length + 1 = n := by have := hr.1; rw [rns_len] at this; simp at this; omega
  have h2 := h.set 0 (.slice A7 (n - 1) (c - 1))
  simp only [List.setIfInBounds_toArray, List.set_cons_zero] at h2
  refine ⟨⟨A7, n - 1, c - 1, h2, ?_, by omega, by omega⟩, (Ch.refl (fun i => i = g) W).set (p := ⟨g, 0, none⟩) (.inl rfl) _⟩
  have h3 : Rd W B 1 A7 (n - 1) (rns l) := by
    rcases hA with h4 | h4
    · rw [h4]
      have : l = [] := List.eq_nil_of_length_eq_zero (by omega)
      subst this
      exact Rd.empty
    · have := hr.cut (k := 1) (m := n - 1) (by omega) (A' := A7) (fun _ => by rw [h4]; simp [Addr.add])
      rw [Nat.one_mul, Nat.mul_one] at this
      have e : ((rns (x :: l)).drop 1).take (n - 1) = rns l := by
        show (rns l).take (n - 1) = rns l
        rw [List.take_of_length_le (by rw [rns_len]; omega)]
      rwa [e] at this
  exact h3.setCell (p := ⟨g, 0, none⟩) hg _
set_option maxHeartbeats 1000000 in
theorem gis_any (g B : Nat) (l : List Int) (x : Int) (w : World) (h : GRd w g B l) (hg : B ≤ g) :
    Calls Tryd.prog 32 #[.pointer (some ⟨g, 0, none⟩), .int .i32 x] w fun e w' => e = .returned (.bool (isR x l).1) ∧ GRd w' g B (isR x l).2 ∧ Ch (fun i => i = g) w w' := by
  obtain ⟨A, n, c, hb, hr, hnc, hn⟩ := id h
  have hlen : l.length = n := by have := hr.1; rw [rns_len] at this; omega
  have c0 : w.cell? ⟨g, 0, none⟩ = some (.slice A n c) := hb.cell 0
  have f0 : w.frozen? ⟨g, 0, none⟩ = false := hb.free 0
  have H := Lib.hid h
  cases l with
  | nil =>
    have hn0 : n = 0 := hlen.symm
    subst hn0
    clear h hb hr hlen
    go_enter Tryd.func32, Tryd.ntmps32
    go_wp2_with fail
    go_ret
    exact ⟨rfl, H.out, Ch.refl _ _⟩
  | cons y l =>
    have hn0 : n ≠ 0 := by simp at hlen; omega
    have hn1 : ((n : Int) == 0) = false := by simp; omega
    obtain ⟨b, o, u, rfl, hbb, hu, hc⟩ := hr.at_ (k := 0) (by omega)
    have hu2 : u = .int .i32 y := by simpa [rns] using hu.symm
    subst hu2
    have hc0 : w.cell? ⟨b, o, none⟩ = some (.int .i32 y) := by simpa using hc
    have hn2 : 0 < n := by omega
    have hc1 : 1 ≤ c := by omega
    by_cases hx : y = x
    · obtain ⟨A7, hA7, hA7'⟩ : ∃ A7 : Option Addr, (if c = 1 then some (⟨b, o, none⟩ : Addr) else some ⟨b, o + 1, none⟩) = A7 ∧ (n - 1 = 0 ∨ A7 = some ⟨b, o + 1, none⟩) := by
        refine ⟨_, rfl, ?_⟩
        by_cases h : c = 1
        · left; omega
        · right; rw [if_neg h]
      have HF := Lib.hid (grd_next hb hr hnc hn hg hA7')
      have HI := Lib.hid (show isR x (y :: l) = (true, l) by rw [isR, if_pos hx])
      have hxx : (y != x) = false := by simpa using hx
      clear h hb hr hlen hx hA7' hu hc
      go_enter Tryd.func32, Tryd.ntmps32
      go_wp2_with fail
      go_ret
      rw [HI.out]
      exact ⟨rfl, HF.out.1, HF.out.2⟩
    · have HI := Lib.hid (show isR x (y :: l) = (false, y :: l) by rw [isR, if_neg hx])
      have hxx : (y != x) = true := by simpa using hx
      clear h hb hr hlen hx hu hc
      go_enter Tryd.func32, Tryd.ntmps32
      go_wp2_with fail
      go_ret
      rw [HI.out]
      exact ⟨rfl, H.out, Ch.refl _ _⟩
set_option maxHeartbeats 1000000 in
theorem gnext_any (g B : Nat) (l : List Int) (w : World) (h : GRd w g B l) (hg : B ≤ g) :
    Calls Tryd.prog 38 #[.pointer (some ⟨g, 0, none⟩)] w fun e w' => (l = [] ∧ e = .returned (.tuple #[.int .i32 0, .bool false]) ∧ w' = w ∨ ∃ x m, l = x :: m ∧ e = .returned (.tuple #[.int .i32 x, .bool true]) ∧ GRd w' g B m ∧ Ch (fun i => i = g) w w') := by
  obtain ⟨A, n, c, hb, hr, hnc, hn⟩ := id h
  have hlen : l.length = n := by have := hr.1; rw [rns_len] at this; omega
  have c0 : w.cell? ⟨g, 0, none⟩ = some (.slice A n c) := hb.cell 0
  have f0 : w.frozen? ⟨g, 0, none⟩ = false := hb.free 0
  have H := Lib.hid h
  cases l with
  | nil =>
    have hn0 : n = 0 := hlen.symm
    subst hn0
    clear h hb hr hlen
    go_enter Tryd.func38, Tryd.ntmps38
    go_wp2_with fail
    go_ret2
    exact .inl ⟨by first | rfl | trivial, rfl, by first | rfl | trivial⟩
  | cons y l =>
    have hn1 : ((n : Int) == 0) = false := by simp at hlen ⊢; omega
    obtain ⟨b, o, u, rfl, hbb, hu, hc⟩ := hr.at_ (k := 0) (by simp at hlen; omega)
    have hu2 : u = .int .i32 y := by simpa [rns] using hu.symm
    subst hu2
    have hc0 : w.cell? ⟨b, o, none⟩ = some (.int .i32 y) := by simpa using hc
    have hn2 : 0 < n := by simp at hlen; omega
    have hc1 : 1 ≤ c := by omega
    obtain ⟨A7, hA7, hA7'⟩ : ∃ A7 : Option Addr, (if c = 1 then some (⟨b, o, none⟩ : Addr) else some ⟨b, o + 1, none⟩) = A7 ∧ (n - 1 = 0 ∨ A7 = some ⟨b, o + 1, none⟩) := by
      refine ⟨_, rfl, ?_⟩
      by_cases h : c = 1
      · left; omega
      · right; rw [if_neg h]
    have HF := Lib.hid (grd_next hb hr hnc hn hg hA7')
    clear h hb hr hlen hA7' hu hc
    go_enter Tryd.func38, Tryd.ntmps38
    go_wp2_with fail
    go_ret2
    exact .inr ⟨y, l, rfl, rfl, HF.out.1, HF.out.2⟩
set_option maxHeartbeats 1000000 in
theorem gplain_any (g B : Nat) (l : List Int) (w : World) (h : GRd w g B l) (hg : B ≤ g) (hB : B ≤ w.heap.size) :
    Calls Tryd.prog 34 #[.pointer (some ⟨g, 0, none⟩)] w fun e w' => ∃ (c : Int) (b : Bool), e = .returned (.tuple #[.int .i32 c, .bool b]) ∧ (∀ m, plainR l = some (c, m) ∧ b = true → GRd w' g B m) ∧ (b = true → ∃ m, plainR l = some (c, m)) ∧ (b = false → plainR l = none) ∧ Ch (fun i => i = g) w w' := by
  have Hn := Lib.hid (gnext_any g B l w h hg)
  clear h
  go_enter Tryd.func34, Tryd.ntmps34
  go_wp2_with fail
  with_reducible refine Hn.out.mono ?_
  rintro e w1 (⟨rfl, rfl, rfl⟩ | ⟨x, m, rfl, rfl, h1, hc1⟩)
  · go_wp2_with fail
    go_ret2
    exact ⟨0, false, rfl, (fun m h => by cases h.2), (fun h => by cases h), (fun _ => rfl), Ch.refl _ _⟩
  · have C1 := Lib.hid hc1
    have H1 := Lib.hid h1
    clear Hn hc1 h1
    by_cases hx : x = 92
    · have Hn2 := Lib.hid (gnext_any g B m w1 H1.out hg)
      subst hx
      go_wp2_with fail
      with_reducible refine Hn2.out.mono ?_
      rintro e w2 (⟨rfl, rfl, rfl⟩ | ⟨y, k, rfl, rfl, h2, hc2⟩)
      · go_wp2_with fail
        go_ret2
        exact ⟨0, false, rfl, (fun m h => by cases h.2), (fun h => by cases h), (fun _ => by rw [plainR]; rfl), C1.out⟩
      · have C2 := Lib.hid (C1.out.trans hc2 (fun i hi => .inl hi))
        have H2 := Lib.hid h2
        clear hc2 h2
        go_wp2_with fail
        go_ret2
        have e : plainR (92 :: y :: k) = some (y, k) := by rw [plainR]; rfl
        exact ⟨y, true, rfl, (fun m h => by rw [e] at h; have h := h.1; injection h with h; injection h with _ h; subst h; exact H2.out), (fun _ => ⟨k, e⟩), (fun h => by cases h), C2.out⟩
    · have hx' : (x == 92) = false := by simpa using hx
      have e : plainR (x :: m) = some (x, m) := by cases m <;> (rw [plainR, if_neg hx])
      have HE := Lib.hid e
      clear hx e
      go_wp2_with fail
      go_ret2
      exact ⟨x, true, rfl, (fun k h => by rw [HE.out] at h; have h := h.1; injection h with h; injection h with _ h; subst h; exact H1.out), (fun _ => ⟨m, HE.out⟩), (fun h => by cases h), C1.out⟩
end Go.Proofs.YtbdehlphblbmoaaDoor
