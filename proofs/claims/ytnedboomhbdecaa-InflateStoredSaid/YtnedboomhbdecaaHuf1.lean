/- Codes in memory: the block of a Code, and its sixteen rows. -/
import Derived.Test.YtnedboomhbdecaaHufP
import Derived.Test.YtnedboomhbdecaaShelfC
import Derived.Test.YtnedboomhbdecaaInts
import Derived.Test.YtnedboomhbdecaaCh
namespace Go.Proofs.Ytnedboomhbdecaa
open Go.RowKit

/-- A Code's cells. -/
def codeC (vs : Nat → Value) (fs : Nat → Int) (lv : Value) (fill : Int) : Array Value :=
  #[vs 0, .int .i64 (fs 0), vs 1, .int .i64 (fs 1), vs 2, .int .i64 (fs 2), vs 3, .int .i64 (fs 3), vs 4, .int .i64 (fs 4), vs 5, .int .i64 (fs 5), vs 6, .int .i64 (fs 6), vs 7, .int .i64 (fs 7),
    vs 8, .int .i64 (fs 8), vs 9, .int .i64 (fs 9), vs 10, .int .i64 (fs 10), vs 11, .int .i64 (fs 11), vs 12, .int .i64 (fs 12), vs 13, .int .i64 (fs 13), vs 14, .int .i64 (fs 14), vs 15, .int .i64 (fs 15), lv, .int .i64 fill]
def upd {α : Type} (f : Nat → α) (n : Nat) (v : α) (m : Nat) : α := if m = n then v else f m
theorem upd_same {α : Type} (f : Nat → α) (n : Nat) (v : α) : upd f n v n = v := by unfold upd; rw [if_pos rfl]
theorem upd_ne {α : Type} (f : Nat → α) {n m : Nat} (h : m ≠ n) (v : α) : upd f n v m = f m := by unfold upd; rw [if_neg h]
theorem lt16 (n : Nat) (h : n < 16) : n = 0 ∨ n = 1 ∨ n = 2 ∨ n = 3 ∨ n = 4 ∨ n = 5 ∨ n = 6 ∨ n = 7 ∨ n = 8 ∨ n = 9 ∨ n = 10 ∨ n = 11 ∨ n = 12 ∨ n = 13 ∨ n = 14 ∨ n = 15 := by omega
theorem codeC_row (vs : Nat → Value) (fs : Nat → Int) (lv : Value) (fill : Int) (n : Nat) (h : n < 16) : (codeC vs fs lv fill)[n * 2]? = some (vs n) := by
  rcases lt16 n h with rfl | rfl | rfl | rfl | rfl | rfl | rfl | rfl | rfl | rfl | rfl | rfl | rfl | rfl | rfl | rfl <;> rfl
theorem codeC_first (vs : Nat → Value) (fs : Nat → Int) (lv : Value) (fill : Int) (n : Nat) (h : n < 16) : (codeC vs fs lv fill)[n * 2 + 1]? = some (.int .i64 (fs n)) := by
  rcases lt16 n h with rfl | rfl | rfl | rfl | rfl | rfl | rfl | rfl | rfl | rfl | rfl | rfl | rfl | rfl | rfl | rfl <;> rfl
theorem codeC_setrow (vs : Nat → Value) (fs : Nat → Int) (lv : Value) (fill : Int) (n : Nat) (h : n < 16) (v : Value) : (codeC vs fs lv fill).setIfInBounds (n * 2) v = codeC (upd vs n v) fs lv fill := by
  rcases lt16 n h with rfl | rfl | rfl | rfl | rfl | rfl | rfl | rfl | rfl | rfl | rfl | rfl | rfl | rfl | rfl | rfl <;> rfl
theorem codeC_setfirst (vs : Nat → Value) (fs : Nat → Int) (lv : Value) (fill : Int) (n : Nat) (h : n < 16) (x : Int) : (codeC vs fs lv fill).setIfInBounds (n * 2 + 1) (.int .i64 x) = codeC vs (upd fs n x) lv fill := by
  rcases lt16 n h with rfl | rfl | rfl | rfl | rfl | rfl | rfl | rfl | rfl | rfl | rfl | rfl | rfl | rfl | rfl | rfl <;> rfl
theorem codeC_setfill (vs : Nat → Value) (fs : Nat → Int) (lv : Value) (fill x : Int) : (codeC vs fs lv fill).setIfInBounds 33 (.int .i64 x) = codeC vs fs lv x := rfl

/-- Sixteen rows of the call's own, each apart from the others. -/
def Fam (w : World) (base : Nat) (vs : Nat → Value) (cs : Nat → List Int) : Prop :=
  (∀ n, n < 16 → w.ownsRow base 3 1 (vs n) (cs n).length (its (cs n))) ∧ ∀ n m, n < 16 → m < 16 → n ≠ m → ∀ b, (vs n).ownBlock = some b → (vs m).ownBlock ≠ some b
theorem Fam.start (w : World) (base : Nat) : Fam w base (fun _ => .slice none 0 0) (fun _ => []) :=
  ⟨fun _ _ => World.ownsRow_nil _ _ _ _, fun _ _ _ _ _ b h => by simp [Value.ownBlock] at h⟩
theorem Fam.alloc {w : World} {base : Nat} {vs : Nat → Value} {cs : Nat → List Int} (h : Fam w base vs cs) (o : Obj) : Fam (w.alloc o) base vs cs := ⟨fun n hn => (h.1 n hn).alloc o, h.2⟩
theorem Fam.heap {w w' : World} {base : Nat} {vs : Nat → Value} {cs : Nat → List Int} (h : Fam w base vs cs) (hw : w'.heap = w.heap) : Fam w' base vs cs :=
  ⟨fun n hn => by have := h.1 n hn; unfold World.ownsRow at this ⊢; rw [hw]; exact this, h.2⟩
/-- One row grows; the block that holds them, which lies lower, is written. -/
theorem Fam.step {w w' : World} {base : Nat} {vs : Nat → Value} {cs : Nat → List Int} (h : Fam w base vs cs) {n : Nat} (hn : n < 16) {v' : Value} {xs : List Int} (ho : w'.ownsRow base 3 1 v' xs.length (its xs)) (hg : w.grownBy w' (vs n).ownBlock)
    (hv : v'.ownBlock = (vs n).ownBlock ∨ v'.ownBlock = some w.heap.size) : Fam w' base (upd vs n v') (upd cs n xs) := by
  have far : ∀ m, m < 16 → m ≠ n → ∀ b, v'.ownBlock = some b → (vs m).ownBlock ≠ some b := by
    intro m hm hne b hb he
    rcases hv with e | e
    · rw [e] at hb; exact h.2 n m hn hm (fun e => hne e.symm) b hb he
    · rw [e] at hb; injection hb with hb; have := ((h.1 m hm).lt b he).2; omega
  refine ⟨fun m hm => ?_, fun m k hm hk hne b hb => ?_⟩
  · by_cases e : m = n
    · subst e; rw [upd_same, upd_same]; exact ho
    · rw [upd_ne _ e, upd_ne _ e]
      refine (h.1 m hm).kept hg ?_
      cases hb : (vs m).ownBlock with
      | none => exact .inl rfl
      | some b => exact .inr (fun e2 => h.2 n m hn hm (fun e3 => e e3.symm) b e2.symm hb)
  · by_cases e : m = n
    · subst e
      rw [upd_same] at hb
      rw [upd_ne _ (fun e2 => hne e2.symm)]
      exact far k hk (fun e2 => hne e2.symm) b hb
    · rw [upd_ne _ e] at hb
      by_cases e2 : k = n
      · subst e2
        rw [upd_same]
        intro e3
        exact far m hm e b e3 hb
      · rw [upd_ne _ e2]
        exact h.2 m k hm hk hne b hb
theorem Fam.below_set {w : World} {base : Nat} {vs : Nat → Value} {cs : Nat → List Int} (h : Fam w base vs cs) {g : Nat} (hg : g < base) (i : Nat) (u : Value) : Fam (w.setCell ⟨g, i, none⟩ u) base vs cs :=
  ⟨fun n hn => own_apart (h.1 n hn) (gb_set (World.grownBy.refl _ _) i u) (fun k hk => by injection hk with hk; omega), h.2⟩

/-- A Code of lengths, at block g. -/
def HCode (w : World) (l : List Int) (g : Nat) : Prop :=
  ∃ vs A n c, Bk w g 86 (codeC vs (fun k => (firstC l k : Int)) (.slice A n c) (fillN l)) ∧ n = l.length ∧ n ≤ c ∧ Rd w w.heap.size 1 A n (its l) ∧
    ∀ k, k < 16 → ∃ B m d, vs k = .slice B m d ∧ m ≤ d ∧ Rd w w.heap.size 1 B m (its (syms l (k : Int)))
theorem HCode.below {w w' : World} {l : List Int} {g : Nat} (h : HCode w l g) (hb : Below w.heap.size w w') : HCode w' l g := by
  obtain ⟨vs, A, n, c, h1, h2, h3, h4, h5⟩ := h
  refine ⟨vs, A, n, c, h1.below hb h1.lt, h2, h3, (h4.below hb (Nat.le_refl _)).more hb.size, fun k hk => ?_⟩
  obtain ⟨B, m, d, e, hm, hr⟩ := h5 k hk
  exact ⟨B, m, d, e, hm, (hr.below hb (Nat.le_refl _)).more hb.size⟩

/-- slices.Clone of ints. -/
theorem clone_any (A : Option Addr) (n c : Nat) (l : List Int) (w : World) (hr : Rd w w.heap.size 1 A n (its l)) (hn : n ≤ 1000000) :
    Calls Try.prog 55 #[.slice A n c] w fun e w' => ∃ v', e = .returned v' ∧ w'.ownsRow w.heap.size 3 1 v' n (its l) ∧ Below w.heap.size w w' := by
  have hl := hr.ilen
  rcases Nat.eq_zero_or_pos n with hz | hp
  · subst hz
    have hnil : l = [] := List.eq_nil_of_length_eq_zero hl
    subst hnil
    cases A with
    | none => exact (Try.slices_Clone_int_nil 0 c w).mono fun e w' ⟨h1, h2⟩ => ⟨_, h1, by rw [h2]; exact World.ownsRow_nil _ _ _ _, by rw [h2]; exact Below.refl _ _⟩
    | some a => exact (Try.slices_Clone_int_zero a c w).mono fun e w' ⟨v', h1, h2, _, h4⟩ => ⟨v', h1, h2, h4⟩
  · obtain ⟨b, o, rfl, _, hc⟩ := hr.2 hp
    refine (Try.slices_Clone_int b o n c l w (by omega) (by omega) (fun j hj => hc j _ ?_)).mono fun e w' ⟨v', h1, h2, _, h4⟩ => ⟨v', h1, ?_, h4⟩
    · simp [its, List.getElem?_map, List.getElem?_eq_getElem hj, List.getD]
    · rw [List.take_of_length_le (by omega)] at h2; exact h2
/-- slices.BinarySearch of ints in order. -/
theorem search_any (A : Option Addr) (n c : Nat) (l : List Int) (x : Int) (w : World) (hr : Rd w w.heap.size 1 A n (its l)) (hn : n ≤ 1000000) (hs : l.Pairwise (· ≤ ·)) :
    Calls Try.prog 58 #[.slice A n c, .int .i64 x] w fun e w' => e = .returned (.tuple #[.int .i64 ((l.countP (· < x) : Nat) : Int), .bool (l.contains x)]) ∧ ∃ q, w' = w.drewN q := by
  have hl := hr.ilen
  rcases Nat.eq_zero_or_pos n with hz | hp
  · subst hz
    have hnil : l = [] := List.eq_nil_of_length_eq_zero hl
    subst hnil
    exact (Try.slices_BinarySearch_int_empty A c x w).mono fun e w' ⟨h1, h2⟩ => ⟨h1, 0, h2⟩
  · obtain ⟨b, o, rfl, _, hc⟩ := hr.2 hp
    have ht : l.take n = l := List.take_of_length_le (by omega)
    have := Try.slices_BinarySearch_int b o n c l x w (by omega) (by omega) (fun j hj => hc j _ (by simp [its, List.getElem?_map, List.getElem?_eq_getElem hj, List.getD])) (by rw [ht]; exact hs)
    rw [ht] at this
    exact this
end Go.Proofs.Ytnedboomhbdecaa
