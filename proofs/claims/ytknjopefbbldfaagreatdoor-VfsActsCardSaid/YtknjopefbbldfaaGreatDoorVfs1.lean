/- Contracts of package vfs: at, burn, changed, need, New. -/
import Derived.Test.YtknjopefbbldfaaGreatDoorVfsM
import Derived.Deep.RegionHeld3
import Derived.Deep.DrawnRows
namespace Go.Proofs.YtknjopefbbldfaaGreatDoor
open Go.RowKit
attribute [local go_sem ↓] Go.wp_at_zero Go.wp_at_succ

/-- What 'at' tells. -/
def atV (S : FsP) (bl : List UInt8 → Nat) (n : List UInt8) : Value :=
  if S.down then .tuple #[.pointer none, .int .i64 9] else match findP S n with
  | none => .tuple #[.pointer none, .int .i64 6]
  | some _ => .tuple #[.pointer (some ⟨bl n, 0, none⟩), .int .i64 0]
theorem at_nil (s : ByteArray) (w : World) : Calls Tryz.prog 37 #[.pointer none, .string s] w fun e w' => e = .returned (.tuple #[.pointer none, .int .i64 2]) ∧ w' = w := by
  go_enter Tryz.func37, Tryz.ntmps37
  go_wp2
  go_ret2
  exact ⟨rfl, by first | rfl | trivial⟩
set_option maxHeartbeats 4000000 in
set_option maxRecDepth 100000 in
theorem at_any (f m : Nat) (bl gl : List UInt8 → Nat) (sv : List UInt8 → Value) (S : FsP) (s : ByteArray) (w : World) (h : FsM w f m bl gl sv S) (hs : s.size ≤ maxLen) :
    Calls Tryz.prog 37 #[.pointer (some ⟨f, 0, none⟩), .string s] w fun e w' => e = .returned (atV S bl s.data.toList) ∧ w' = w := by
  have c3 : w.cell? ⟨f, 3, none⟩ = some (.bool S.down) := h.hd.cell 3
  have c4 : w.cell? ⟨f, 4, none⟩ = some (.map (some m)) := h.hd.cell 4
  have hl := h.mp.look hs
  unfold atV
  clear h hs
  cases hd : S.down with
  | true =>
    rw [hd] at c3
    clear hd hl
    go_enter Tryz.func37, Tryz.ntmps37
    go_wp2
    go_ret2
    exact ⟨rfl, by first | rfl | trivial⟩
  | false =>
    rw [hd] at c3
    clear hd
    cases hf : findP S s.data.toList with
    | none =>
      simp only [hf, Option.map_none] at hl
      clear hf
      go_enter Tryz.func37, Tryz.ntmps37
      go_wp2
      go_ret2
      exact ⟨rfl, by first | rfl | trivial⟩
    | some x =>
      simp only [hf, Option.map_some] at hl
      clear hf
      generalize bl s.data.toList = b at *
      go_enter Tryz.func37, Tryz.ntmps37
      go_wp2
      go_ret2
      exact ⟨rfl, by first | rfl | trivial⟩
section
variable (f m : Nat) (bl gl : List UInt8 → Nat) (sv : List UInt8 → Value) (S : FsP) (s : ByteArray) (w : World) (h : FsM w f m bl gl sv S) (hs : s.size ≤ maxLen)
include h hs
theorem at_down (hd : S.down = true) : Calls Tryz.prog 37 #[.pointer (some ⟨f, 0, none⟩), .string s] w fun e w' => e = .returned (.tuple #[.pointer none, .int .i64 9]) ∧ w' = w := by
  have := at_any f m bl gl sv S s w h hs
  unfold atV at this
  rwa [hd] at this
theorem at_none (hd : S.down = false) (hf : findP S s.data.toList = none) : Calls Tryz.prog 37 #[.pointer (some ⟨f, 0, none⟩), .string s] w fun e w' => e = .returned (.tuple #[.pointer none, .int .i64 6]) ∧ w' = w := by
  have := at_any f m bl gl sv S s w h hs
  unfold atV at this
  rwa [hd, hf] at this
theorem at_some (hd : S.down = false) {x : FlP} (hf : findP S s.data.toList = some x) : Calls Tryz.prog 37 #[.pointer (some ⟨f, 0, none⟩), .string s] w fun e w' => e = .returned (.tuple #[.pointer (some ⟨bl s.data.toList, 0, none⟩), .int .i64 0]) ∧ w' = w := by
  have := at_any f m bl gl sv S s w h hs
  unfold atV at this
  rwa [hd, hf] at this
end
/-- burn, on the store's block. -/
def burnt (fu : Int) (d : Bool) : Int × Bool := if fu = 0 then (0, true) else if 0 < fu then (fu - 1, d) else (fu, d)
set_option maxHeartbeats 4000000 in
theorem burn_any (f : Nat) (a0 a1 a4 : Value) (fu : Int) (d : Bool) (w : World) (h : Bk w f 45 #[a0, a1, .int .i64 fu, .bool d, a4]) (h1 : -1 ≤ fu) (h2 : fu ≤ 9223372036854775807) :
    Calls Tryz.prog 39 #[.pointer (some ⟨f, 0, none⟩)] w fun e w' => e = .returned (.bool (fu != 0)) ∧ Bk w' f 45 #[a0, a1, .int .i64 (burnt fu d).1, .bool (burnt fu d).2, a4] ∧ Ch (fun i => i = f) w w' := by
  have c2 : w.cell? ⟨f, 2, none⟩ = some (.int .i64 fu) := h.cell 2
  have c3 : w.cell? ⟨f, 3, none⟩ = some (.bool d) := h.cell 3
  have f2 := h.free 2
  have f3 := h.free 3
  have H := Lib.hid h
  clear h
  unfold burnt
  by_cases h0 : fu = 0
  · subst h0
    have H2 := Lib.hid (H.out.set 3 (.bool true))
    have HC := Lib.hid ((Ch.refl (fun i => i = f) w).set (p := ⟨f, 3, none⟩) (.inl rfl) (.bool true))
    clear h1 h2
    go_enter Tryz.func39, Tryz.ntmps39
    go_wp2
    go_ret
    exact ⟨rfl, H2.out, HC.out⟩
  · by_cases hp : 0 < fu
    · have H2 := Lib.hid (H.out.set 2 (.int .i64 (fu - 1)))
      have HC := Lib.hid ((Ch.refl (fun i => i = f) w).set (p := ⟨f, 2, none⟩) (.inl rfl) (.int .i64 (fu - 1)))
      have e1 : (fu == 0) = false := by simpa using h0
      have e2 : IntKind.i64.wrap (fu - 1) = fu - 1 := IntWalk.i64_in _ (by omega)
      have e3 : (fu != 0) = true := by simpa using h0
      rw [if_neg h0, if_pos hp, e3]
      clear h0 e3 h1 h2
      go_enter Tryz.func39, Tryz.ntmps39
      go_wp2
      go_ret
      exact ⟨rfl, H2.out, HC.out⟩
    · have e1 : (fu == 0) = false := by simpa using h0
      have e3 : (fu != 0) = true := by simpa using h0
      rw [if_neg h0, if_neg hp, e3]
      clear h0 e3 h1 h2
      go_enter Tryz.func39, Tryz.ntmps39
      go_wp2
      go_ret
      exact ⟨rfl, H.out, Ch.refl _ _⟩
set_option maxHeartbeats 4000000 in
/-- changed: the store's stamp, and the file's. -/
theorem changed_any (f b st : Nat) (a0 a2 a3 a4 c0 c1 c2 : Value) (w : World) (h : Bk w f 45 #[a0, .int .i64 (st : Int), a2, a3, a4]) (hb : Bk w b 73 #[c0, c1, c2]) (hst : st ≤ 1000000) :
    Calls Tryz.prog 40 #[.pointer (some ⟨f, 0, none⟩), .pointer (some ⟨b, 0, none⟩)] w fun e w' =>
      e = .returned (.int .i64 0) ∧ Bk w' f 45 #[a0, .int .i64 ((st + 1 : Nat) : Int), a2, a3, a4] ∧ Bk w' b 73 #[c0, c1, .int .i64 ((st + 1 : Nat) : Int)] ∧ Ch (fun i => i = f ∨ i = b) w w' := by
  have hne : f ≠ b := Bk.ne h hb (by decide)
  have d1 : w.cell? ⟨f, 1, none⟩ = some (.int .i64 (st : Int)) := h.cell 1
  have f1 := h.free 1
  have g2 : (w.setCell ⟨f, 1, none⟩ (.int .i64 ((st + 1 : Nat) : Int))).cell? ⟨b, 2, none⟩ = some c2 := (hb.far (p := ⟨f, 1, none⟩) (Ne.symm hne) _).cell 2
  have g3 := (hb.far (p := ⟨f, 1, none⟩) (Ne.symm hne) (.int .i64 ((st + 1 : Nat) : Int))).free 2
  have d1' : (w.setCell ⟨f, 1, none⟩ (.int .i64 ((st + 1 : Nat) : Int))).cell? ⟨f, 1, none⟩ = some (.int .i64 ((st + 1 : Nat) : Int)) := (h.set 1 _).cell 1
  have H1 := Lib.hid ((h.set 1 (.int .i64 ((st + 1 : Nat) : Int))).far (p := ⟨b, 2, none⟩) hne (.int .i64 ((st + 1 : Nat) : Int)))
  have H2 := Lib.hid ((hb.far (p := ⟨f, 1, none⟩) (Ne.symm hne) (.int .i64 ((st + 1 : Nat) : Int))).set 2 (.int .i64 ((st + 1 : Nat) : Int)))
  have HC := Lib.hid (((Ch.refl (fun i => i = f ∨ i = b) w).set (p := ⟨f, 1, none⟩) (.inl (.inl rfl)) (.int .i64 ((st + 1 : Nat) : Int))).set (p := ⟨b, 2, none⟩) (.inl (.inr rfl)) (.int .i64 ((st + 1 : Nat) : Int)))
  have e1 : IntKind.i64.wrap ((st : Int) + 1) = ((st + 1 : Nat) : Int) := by rw [IntWalk.i64_in _ (by omega)]; omega
  clear h hb hst hne
  generalize hs1 : ((st + 1 : Nat) : Int) = s1 at *
  clear hs1
  go_enter Tryz.func40, Tryz.ntmps40
  go_wp2
  go_ret
  exact ⟨rfl, H1.out, H2.out, HC.out⟩
theorem need_any (n : Nat) (w : World) (hn : n ≤ 100000000) : Calls Tryz.prog 41 #[.int .i64 (n : Int)] w fun e w' => e = .returned (.int .i64 (needN n : Int)) ∧ w' = w := by
  have e1 : IntKind.i64.wrap ((n : Int) + 64) = ((n + 64 : Nat) : Int) := by rw [IntWalk.i64_in _ (by omega)]; omega
  have e2 : IntKind.i64.wrap (((n + 64 : Nat) : Int) - 1) = ((n + 63 : Nat) : Int) := by rw [IntWalk.i64_in _ (by omega)]; omega
  have e3 : IntKind.i64.wrap (Int.tdiv ((n + 63 : Nat) : Int) 64) = (needN n : Int) := by
    rw [show (64 : Int) = ((64 : Nat) : Int) by rfl, Int.tdiv_eq_ediv_of_nonneg (by omega)]
    rw [IntWalk.i64_in _ (by omega)]; unfold needN; omega
  clear hn
  generalize hs1 : ((n + 64 : Nat) : Int) = s1 at *
  generalize hs2 : ((n + 63 : Nat) : Int) = s2 at *
  clear hs1 hs2
  go_enter Tryz.func41, Tryz.ntmps41
  go_wp2
  go_ret
  exact ⟨by first | rfl | trivial, by first | rfl | trivial⟩
end Go.Proofs.YtknjopefbbldfaaGreatDoor
