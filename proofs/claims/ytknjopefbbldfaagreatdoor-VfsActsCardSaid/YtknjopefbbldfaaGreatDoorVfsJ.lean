/- Contracts of package vfs: Len, Stamp, Down, Fuse. -/
import Derived.Test.YtknjopefbbldfaaGreatDoorVfsI
namespace Go.Proofs.YtknjopefbbldfaaGreatDoor
open Go.RowKit
attribute [local go_sem ↓] Go.wp_at_zero Go.wp_at_succ

def lenP (S : FsP) (n : List UInt8) : Option Nat := if S.down then none else (findP S n).map (·.B.length)
def stampP (S : FsP) (n : List UInt8) : Nat := if S.down then 0 else match findP S n with | none => 0 | some x => x.stamp
def lenV (S : FsP) (n : List UInt8) : Value := match lenP S n with | none => .tuple #[.int .i64 0, .bool false] | some k => .tuple #[.int .i64 (k : Int), .bool true]
set_option maxHeartbeats 1000000 in
theorem len_any (f m : Nat) (bl gl : List UInt8 → Nat) (sv : List UInt8 → Value) (S : FsP) (s : ByteArray) (w : World) (h : FsM w f m bl gl sv S) (hs : s.size ≤ maxLen) :
    Calls Tryz.prog 31 #[.pointer (some ⟨f, 0, none⟩), .string s] w fun e w' => e = .returned (lenV S s.data.toList) ∧ w' = w := by
  unfold lenV lenP
  cases hd : S.down with
  | true =>
    have HA := Lib.hid (at_down f m bl gl sv S s w h hs hd)
    clear h hs hd
    go_enter Tryz.func31, Tryz.ntmps31
    go_wp2_with fail
    with_reducible refine HA.out.mono ?_
    rintro e w1 ⟨rfl, hw1⟩; subst hw1
    go_wp2_with fail
    go_ret2
    exact ⟨rfl, by first | rfl | trivial⟩
  | false =>
    cases hf : findP S s.data.toList with
    | none =>
      have HA := Lib.hid (at_none f m bl gl sv S s w h hs hd hf)
      clear h hs hd hf
      go_enter Tryz.func31, Tryz.ntmps31
      go_wp2_with fail
      with_reducible refine HA.out.mono ?_
      rintro e w1 ⟨rfl, hw1⟩; subst hw1
      go_wp2_with fail
      go_ret2
      exact ⟨rfl, by first | rfl | trivial⟩
    | some x =>
      have d1 : w.cell? ⟨bl s.data.toList, 1, none⟩ = some (.int .i64 (x.B.length : Int)) := (h.fl _ x hf).hd.cell 1
      have d2 : w.cell? ⟨bl s.data.toList, 2, none⟩ = some (.int .i64 (x.stamp : Int)) := (h.fl _ x hf).hd.cell 2
      have HA := Lib.hid (at_some f m bl gl sv S s w h hs hd hf)
      clear h hs hd hf
      go_enter Tryz.func31, Tryz.ntmps31
      go_wp2_with fail
      with_reducible refine HA.out.mono ?_
      rintro e w1 ⟨rfl, hw1⟩; subst hw1
      go_wp2_with fail
      go_ret2
      exact ⟨rfl, by first | rfl | trivial⟩
set_option maxHeartbeats 1000000 in
theorem stamp_any (f m : Nat) (bl gl : List UInt8 → Nat) (sv : List UInt8 → Value) (S : FsP) (s : ByteArray) (w : World) (h : FsM w f m bl gl sv S) (hs : s.size ≤ maxLen) :
    Calls Tryz.prog 33 #[.pointer (some ⟨f, 0, none⟩), .string s] w fun e w' => e = .returned (.int .i64 (stampP S s.data.toList : Int)) ∧ w' = w := by
  unfold stampP
  cases hd : S.down with
  | true =>
    have HA := Lib.hid (at_down f m bl gl sv S s w h hs hd)
    clear h hs hd
    go_enter Tryz.func33, Tryz.ntmps33
    go_wp2_with fail
    with_reducible refine HA.out.mono ?_
    rintro e w1 ⟨rfl, hw1⟩; subst hw1
    go_wp2_with fail
    go_ret
    exact ⟨rfl, by first | rfl | trivial⟩
  | false =>
    cases hf : findP S s.data.toList with
    | none =>
      have HA := Lib.hid (at_none f m bl gl sv S s w h hs hd hf)
      clear h hs hd hf
      go_enter Tryz.func33, Tryz.ntmps33
      go_wp2_with fail
      with_reducible refine HA.out.mono ?_
      rintro e w1 ⟨rfl, hw1⟩; subst hw1
      go_wp2_with fail
      go_ret
      exact ⟨rfl, by first | rfl | trivial⟩
    | some x =>
      have d1 : w.cell? ⟨bl s.data.toList, 1, none⟩ = some (.int .i64 (x.B.length : Int)) := (h.fl _ x hf).hd.cell 1
      have d2 : w.cell? ⟨bl s.data.toList, 2, none⟩ = some (.int .i64 (x.stamp : Int)) := (h.fl _ x hf).hd.cell 2
      have HA := Lib.hid (at_some f m bl gl sv S s w h hs hd hf)
      clear h hs hd hf
      go_enter Tryz.func33, Tryz.ntmps33
      go_wp2_with fail
      with_reducible refine HA.out.mono ?_
      rintro e w1 ⟨rfl, hw1⟩; subst hw1
      go_wp2_with fail
      go_ret
      exact ⟨rfl, by first | rfl | trivial⟩
set_option maxHeartbeats 1000000 in
theorem down_any (f m : Nat) (bl gl : List UInt8 → Nat) (sv : List UInt8 → Value) (S : FsP) (w : World) (h : FsM w f m bl gl sv S) :
    Calls Tryz.prog 27 #[.pointer (some ⟨f, 0, none⟩)] w fun e w' => e = .returned (.bool S.down) ∧ w' = w := by
  have c3 : w.cell? ⟨f, 3, none⟩ = some (.bool S.down) := h.hd.cell 3
  clear h
  go_enter Tryz.func27, Tryz.ntmps27
  go_wp2
  go_ret
  exact ⟨rfl, by first | rfl | trivial⟩
set_option maxHeartbeats 1000000 in
theorem fuse_any (f : Nat) (O : Nat → Prop) (S : FsP) (n : Int) (w : World) (h : FsA w O f S) (hn : n ≤ 9223372036854775807) :
    Calls Tryz.prog 19 #[.pointer (some ⟨f, 0, none⟩), .int .i64 n] w fun e w' => e = .returned (.tuple #[]) ∧ FsA w' O f (fuseP S n) ∧ Ch O w w' := by
  obtain ⟨m, bl, gl, sv, hM, hO⟩ := h
  have c2 : w.cell? ⟨f, 2, none⟩ = some (.int .i64 S.fuse) := hM.hd.cell 2
  have f2 := hM.hd.free 2
  obtain ⟨M, hMd⟩ : ∃ M, M = max n (-1) := ⟨_, rfl⟩
  have em := fun ats ty => run_max ats ty n (-1) M (by rw [hMd]; split <;> omega)
  have HM := Lib.hid (And.intro hM (And.intro hO (And.intro hMd hn)))
  have hmx : max n (-1) = M := hMd.symm
  clear hM hO hMd hn
  go_enter Tryz.func19, Tryz.ntmps19
  go_wp2
  go_end0
  obtain ⟨hM, hO, hMd, hn⟩ := HM.out
  have hS : fuseP S n = { S with fuse := M } := by rw [hMd]; rfl
  rw [hS]
  refine ⟨rfl, ⟨m, bl, gl, sv, hM.upd (hM.hd.set 2 (.int .i64 M)) (fun i _ hne => Below.heap_setCell _ ⟨f, 2, none⟩ _ i hne) rfl (Nat.le_refl _) ?_, fun i hi => hO i hi⟩, (Ch.refl _ _).set (p := ⟨f, 2, none⟩) (.inl (hO f (.inl rfl))) _⟩
  have hw := hM.wf
  exact ⟨hw.most1, hw.most2, by show -1 ≤ M; omega, by show M ≤ _; omega, hw.files, hw.order, hw.room, hw.names⟩
end Go.Proofs.YtknjopefbbldfaaGreatDoor
