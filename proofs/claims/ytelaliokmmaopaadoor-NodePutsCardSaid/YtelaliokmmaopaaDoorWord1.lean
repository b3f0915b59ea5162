/- Contracts of word.wide, Cut, Get, and of the reference's Wide, Number, Same. -/
import Derived.Test.YtelaliokmmaopaaDoorMem
import Derived.Test.YtelaliokmmaopaaDoorWordP
import Derived.Test.YtelaliokmmaopaaDoorRows
namespace Go.Proofs.YtelaliokmmaopaaDoor
open Go.RowKit

theorem wide_any (x : Int) (w : World) :
    Calls Tryd.prog 56 #[.int .i64 x] w fun e w' => e = .returned (.int .i64 (wid x)) ∧ w = w' := by
  go_enter Tryd.func56, Tryd.ntmps56
  go_wp2
  all_goals
    go_ret
    exact ⟨ret_int (by unfold wid; omega), rfl⟩

theorem refwide_any (x : Int) (w : World) :
    Calls Tryd.prog 55 #[.int .i64 x] w fun e w' => e = .returned (.int .i64 (wid x)) ∧ w = w' := by
  go_enter Tryd.func55, Tryd.ntmps55
  go_wp2
  all_goals
    go_ret
    exact ⟨ret_int (by unfold wid; omega), rfl⟩

theorem cut_arg (A : Option Addr) (n c : Nat) (at_ m : Int) (w : World) (h : at_ < 0 ∨ 0 ≤ at_ ∧ m < 0) :
    Calls Tryd.prog 43 #[.slice A n c, .int .i64 at_, .int .i64 m] w fun e w' => e = .returned (.tuple #[.slice none 0 0, .int .i64 1]) ∧ w = w' := by
  rcases h with h | ⟨h0, h⟩
  · go_enter Tryd.func43, Tryd.ntmps43
    go_wp2
    go_ret2
    exact ⟨rfl, rfl⟩
  · go_enter Tryd.func43, Tryd.ntmps43
    go_wp2
    go_ret2
    exact ⟨rfl, rfl⟩

theorem cut_end (A : Option Addr) (n c : Nat) (at_ m : Int) (w : World) (h0 : 0 ≤ at_) (h1 : 0 ≤ m) (hn : (n : Int) ≤ 9223372036854775807) (h : (n : Int) < at_ ∨ at_ ≤ n ∧ n - at_ < m) :
    Calls Tryd.prog 43 #[.slice A n c, .int .i64 at_, .int .i64 m] w fun e w' => e = .returned (.tuple #[.slice none 0 0, .int .i64 3]) ∧ w = w' := by
  rcases h with h | ⟨h2, h⟩
  · go_enter Tryd.func43, Tryd.ntmps43
    go_wp2
    go_ret2
    exact ⟨rfl, rfl⟩
  · go_enter Tryd.func43, Tryd.ntmps43
    go_wp2
    go_ret2
    exact ⟨rfl, rfl⟩

theorem cut_ok (A : Option Addr) (n c k m : Nat) (l : List UInt8) (w : World) (hr : Rd w w.heap.size 1 A n (bys l)) (hnc : n ≤ c) (hkm : k + m ≤ n) (hn : n ≤ 140737488355328) :
    Calls Tryd.prog 43 #[.slice A n c, .int .i64 k, .int .i64 m] w fun e w' => ∃ v, e = .returned (.tuple #[v, .int .i64 0]) ∧
      w'.ownsRow w.heap.size 5 1 v m (bys ((l.drop k).take m)) ∧ Below w.heap.size w w' := by
  go_enter Tryd.func43, Tryd.ntmps43
  go_wp2_with (first
    | ((with_reducible refine at_slice ?_)
       refine cut_bys hr hnc k m hkm rfl rfl rfl rfl rfl rfl ?_
       intro A' c' hr' _ _)
    | (at_builtin
       refine ap_bys (own_nilB w w.heap.size _) hr' (Below.refl _ _) (Nat.le_refl _) (by omega) rfl rfl rfl ?_
       intro v' w' hown hb _ _))
  go_ret2
  exact ⟨_, rfl, by simpa using hown, hb⟩

/-- Get refuses. -/
theorem get_arg (A : Option Addr) (n c : Nat) (at_ x : Int) (w : World) (h : at_ < 0) :
    Calls Tryd.prog 42 #[.slice A n c, .int .i64 at_, .int .i64 x] w fun e w' => e = .returned (.tuple #[.int .i64 0, .int .i64 1]) ∧ w = w' := by
  go_enter Tryd.func42, Tryd.ntmps42
  go_wp2_with (first
    | (go_at_call 56; refine (wide_any _ _).mono ?_; rintro e w' ⟨rfl, rfl⟩)
    | (go_at_call 43; refine (cut_arg _ _ _ _ _ _ (.inl h)).mono ?_; rintro e w' ⟨rfl, rfl⟩))
  go_loop [10, 11] (fun a b => a = .int .i64 0 ∧ b = .int .i64 (-1)) (fun _ _ => 0)
  case atStart => exact ⟨rfl, rfl⟩
  case round =>
    obtain ⟨rfl, rfl⟩ := hrel
    go_wp2
    go_ret2
    exact ⟨rfl, rfl⟩
theorem get_end (A : Option Addr) (n c : Nat) (at_ x : Int) (w : World) (h0 : 0 ≤ at_) (hn : (n : Int) ≤ 9223372036854775807) (h : (n : Int) < at_ ∨ at_ ≤ n ∧ n - at_ < wid x) :
    Calls Tryd.prog 42 #[.slice A n c, .int .i64 at_, .int .i64 x] w fun e w' => e = .returned (.tuple #[.int .i64 0, .int .i64 3]) ∧ w = w' := by
  have hb := wid_bd x
  go_enter Tryd.func42, Tryd.ntmps42
  go_wp2_with (first
    | (go_at_call 56; refine (wide_any _ _).mono ?_; rintro e w' ⟨rfl, rfl⟩)
    | (go_at_call 43; refine (cut_end _ _ _ _ _ _ h0 (by omega) hn h).mono ?_; rintro e w' ⟨rfl, rfl⟩))
  go_loop [10, 11] (fun a b => a = .int .i64 0 ∧ b = .int .i64 (-1)) (fun _ _ => 0)
  case atStart => exact ⟨rfl, rfl⟩
  case round =>
    obtain ⟨rfl, rfl⟩ := hrel
    go_wp2
    go_ret2
    exact ⟨rfl, rfl⟩
theorem get_ok (A : Option Addr) (n c k : Nat) (x : Int) (l : List UInt8) (w : World) (hr : Rd w w.heap.size 1 A n (bys l)) (hnc : n ≤ c) (hkm : (k : Int) + wid x ≤ n) (hn : n ≤ 140737488355328) :
    Calls Tryd.prog 42 #[.slice A n c, .int .i64 k, .int .i64 x] w fun e w' =>
      e = .returned (.tuple #[.int .i64 (leN ((l.drop k).take (wid x).toNat)), .int .i64 0]) ∧ Below w.heap.size w w' := by
  have hb := wid_bd x
  obtain ⟨m, hm⟩ : ∃ m : Nat, wid x = m := ⟨(wid x).toNat, by omega⟩
  have Hm := Lib.hid hm
  have hcut := cut_ok A n c k m l w hr hnc (by omega) hn
  have hm7 : m ≤ 7 := by omega
  generalize hL : (l.drop k).take m = L at *
  have HL := Lib.hid hL
  rw [Hm.out]
  clear hm hL hb hr hkm
  go_enter Tryd.func42, Tryd.ntmps42
  go_wp2_with fail
  refine (wide_any x _).mono ?_
  rintro e w' ⟨rfl, rfl⟩
  rw [Hm.out]
  go_wp2_with fail
  refine hcut.mono ?_
  rintro e w1 ⟨v, rfl, hown, hbel⟩
  obtain ⟨A1, c1, rfl, _, _⟩ := own_form hown
  have hr1 := Rd.of_own hown
  have hlen : L.length = m := hr1.blen
  clear hown hcut
  go_wp2_with fail
  go_loop [10, 11] (fun a b => ∃ j : Nat, j ≤ m ∧ b = .int .i64 ((j : Int) - 1) ∧ a = .int .i64 (leN (L.drop j))) (fun _ b => (intOf b + 1).toNat)
  case atStart => exact ⟨m, Nat.le_refl _, rfl, by rw [List.drop_of_length_le (by omega)]; rfl⟩
  case round =>
    obtain ⟨j, hj, rfl, rfl⟩ := hrel
    rcases Nat.eq_zero_or_pos j with h0 | h0
    · subst h0
      go_wp2
      go_ret2
      refine ⟨?_, hbel⟩
      rw [HL.out]; rfl
    · obtain ⟨i, rfl⟩ : ∃ i, j = i + 1 := ⟨j - 1, by omega⟩
      obtain ⟨b, o, u, rfl, hb, hx, hu, hc⟩ := hr1.byte (k := i) (by omega)
      have hd := leN_drop L i u hx
      have hn0 := leN_nn (L.drop (i + 1))
      have hn1 : leN (L.drop (i + 1)) < 281474976710656 := by
        have h7 := leN_lt7 (L.drop i) (by rw [List.length_drop]; omega)
        omega
      have Hd := Lib.hid hd
      have hor := or_i64_8 _ _ hn0 hn1 hu
      clear hd
      generalize leN (L.drop (i + 1)) = y at *
      go_wp2
      go_round
      case rel => exact ⟨i, by omega, by go_num, by rw [Hd.out]; go_num⟩
      case measure => simp [intOf]
end Go.Proofs.YtelaliokmmaopaaDoor
