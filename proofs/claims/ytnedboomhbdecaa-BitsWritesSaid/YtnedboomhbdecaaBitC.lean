/- Contracts of the reference for bits: Bytes. -/
import Derived.Test.YtnedboomhbdecaaBitA
namespace Go.Proofs.Ytnedboomhbdecaa
open Go.RowKit

theorem natOf_win (l : List Bool) (s k : Nat) (b : Bool) (h : l[s]? = some b) : natOf ((l.drop s).take (k + 1)) = b.toNat + 2 * natOf ((l.drop (s + 1)).take k) := by
  obtain ⟨hk, rfl⟩ := List.getElem?_eq_some_iff.1 h
  rw [List.drop_eq_getElem_cons hk, List.take_succ_cons, natOf]
theorem natOf_out (l : List Bool) (s k : Nat) (h : l.length ≤ s) : natOf ((l.drop s).take k) = 0 := by
  rw [List.drop_of_length_le h]; simp [natOf]

set_option maxHeartbeats 1000000 in
theorem refbytes_any (B : Nat) (A : Option Addr) (n c : Nat) (l : List Bool) (w : World) (hr : Rd w B 1 A n (its (bnums l))) (hB : B ≤ w.heap.size) (hn : n ≤ 100000000) :
    Calls Try.prog 33 #[.slice A n c] w fun e w' => ∃ r, e = .returned r ∧ w'.ownsRow w.heap.size 5 1 r ((n + 7) / 8) (bys (packB l)) ∧ Below w.heap.size w w' := by
  have hll := hr.ilen
  rw [bnums_len] at hll
  have Hll := Lib.hid hll
  clear hll
  go_enter Try.func33, Try.ntmps33
  go_wp2_with fail
  go_loopw [3, 4] (fun o i wr => ∃ j : Nat, j ≤ (n + 7) / 8 ∧ i = .int .i64 (8 * (j : Int)) ∧ wr.ownsRow w.heap.size 5 1 o j (bys ((List.range j).map (byteAt l))) ∧ Below w.heap.size w wr) (fun _ i _ => n + 8 - (intOf i).toNat)
  case atStart => exact ⟨0, Nat.zero_le _, rfl, own_nilB _ _ _, Below.refl _ _⟩
  case round =>
    obtain ⟨j, hj, rfl, hown, hbw⟩ := hrel
    by_cases hlt : 8 * j < n
    · go_wp2_with fail
      go_loop [5, 6] (fun z k => ∃ m : Nat, m ≤ 8 ∧ k = .int .i64 ((m : Int) - 1) ∧ z = .int .i64 ((natOf ((l.drop (8 * j + m)).take (8 - m)) : Nat) : Int)) (fun _ k => (intOf k + 1).toNat)
      case atStart => exact ⟨8, by omega, rfl, by simp [natOf]⟩
      case round =>
        obtain ⟨m, hm, rfl, rfl⟩ := hrel
        rcases Nat.eq_zero_or_pos m with h0 | h0
        · subst h0
          have hby := byteAt_nat l j
          have hlt2 := (byteAt l j).toNat_lt
          have hsz := hbw.size
          rw [show 8 * j + 0 = 8 * j by omega, show 8 - 0 = 8 by omega, ← hby]
          have hwr : IntKind.u8.wrap (((byteAt l j).toNat : Nat) : Int) = (((byteAt l j).toNat : Nat) : Int) := by rw [IntKind.wrap_u8]; omega
          clear hby
          go_wp2_with (
            at_builtin
            refine ap_bys (hown.alloc _) (Rd.oneB wr _ (u := byteAt l j) (by first | rfl | exact hwr | omega)) (hbw.alloc hbw.size _) (by simp; omega) (by omega) rfl rfl rfl ?_
            intro v' w' hown' hb' _ _)
          go_roundw
          case rel => exact ⟨j + 1, by omega, by go_num, by rw [List.range_succ, List.map_append]; exact hown', hb'⟩
          case measure => first | (simp [intOf]; omega) | simp [intOf]
        · obtain ⟨i, rfl⟩ : ∃ i, m = i + 1 := ⟨m - 1, by omega⟩
          have hT := natOf_lt ((l.drop (8 * j + (i + 1))).take (8 - (i + 1)))
          have hp : 2 ^ ((l.drop (8 * j + (i + 1))).take (8 - (i + 1))).length ≤ 2 ^ 8 := Nat.pow_le_pow_right (by omega) (by rw [List.length_take]; omega)
          have hT2 : natOf ((l.drop (8 * j + (i + 1))).take (8 - (i + 1))) ≤ 256 := by omega
          by_cases hin : 8 * j + i < n
          · obtain ⟨b, o, u, rfl, hbb, hx, hcl⟩ := hr.num hin
            obtain ⟨y, hy, rfl⟩ := bnums_at hx
            have hcl' := (hbw.cell (p := ⟨b, o + (8 * j + i), none⟩) (by show b < _; omega)).trans hcl
            have hst := natOf_win l (8 * j + i) (8 - (i + 1)) y hy
            rw [show 8 - (i + 1) + 1 = 8 - i by omega, show 8 * j + i + 1 = 8 * j + (i + 1) by omega] at hst
            have hy1 : y.toNat ≤ 1 := by cases y <;> decide
            have Hst := Lib.hid hst
            clear hst hx hy hcl hT hp
            generalize natOf ((l.drop (8 * j + (i + 1))).take (8 - (i + 1))) = T at *
            generalize y.toNat = Y at *
            go_wp2_with fail
            go_round
            case rel => exact ⟨i, by omega, by go_num, by rw [Hst.out]; go_num⟩
            case measure => first | (simp [intOf]; omega) | simp [intOf]
          · have hst := natOf_out l (8 * j + i) (8 - i) (by have := Hll.out; omega)
            have hst2 := natOf_out l (8 * j + (i + 1)) (8 - (i + 1)) (by have := Hll.out; omega)
            have Hst := Lib.hid hst
            rw [hst2]
            clear hst hst2 hT hp hT2
            go_wp2_with fail
            go_round
            case rel => exact ⟨i, by omega, by go_num, by rw [Hst.out]; rfl⟩
            case measure => first | (simp [intOf]; omega) | simp [intOf]
    · have : j = (n + 7) / 8 := by omega
      subst this
      go_wp2
      go_ret
      exact ⟨_, rfl, by unfold packB; rw [Hll.out]; exact hown, hbw⟩
end Go.Proofs.Ytnedboomhbdecaa
