/- Contracts of dos.Get, of the reference's number and Parse. -/
import Derived.Test.YtmijgcmlpdehkaaDos5
namespace Go.Proofs.Ytmijgcmlpdehkaa
open Go.RowKit

theorem chr_get' (s : ByteArray) (j : Nat) (hj : j < s.size) : chr s.data.toList j = (s[j]).toNat := chr_get s j hj
set_option maxHeartbeats 1000000 in
theorem refnum_any (s : ByteArray) (a m : Nat) (w : World) (h : a + m ≤ s.size) (hm : m ≤ 4) (hs : s.size ≤ 100) :
    Calls Try.prog 14 #[.string s, .int .i64 (a : Int), .int .i64 (m : Int)] w fun e w' => e = .returned (.int .i64 (numD s.data.toList a m)) ∧ w = w' := by
  go_enter Try.func14, Try.ntmps14
  go_wp2_with fail
  go_loop [7, 8] (fun v i => ∃ j : Nat, j ≤ m ∧ i = .int .i64 ((a + j : Nat) : Int) ∧ Hid (∀ x, x < j → digB s.data.toList (a + x) = true) ∧ v = .int .i64 (valF s.data.toList a j)) (fun _ i => (a + m) - (intOf i).toNat)
  case atStart => exact ⟨0, Nat.zero_le _, rfl, Lib.hid (fun x hx => by omega), rfl⟩
  case round =>
    obtain ⟨j, hj, rfl, hok, rfl⟩ := hrel
    by_cases hlt : j < m
    · skip
      have hbd := valF_bd4 s.data.toList a j (by omega) hok.out
      have hjs : ((a + j : Nat) : Int) < (s.size : Int) := by omega
      obtain ⟨i, hi⟩ : ∃ i, a + j = i := ⟨_, rfl⟩
      have hi1 : (i : Int) < (a : Int) + (m : Int) := by omega
      have Hi := Lib.hid hi
      have his : i < s.size := by omega
      have hch := chr_get s i his
      rw [hi]
      clear hi hjs
      by_cases hd : 48 ≤ (s[i]).toNat ∧ (s[i]).toNat ≤ 57
      · obtain ⟨hd1, hd2⟩ := hd
        have hdg : digB s.data.toList (a + j) = true := by unfold digB; rw [Hi.out, hch]; simp; omega
        have hvs : valF s.data.toList a (j + 1) = 10 * valF s.data.toList a j + (((s[i]).toNat : Int) - 48) := by rw [valF, Hi.out, hch]
        have Hdg := Lib.hid hdg
        have Hvs := Lib.hid hvs
        have hd3 : (48 : Int) ≤ ((s[i]).toNat : Int) := by omega
        have hd4 : ((s[i]).toNat : Int) ≤ 57 := by omega
        clear hch hdg hvs
        generalize valF s.data.toList a j = V at *
        go_wp2_with fail
        go_round
        case rel => exact ⟨j + 1, by omega, congrArg (Value.int .i64) (by have := Hi.out; omega), Lib.hid (fun x hx => by
            by_cases e : x = j
            · subst e; exact Hdg.out
            · exact hok.out x (by omega)), by rw [Hvs.out]⟩
        case measure => simp [intOf]; have := Hi.out; omega
      · have hdg : digB s.data.toList (a + j) = false := by unfold digB; rw [Hi.out, hch]; simp; omega
        have hno := numD_no s.data.toList a m j hlt hdg
        have Hno := Lib.hid hno
        have hd3 : ((s[i]).toNat : Int) < 48 ∨ (48 : Int) ≤ ((s[i]).toNat : Int) ∧ (57 : Int) < ((s[i]).toNat : Int) := by omega
        clear hch hdg hno hd
        rcases hd3 with hd3 | ⟨hd3, hd4⟩
        · go_wp2
          go_ret
          exact ⟨ret_int (by rw [Hno.out]), rfl⟩
        · go_wp2
          go_ret
          exact ⟨ret_int (by rw [Hno.out]), rfl⟩
    · have : j = m := by omega
      subst this
      have hy := numD_yes s.data.toList a j hok.out
      have Hy := Lib.hid hy
      clear hy
      go_wp2
      go_ret
      exact ⟨ret_int (by rw [Hy.out]), rfl⟩
end Go.Proofs.Ytmijgcmlpdehkaa
