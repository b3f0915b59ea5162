/- Contracts of the reference's Rising, Right of batches. -/
import Derived.Test.YthflnndjjhifeaaWalP
namespace Go.Proofs.Ythflnndjjhifeaa
open Go.RowKit

theorem RdPcs.piece {w : World} {B n : Nat} {A : Option Addr} {ls : List (List Int × List UInt8)} (h : RdPcs w B 1 A n ls) {j : Nat} (hj : j < n) :
    ∃ b o x l Ab nb cb, A = some ⟨b, o, none⟩ ∧ b < B ∧ ls[j]? = some ([x], l) ∧ i64B x ∧ w.cell? ⟨b, o + j * 2, none⟩ = some (.int .i64 x) ∧ w.cell? ⟨b, o + j * 2 + 1, none⟩ = some (.slice Ab nb cb) ∧ Rd w B 1 Ab nb (bys l) ∧ nb ≤ cb := by
  obtain ⟨b, o, ⟨zs, bl⟩, rfl, hbb, hx, hzl, hzb, hzc, v, hvc, Ab, nb, cb, rfl, hvr, hvn⟩ := h.at_ hj
  obtain ⟨x, rfl⟩ : ∃ x, zs = [x] := by
    match zs, hzl with
    | [x], _ => exact ⟨x, rfl⟩
  exact ⟨b, o, x, bl, Ab, nb, cb, rfl, hbb, hx, hzb x (by simp), by simpa using hzc 0 x rfl, by simpa using hvc, hvr, hvn⟩
theorem nos_drop2 {ls : List (List Int × List UInt8)} {j : Nat} {x : Int} {l : List UInt8} (h : ls[j]? = some ([x], l)) : (nosOf ls).drop j = x :: (nosOf ls).drop (j + 1) := nos_drop h
theorem wfits3 (z : Int) : fitsB 3 [z] = (decide (0 ≤ z) && decide (z < 16777216)) := by simp [fitsB]
set_option maxHeartbeats 4000000 in
set_option maxRecDepth 100000 in
theorem refris_any (A : Option Addr) (n c : Nat) (ls : List (List Int × List UInt8)) (w : World) (hr : RdPcs w w.heap.size 1 A n ls) (hn : n ≤ 1099511627776) :
    Calls Try.prog 42 #[.slice A n c] w fun e w' => e = .returned (.bool (risB (-1) (nosOf ls))) ∧ ∃ q, w' = w.drewN q := by
  go_enter Try.func42, Try.ntmps42
  go_wp2_with fail
  go_loopw [3] (fun i wr => ∃ (j : Nat) (y : Int), j ≤ n ∧ i = .int .i64 j ∧ (j = 0 → y = -1) ∧ (0 < j → ∃ l', ls[j - 1]? = some ([y], l')) ∧ Hid (risB (-1) (nosOf ls) = risB y ((nosOf ls).drop j)) ∧ ∃ q, wr = w.drewN q) (fun i _ => n - (intOf i).toNat)
  case atStart => exact ⟨0, -1, Nat.zero_le _, rfl, fun _ => rfl, fun h => by omega, rfl, 0, rfl⟩
  case round =>
    obtain ⟨j, y, hj, rfl, hy0, hy1, hris, q, rfl⟩ := hrel
    by_cases hlt : j < n
    · obtain ⟨b, o, x, bl, Ab, nb, cb, rfl, hbb, hx, hxb, k0, k1, _, _⟩ := hr.piece hlt
      have hnd := nos_drop hx
      have hri : risB y ((nosOf ls).drop j) = ((fitsB 3 [x] && decide (y < x)) && risB x ((nosOf ls).drop (j + 1))) := by rw [hnd]; rfl
      have Hri := Lib.hid (hris.out.trans hri)
      have HX := Lib.hid hx
      have hjn : (j : Int) < (n : Int) := by omega
      have hj0 : (0 : Int) ≤ (j : Int) := by omega
      unfold i64B at hxb
      obtain ⟨hxa, hxb2⟩ := hxb
      clear hnd hri hx hris k1
      by_cases h1 : x < 0
      · have hf : risB (-1) (nosOf ls) = false := by rw [Hri.out, wfits3, decide_eq_false (by omega)]; rfl
        have Hf := Lib.hid hf
        have g1 : decide (x < 0) = true := by simp; omega
        clear hf hy0 hy1
        go_wp2_with fail
        go_quiet (fail)
        go_wp2
        go_ret
        exact ⟨ret_bool (by rw [Hf.out]), by first | exact ⟨_, rfl⟩ | exact ⟨_, World.drewN_drewN _ _ _⟩⟩
      by_cases h2 : 16777216 ≤ x
      · have hf : risB (-1) (nosOf ls) = false := by rw [Hri.out, wfits3, decide_eq_false (show ¬ x < 16777216 by omega)]; simp
        have Hf := Lib.hid hf
        have g1 : decide (x < 0) = false := by simp; omega
        have g2 : decide (16777216 ≤ x) = true := by simp; omega
        clear hf hy0 hy1
        go_wp2_with fail
        go_quiet (fail)
        go_wp2
        go_ret
        exact ⟨ret_bool (by rw [Hf.out]), by first | exact ⟨_, rfl⟩ | exact ⟨_, World.drewN_drewN _ _ _⟩⟩
      have g1 : decide (x < 0) = false := by simp; omega
      have g2 : decide (16777216 ≤ x) = false := by simp; omega
      have hfx : fitsB 3 [x] = true := by rw [wfits3]; simp; omega
      rw [hfx, Bool.true_and] at Hri
      clear hfx
      rcases Nat.eq_zero_or_pos j with hz | hp
      · subst hz
        obtain rfl := hy0 rfl
        have hn : risB (-1) (nosOf ls) = risB x ((nosOf ls).drop (0 + 1)) := by rw [Hri.out, decide_eq_true (by omega), Bool.true_and]
        have Hn := Lib.hid hn
        simp only [Nat.zero_mul, Nat.add_zero] at k0
        clear hn hy1 hy0 Hri
        go_wp2_with fail
        go_quiet (fail)
        go_wp2_with fail
        go_roundw
        case rel => exact ⟨1, x, by omega, rfl, fun h => by omega, fun _ => ⟨bl, HX.out⟩, Hn, _, rfl⟩
        case measure => simp [intOf]; omega
      · obtain ⟨l', hl'⟩ := hy1 hp
        obtain ⟨b', o', x', bl', Ab', nb', cb', hA', hbb', hx', hxb', k0', _, _, _⟩ := hr.piece (show j - 1 < n by omega)
        injection hA' with hA'
        injection hA' with hb1 hb2 _
        subst hb1 hb2
        have hxy : x' = y := by rw [hx'] at hl'; injection hl' with e; injection e with e1 _; injection e1
        subst hxy
        obtain ⟨m, hm⟩ : ∃ m, j - 1 = m := ⟨_, rfl⟩
        rw [hm] at k0'
        have e1 : IntKind.i64.wrap ((j : Int) - 1) = (m : Int) := by rw [IntWalk.i64_in _ (by omega)]; omega
        have e1b : (j : Int) - 1 = (m : Int) := by omega
        have hm0 : (0 : Int) ≤ (m : Int) := by omega
        have hmn : (m : Int) < (n : Int) := by omega
        have hjp : (0 : Int) < (j : Int) := by omega
        have g3 : decide ((0 : Int) < (j : Int)) = true := by simp; omega
        clear hl' hx' hm hy0 hy1
        by_cases hxy : x ≤ x'
        · have hf : risB (-1) (nosOf ls) = false := by rw [Hri.out, decide_eq_false (by omega), Bool.false_and]
          have Hf := Lib.hid hf
          have g4 : decide (x ≤ x') = true := by simp; omega
          clear hf Hri
          go_wp2_with fail
          go_quiet (fail)
          go_wp2
          go_ret
          exact ⟨ret_bool (by rw [Hf.out]), by first | exact ⟨_, rfl⟩ | exact ⟨_, World.drewN_drewN _ _ _⟩⟩
        · have hn : risB (-1) (nosOf ls) = risB x ((nosOf ls).drop (j + 1)) := by rw [Hri.out, decide_eq_true (by omega), Bool.true_and]
          have Hn := Lib.hid hn
          have g4 : decide (x ≤ x') = false := by simp; omega
          clear hn Hri
          go_wp2_with fail
          go_quiet (fail)
          go_wp2_with fail
          go_roundw
          case rel => exact ⟨j + 1, x, by omega, by go_num, fun h => by omega, fun _ => ⟨bl, HX.out⟩, Hn, _, rfl⟩
          case measure => simp [intOf]; omega
    · have : j = n := by omega
      subst this
      have hln := hr.1
      have hnil : risB (-1) (nosOf ls) = true := by
        rw [hris.out, List.drop_of_length_le (by simp [nosOf]; omega)]; rfl
      have Hnil := Lib.hid hnil
      clear hnil hln hy0 hy1
      go_wp2
      go_ret
      exact ⟨ret_bool (by rw [Hnil.out]), _, rfl⟩
end Go.Proofs.Ythflnndjjhifeaa
