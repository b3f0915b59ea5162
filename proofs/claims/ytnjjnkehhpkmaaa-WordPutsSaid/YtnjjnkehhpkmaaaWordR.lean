/- The walk of WordRows. -/
import Derived.Test.YtnjjnkehhpkmaaaWordL
namespace Go.Proofs.Ytnjjnkehhpkmaaa
open Go.RowKit

theorem putB_putB (b : List UInt8) (w : Nat) (l r : List Int) : putB (putB b w l) w r = putB b w (l ++ r) := by
  simp [putB, List.flatMap_append]
theorem putB_at (w : Nat) (l : List Int) (j : Nat) (z : Int) (h : l[j]? = some z) : ((putB [] w l).drop (j * w)).take w = leB z w := by
  have hj : j < l.length := by
    rcases Nat.lt_or_ge j l.length with h1 | h1
    · exact h1
    · rw [List.getElem?_eq_none h1] at h; cases h
  have e : l = l.take j ++ z :: l.drop (j + 1) := by
    rw [List.getElem?_eq_getElem hj] at h
    injection h with h
    subst h
    rw [← List.drop_eq_getElem_cons hj, List.take_append_drop]
  have hA : (putB [] w (l.take j)).length = j * w := by rw [putB_len, List.length_take, Nat.min_eq_left (by omega)]; simp
  have e2 : putB [] w l = putB [] w (l.take j) ++ (leB z w ++ (l.drop (j + 1)).flatMap fun n => leB n w) := by
    conv => lhs; rw [e]
    simp [putB, List.flatMap_append, List.flatMap_cons]
  rw [e2, ← hA, List.drop_left, List.take_append_of_le_length (by rw [leB_len]; omega), List.take_of_length_le (by rw [leB_len]; omega)]
theorem leN_leB_u16 (z : Int) (k : Nat) (h0 : 0 ≤ z) (h1 : z ≤ 65535) (hk : 2 ≤ k) : leN (leB z k) = z := by
  rw [leN_leB]
  apply Int.emod_eq_of_lt h0
  have := ord_top z k h0 h1 hk
  have hp : (0 : Int) < 256 ^ k := Int.pow_pos (by omega)
  rcases Int.lt_or_le z (256 ^ k) with h | h
  · exact h
  · have : 1 ≤ z / 256 ^ k := (Int.le_ediv_iff_mul_le hp).2 (by omega)
    omega

set_option maxHeartbeats 1000000 in
theorem wordRows_walk (A : Option Addr) (n c : Nat) (l : List Int) (x : Int) (w : World) (hr : Rd w w.heap.size 1 A n (l.map (Value.int .u16))) (hnc : n ≤ c) (_hcm : c ≤ maxLen) (hw : ∀ z ∈ l, 0 ≤ z ∧ z ≤ 65535)
    (_hx : -9223372036854775808 ≤ x ∧ x ≤ 9223372036854775807) :
    Calls Try.prog 5 #[.slice A n c, .int .i64 x] w fun e w' => e = .returned (.bool true) ∧ Below w.heap.size w w' := by
  have hcm := _hcm
  unfold maxLen at hcm
  by_cases h100 : 100 < n
  · go_enter Try.func5, Try.ntmps5
    go_wp2_with fail
    refine (wakes_any _).mono ?_
    rintro e w1 ⟨rfl, hb1⟩
    go_wp2
    go_ret
    exact ⟨rfl, hb1⟩
  obtain ⟨k, hk⟩ : ∃ k : Nat, max (wid x) 2 = k := ⟨(max (wid x) 2).toNat, by omega⟩
  have hwb := wid_bd x
  have hk2 : 2 ≤ k := by omega
  have hk7 : k ≤ 7 := by omega
  have hwk : wid (k : Int) = k := wid_in _ (by omega) (by omega)
  have hwkn : (wid (k : Int)).toNat = k := by omega
  have hmax : (if wid x < 2 then (2 : Int) else wid x) = k := by split <;> omega
  have hlen : l.length = n := by have := hr.1; simpa using this
  have Hw := Lib.hid hw
  have Hl := Lib.hid hlen
  have Hwk := Lib.hid hwk
  have Hwkn := Lib.hid hwkn
  have num16 : ∀ j, j < n → ∃ b o z, A = some ⟨b, o, none⟩ ∧ b < w.heap.size ∧ l[j]? = some z ∧ 0 ≤ z ∧ z ≤ 65535 ∧ w.cell? ⟨b, o + j, none⟩ = some (.int .u16 z) := by
    intro j hj
    obtain ⟨b, o, u, hA, hb, hx, hc⟩ := hr.at_ hj
    simp only [List.getElem?_map, Option.map_eq_some_iff] at hx
    obtain ⟨y, hy, rfl⟩ := hx
    have := hw y (List.mem_of_getElem? hy)
    exact ⟨b, o, y, hA, hb, hy, this.1, this.2, hc⟩
  have Hn := Lib.hid num16
  clear hw hlen hk hwb hwk hwkn num16 hr
  go_enter Try.func5, Try.ntmps5
  go_wp2_with fail
  refine (wakes_any _).mono ?_
  rintro e w1 ⟨rfl, hb1⟩
  go_wp2_with fail
  refine (refwide_any x w1).mono ?_
  rintro e w2 ⟨rfl, rfl⟩
  go_wp2_with fail
  clear hmax
  go_loopw [6, 25] (fun v i wr => ∃ j : Nat, j ≤ n ∧ i = .int .i64 j ∧ ∃ B c2, v = .slice B (j * k) c2 ∧ j * k ≤ c2 ∧ Rd wr wr.heap.size 1 B (j * k) (bys (putB [] k (l.take j))) ∧ Below w.heap.size w wr)
    (fun _ i _ => n - (intOf i).toNat)
  case atStart => exact ⟨0, Nat.zero_le _, rfl, none, 0, by simp, by simp, by simp only [Nat.zero_mul, List.take_zero]; exact Rd.empty, hb1⟩
  case round =>
    obtain ⟨j, hj, rfl, B, c2, rfl, hjc, hrB, hbw⟩ := hrel
    by_cases hlt : j < n
    · obtain ⟨b, o, z, rfl, hbb, hx, hz0, hz1, hc⟩ := Hn.out j hlt
      have hc' := (hbw.cell (p := ⟨b, o + j, none⟩) hbb).trans hc
      have HX := Lib.hid hx
      have hjk : j * k ≤ 100 * 7 := Nat.mul_le_mul (by omega) hk7
      clear hx hc
      go_wp2_with fail
      refine (put_any B _ (j * k) c2 1 1 k _ [z] _ ((hrB.alloc (Nat.le_refl _) _).more (by simp)) ((Rd.oneI wr _ z).more (by simp)) (by omega) (by omega)).mono ?_
      rintro e w3 ⟨v, rfl, hown, hb3⟩
      rw [Hwkn.out, putB_putB] at hown
      obtain ⟨A3, c3, rfl, hc3, _⟩ := own_form hown
      have hs := hbw.size
      have hb3' : Below w.heap.size w w3 := (hbw.alloc hs _).trans (hb3.mono (by simp; omega))
      have hr3 := Rd.of_own hown
      clear hown hb3 hbw hrB
      go_wp2_with fail
      go_roundw
      case rel => exact ⟨j + 1, by omega, by go_num, A3, c3, by rw [Nat.add_mul, Nat.one_mul], by rw [Nat.add_mul]; exact hc3, by rw [Nat.add_mul, take_step HX.out]; exact hr3, hb3'⟩
      case measure => simp [intOf]; omega
    · have : j = n := by omega
      subst this
      have hjk : j * k ≤ 100 * 7 := Nat.mul_le_mul (by omega) hk7
      rw [List.take_of_length_le (by rw [Hl.out]; omega)] at hrB
      obtain ⟨wo, rfl⟩ : ∃ wo : World, wo = wr := ⟨_, rfl⟩
      go_wp2_with fail
      go_loopw [38] (fun i wr2 => ∃ q : Nat, q ≤ j ∧ i = .int .i64 q ∧ Below wo.heap.size wo wr2) (fun i _ => j - (intOf i).toNat)
      case atStart => exact ⟨0, Nat.zero_le _, rfl, Below.refl _ _⟩
      case round =>
        obtain ⟨q, hq, rfl, hbq⟩ := hrel
        have hbw2 := hbw.trans (hbq.mono hbw.size)
        have hrq := (hrB.below hbq (Nat.le_refl _)).more hbq.size
        by_cases hlt2 : q < j
        · obtain ⟨b, o, z, rfl, hbb, hx, hz0, hz1, hc⟩ := Hn.out q hlt2
          have hc' := (hbw2.cell (p := ⟨b, o + q, none⟩) hbb).trans hc
          have hqk : q * k + k ≤ j * k := by have := Nat.mul_le_mul_right k (show q + 1 ≤ j by omega); rw [Nat.add_mul] at this; omega
          have hget := fun W (hW : Rd W W.heap.size 1 B (j * k) (bys (putB [] k l))) => get_ok B (j * k) c2 (q * k) k _ W hW hjc (by rw [Hwk.out]; omega) (by omega)
          rw [Hwkn.out, putB_at k l q z hx, leN_leB_u16 z k hz0 hz1 hk2] at hget
          rw [Int.natCast_mul] at hget
          have Hget := Lib.hid hget
          clear hget hx hc
          go_wp2_with fail
          refine (Hget.out wr hrq).mono ?_
          rintro e w3 ⟨rfl, hb3⟩
          go_wp2_with fail
          go_roundw
          case rel => exact ⟨q + 1, by omega, by go_num, hbq.trans (hb3.mono hbq.size)⟩
          case measure => simp [intOf]; omega
        · have : q = j := by omega
          subst this
          have hge := get_end B (q * k) c2 ((q * k : Nat) : Int) 1 wr (by omega) (by omega) (by rw [show wid 1 = 1 from by decide]; omega)
          rw [Int.natCast_mul] at hge
          go_wp2_with fail
          refine hge.mono ?_
          rintro e w3 ⟨rfl, rfl⟩
          have hmul : (k : Int) * (q : Int) = (q : Int) * (k : Int) := Int.mul_comm _ _
          go_wp2_with fail
          go_ret
          exact ⟨rfl, hbw2⟩
end Go.Proofs.Ytnjjnkehhpkmaaa
