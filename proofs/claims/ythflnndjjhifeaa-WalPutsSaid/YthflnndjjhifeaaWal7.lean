/- Contract of the reference's Same of batches. -/
import Derived.Test.YthflnndjjhifeaaWal6
import Derived.Deep.RegionHeld3
import Derived.Deep.DrawnRows
namespace Go.Proofs.Ythflnndjjhifeaa
open Go.RowKit

theorem take_at {α : Type} {l r : List α} {j : Nat} {x y : α} (hx : l[j]? = some x) (hy : r[j]? = some y) (h : x ≠ y) : l ≠ r := by
  rintro rfl; rw [hx] at hy; injection hy with hy; exact h hy
set_option maxHeartbeats 1000000 in
set_option maxRecDepth 100000 in
theorem refwsame_any (A : Option Addr) (n c : Nat) (B : Option Addr) (m d : Nat) (ls rs : List (List Int × List UInt8)) (w : World) (hr : RdPcs w w.heap.size 1 A n ls) (hs : RdPcs w w.heap.size 1 B m rs) (hn : n ≤ 1099511627776) (_hm : m ≤ 1099511627776)
    (h5 : ∀ p ∈ ls, p.2.length ≤ 1000000) (h6 : ∀ p ∈ rs, p.2.length ≤ 1000000) :
    Calls Try.prog 34 #[.slice A n c, .slice B m d] w fun e w' => e = .returned (.bool (decide (ls = rs))) ∧ ∃ q, w' = w.drewN q := by
  by_cases hnm : n = m
  · subst hnm
    go_enter Try.func34, Try.ntmps34
    go_wp2_with fail
    go_loopw [5] (fun i wr => ∃ j : Nat, j ≤ n ∧ i = .int .i64 j ∧ Hid (ls.take j = rs.take j) ∧ ∃ q, wr = w.drewN q) (fun i _ => n - (intOf i).toNat)
    case atStart => exact ⟨0, Nat.zero_le _, rfl, Lib.hid (by simp), 0, rfl⟩
    case round =>
      obtain ⟨j, hj, rfl, hall, q, rfl⟩ := hrel
      by_cases hlt : j < n
      · obtain ⟨b, o, x, bl, Ab, nb, cb, rfl, hbb, hx, hxb, k0, k1, hvr, hvn⟩ := hr.piece hlt
        obtain ⟨b', o', y, bl', Ab', nb', cb', rfl, hbb', hy, hyb, k0', k1', hvr', hvn'⟩ := hs.piece hlt
        have hts := take_step hx
        have hts' := take_step hy
        have hjn : (j : Int) < (n : Int) := by omega
        have hj0 : (0 : Int) ≤ (j : Int) := by omega
        have hbl : bl.length = nb := hvr.blen
        have hbl' : bl'.length = nb' := hvr'.blen
        have hq5 : nb ≤ 1000000 := by rw [← hbl]; exact h5 _ (List.mem_of_getElem? hx)
        have hq6 : nb' ≤ 1000000 := by rw [← hbl']; exact h6 _ (List.mem_of_getElem? hy)
        clear hbl hbl'
        by_cases hxy : x = y
        · subst hxy
          have hne : (x != x) = false := by simp
          cases hbb2 : decide (bl = bl') with
          | true =>
            have hstep : ls.take (j + 1) = rs.take (j + 1) := by
              rw [hts, hts', hall.out, of_decide_eq_true hbb2]
            have Hstep := Lib.hid hstep
            have Hb := Lib.hid hbb2
            clear hx hy hts hts' hstep hall hbb2
            go_wp2_with fail
            go_region_held3 (fun w' => w'.cell? ⟨b, o + j * 2, none⟩ = some (.int .i64 x) ∧ w'.cell? ⟨b, o + j * 2 + 1, none⟩ = some (.slice Ab nb cb) ∧ w'.cell? ⟨b', o' + j * 2, none⟩ = some (.int .i64 x) ∧ w'.cell? ⟨b', o' + j * 2 + 1, none⟩ = some (.slice Ab' nb' cb')) (exact ⟨k0, k1, k0', k1'⟩)
              ((go_at_call 26; refine (same_any Ab Ab' nb nb' cb cb' bl bl' (w.drewN (q + 1)) (hvr.keep fun _ _ => rfl) (hvr'.keep fun _ _ => rfl) (by omega) (by omega)).mono ?_; rintro e w1 ⟨rfl, q1, rfl⟩; rw [Hb.out]))
            go_wp2_with fail
            go_roundw
            case rel => exact ⟨j + 1, by omega, by go_num, Hstep, by first | exact ⟨_, rfl⟩ | exact ⟨_, World.drewN_drewN _ _ _⟩⟩
            case measure => simp [intOf]; omega
          | false =>
            have hd : decide (ls = rs) = false := decide_eq_false (take_at hx hy (fun e => by
              injection e with _ e; rw [e] at hbb2; simp at hbb2))
            have Hd := Lib.hid hd
            have Hb := Lib.hid hbb2
            clear hx hy hts hts' hall hbb2 hd
            go_wp2_with fail
            go_region_held3 (fun w' => w'.cell? ⟨b, o + j * 2, none⟩ = some (.int .i64 x) ∧ w'.cell? ⟨b, o + j * 2 + 1, none⟩ = some (.slice Ab nb cb) ∧ w'.cell? ⟨b', o' + j * 2, none⟩ = some (.int .i64 x) ∧ w'.cell? ⟨b', o' + j * 2 + 1, none⟩ = some (.slice Ab' nb' cb')) (exact ⟨k0, k1, k0', k1'⟩)
              ((go_at_call 26; refine (same_any Ab Ab' nb nb' cb cb' bl bl' (w.drewN (q + 1)) (hvr.keep fun _ _ => rfl) (hvr'.keep fun _ _ => rfl) (by omega) (by omega)).mono ?_; rintro e w1 ⟨rfl, q1, rfl⟩; rw [Hb.out]))
            go_wp2
            go_ret
            exact ⟨ret_bool (by rw [Hd.out]), by first | exact ⟨_, rfl⟩ | exact ⟨_, World.drewN_drewN _ _ _⟩⟩
        · have hne : (x != y) = true := by rw [bne_iff_ne]; exact hxy
          have hd : decide (ls = rs) = false := decide_eq_false (take_at hx hy (fun e => hxy (by injection e with e _; injection e)))
          have Hd := Lib.hid hd
          clear hx hy hts hts' hd hall hvr hvr'
          go_wp2_with fail
          go_quiet (fail)
          go_wp2
          go_ret
          exact ⟨ret_bool (by rw [Hd.out]), by first | exact ⟨_, rfl⟩ | exact ⟨_, World.drewN_drewN _ _ _⟩⟩
      · have : j = n := by omega
        subst this
        have hln := hr.1
        have hlm := hs.1
        have hd : decide (ls = rs) = true := decide_eq_true (by
          have h := hall.out
          rwa [List.take_of_length_le (by omega), List.take_of_length_le (by omega)] at h)
        have Hd := Lib.hid hd
        clear hln hlm hd hall
        go_wp2
        go_ret
        exact ⟨ret_bool (by rw [Hd.out]), q, rfl⟩
  · have hd : decide (ls = rs) = false := decide_eq_false (by
      rintro rfl; exact hnm (hr.1.symm.trans hs.1))
    have Hd := Lib.hid hd
    have hne : ((n : Int) != m) = true := by rw [bne_iff_ne]; omega
    clear hd
    go_enter Try.func34, Try.ntmps34
    go_wp2
    go_ret
    exact ⟨ret_bool (by rw [Hd.out]), 0, rfl⟩
end Go.Proofs.Ythflnndjjhifeaa
