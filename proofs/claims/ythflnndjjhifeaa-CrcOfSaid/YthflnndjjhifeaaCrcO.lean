/- The walk of CrcOf. -/
import Derived.Test.YthflnndjjhifeaaCrcL
namespace Go.Proofs.Ythflnndjjhifeaa
open Go.RowKit

set_option maxHeartbeats 1000000 in
theorem crcOf_walk (A : Option Addr) (n c : Nat) (ls : List (List UInt8)) (w : World) (hr : RdRows w w.heap.size A n ls) (_hnc : n ≤ c) (_hcm : c ≤ maxLen) :
    Calls Try.prog 5 #[.slice A n c] w fun e w' => e = .returned (.bool true) ∧ Below w.heap.size w w' := by
  have hcm := _hcm
  unfold maxLen at hcm
  by_cases h50 : 50 < n
  · go_enter Try.func5, Try.ntmps5
    go_wp2_with fail
    refine (crcwakes_any w).mono ?_
    rintro e w1 ⟨rfl, hb1⟩
    go_wp2
    go_ret
    exact ⟨rfl, hb1⟩
  have Hlen := Lib.hid hr.len
  go_enter Try.func5, Try.ntmps5
  go_wp2_with fail
  refine (crcwakes_any w).mono ?_
  rintro e w1 ⟨rfl, hb1⟩
  go_wp2_with fail
  refine (new_any w1).mono ?_
  rintro e w2 ⟨g, rfl, hg, hbk, hb2⟩
  have hb2' : Below w.heap.size w w2 := hb1.trans (hb2.mono hb1.size)
  have hs1 := hb1.size
  go_wp2_with fail
  go_loopw [3, 5, 14] (fun v _ i wr => ∃ j : Nat, j ≤ n ∧ i = .int .i64 j ∧ (ls.take j).flatten.length ≤ 500 * j ∧ wr.ownsRow w2.heap.size 5 1 v (ls.take j).flatten.length (bys (ls.take j).flatten) ∧
      Bk wr g 68 (crcCells (crcS crcIni (ls.take j).flatten) (ls.take j).flatten.length) ∧ Below w.heap.size w wr ∧ w2.heap.size ≤ wr.heap.size) (fun _ _ i _ => n - (intOf i).toNat)
  case atStart => exact ⟨0, Nat.zero_le _, rfl, by simp, own_nilB _ _ _, hbk, hb2', Nat.le_refl _⟩
  case round =>
    obtain ⟨j, hj, rfl, hle, hown, hbr, hbw, hsz⟩ := hrel
    by_cases hlt : j < n
    · obtain ⟨b, o, v, l, rfl, hbb, hx, hc, A2, n2, c2, rfl, hr2, hnc2⟩ := hr.at_ hlt
      have hc' := (hbw.cell (p := ⟨b, o + j, none⟩) hbb).trans hc
      have hl2 := hr2.blen
      by_cases h500 : 500 < n2
      · go_wp2
        go_ret
        exact ⟨rfl, hbw⟩
      have hst : (ls.take (j + 1)).flatten = (ls.take j).flatten ++ l := by rw [take_step hx]; simp
      have Hst := Lib.hid hst
      have Hl2 := Lib.hid hl2
      have HC := Lib.hid hc
      clear hc hx hst hl2
      generalize (ls.take j).flatten = L at *
      have hrr := hr2.below hbw (Nat.le_refl _)
      have hgl := hbk.lt
      go_wp2_with (
        at_builtin
        refine ap_bys hown hrr (Below.refl _ wr) hsz (by omega) rfl rfl rfl ?_
        intro v3 w3 hown3 hb3 _ _
        have hbw3 : Below w.heap.size w w3 := hbw.trans (hb3.mono (by omega))
        have hc3 := (hbw3.cell (p := ⟨b, o + j, none⟩) hbb).trans HC.out
        have hbr3 := hbr.below hb3 hgl
        have hs3 := hb3.size
        clear hb3 hbr hbw hrr hown hc')
      have hrr3 := hr2.below hbw3 (Nat.le_refl _)
      refine (add_any g A2 n2 c2 w.heap.size l _ _ w3 hbr3 hrr3 (by omega) (by omega) (by omega)).mono ?_
      rintro e w4 ⟨rfl, hb4, hgr⟩
      have hbw4 := gb_below hgr hbw3 hbw3.size (by omega)
      have hown4 := hown3.kept hgr (.inr (by
        intro e
        have h1 := (hown3.lt g e).1
        omega))
      have hs4 := hgr.size
      obtain ⟨A5, c5, rfl, _, _⟩ := own_form hown4
      have hr5 := Rd.of_own hown4
      clear hown3 hbr3 hrr3
      go_wp2_with fail
      refine (sum_any g _ _ w4 hb4).mono ?_
      rintro e w5 ⟨rfl, rfl⟩
      have hco : crcOut (crcS (crcS crcIni L) l) = crcOf (L ++ l) := by rw [crcOf, crcS_app]
      rw [hco]
      clear hco
      go_wp2_with fail
      refine (refcrc_any A5 _ c5 _ (L ++ l) w4 hr5 (by omega)).mono ?_
      rintro e w5 ⟨rfl, rfl⟩
      generalize ((crcOf (L ++ l)).toNat : Int) = y at *
      go_wp2_with fail
      refine (len_any g _ _ w4 hb4).mono ?_
      rintro e w5 ⟨rfl, rfl⟩
      rw [Int.natCast_add]
      go_wp2_with fail
      go_roundw
      case rel => exact ⟨j + 1, by omega, by go_num, by rw [Hst.out, List.length_append, Hl2.out]; omega, by rw [Hst.out, List.length_append, Hl2.out]; exact hown4, by rw [Hst.out, crcS_app, List.length_append, Hl2.out]; exact hb4, hbw4, by omega⟩
      case measure => simp [intOf]; omega
    · have : j = n := by omega
      subst this
      rw [List.take_of_length_le (by have := Hlen.out; omega)] at hown hle
      have hl5 := hle
      obtain ⟨K, hK⟩ : ∃ K, ls.flatten.length = K := ⟨_, rfl⟩
      rw [hK] at hown hle
      have HK := Lib.hid hK
      have Hl5 := Lib.hid hl5
      clear hK hl5
      obtain ⟨A5, c5, rfl, _, _⟩ := own_form hown
      have hr5 := Rd.of_own hown
      clear hbr hown
      go_wp2_with fail
      refine (crcof_any A j c ls wr ((hr.below hbw (Nat.le_refl _)).more hbw.size) (by omega) (by have := HK.out; omega)).mono ?_
      rintro e w5 ⟨rfl, hb5⟩
      go_wp2_with fail
      refine (refcrc_any A5 _ c5 wr.heap.size _ w5 (hr5.below hb5 (Nat.le_refl _)) (by omega)).mono ?_
      rintro e w6 ⟨rfl, rfl⟩
      generalize ((crcOf ls.flatten).toNat : Int) = y at *
      go_wp2_with fail
      go_ret
      exact ⟨rfl, hbw.trans (hb5.mono hbw.size)⟩
end Go.Proofs.Ythflnndjjhifeaa
