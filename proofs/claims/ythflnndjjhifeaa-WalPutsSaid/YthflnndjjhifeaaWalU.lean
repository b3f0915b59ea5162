/- The walk of WalPuts. -/
import Derived.Test.YthflnndjjhifeaaWalG
namespace Go.Proofs.Ythflnndjjhifeaa
open Go.RowKit
attribute [local go_sem ↓] Go.wp_at_zero Go.wp_at_succ

theorem RdPcs.ones {w : World} {B n : Nat} {A : Option Addr} {ls : List (List Int × List UInt8)} (h : RdPcs w B 1 A n ls) : oneNo ls := by
  intro p hp
  obtain ⟨i, hi, rfl⟩ := List.getElem_of_mem hp
  obtain ⟨_, _, q, _, _, hq, h1, _⟩ := h.at_ (i := i) (by have := h.1; omega)
  rw [List.getElem?_eq_getElem hi] at hq
  injection hq with hq
  rw [hq]; exact h1
set_option maxHeartbeats 2000000 in
set_option maxRecDepth 100000 in
theorem walPuts_walk (A : Option Addr) (n c : Nat) (ls : List (List Int × List UInt8)) (A2 : Option Addr) (m c2 : Nat) (l2 : List UInt8) (x : Int) (w : World) (hr : RdPcs w w.heap.size 1 A n ls) (_hnc : n ≤ c) (_hcm : c ≤ maxLen)
    (hr2 : Rd w w.heap.size 1 A2 m (bys l2)) (hmc : m ≤ c2) (hcm2 : c2 ≤ maxLen) (hx : 0 ≤ x ∧ x ≤ 65535) :
    Calls Try.prog 11 #[.slice A n c, .slice A2 m c2, .int .u16 x] w fun e w' => e = .returned (.bool true) ∧ Below w.heap.size w w' := by
  have hcm := _hcm
  unfold maxLen at hcm hcm2
  by_cases h1 : 20 < n
  · have hd : decide ((20 : Int) < (n : Int)) = true := by simp; omega
    go_enter Try.func11, Try.ntmps11
    go_wp2_with fail
    refine (walwakes_any w).mono ?_
    rintro e w1 ⟨rfl, hb1⟩
    go_wp2
    go_ret
    exact ⟨rfl, hb1⟩
  have hd1 : decide ((20 : Int) < (n : Int)) = false := by simp; omega
  by_cases h2 : 100 < m
  · have hd2 : decide ((100 : Int) < (m : Int)) = true := by simp; omega
    go_enter Try.func11, Try.ntmps11
    go_wp2_with fail
    refine (walwakes_any w).mono ?_
    rintro e w1 ⟨rfl, hb1⟩
    go_wp2
    go_ret
    exact ⟨rfl, hb1⟩
  have hd2 : decide ((100 : Int) < (m : Int)) = false := by simp; omega
  have hrW := fun (W : World) (hb : Below w.heap.size w W) => (hr.below hb (Nat.le_refl _)).more hb.size
  have HrW := Lib.hid hrW
  have hrW2 := fun (W : World) (hb : Below w.heap.size w W) => (hr2.below hb (Nat.le_refl _)).more hb.size
  have HrW2 := Lib.hid hrW2
  have Hones := Lib.hid hr.ones
  have Hln := Lib.hid hr.1
  have Hlm := Lib.hid hr2.blen
  clear hrW hrW2
  go_enter Try.func11, Try.ntmps11
  go_wp2_with fail
  refine (walwakes_any w).mono ?_
  rintro e w1 ⟨rfl, hb1⟩
  go_wp2_with fail
  go_loopw [27] (fun i wr => ∃ j : Nat, j ≤ n ∧ i = .int .i64 j ∧ Below w.heap.size w wr) (fun i _ => n - (intOf i).toNat)
  case atStart => exact ⟨0, Nat.zero_le _, rfl, hb1⟩
  case round =>
    obtain ⟨j, hj, rfl, hbw⟩ := hrel
    clear hb1
    by_cases hlt : j < n
    · obtain ⟨b, o, x', bl, Ab, nb, cb, rfl, hbb, hx', hxb, k0, k1, hvr, hvn⟩ := (hr.below hbw (Nat.le_refl _)).piece hlt
      have hbe := hbw.alloc hbw.size (.cells #[.int .i64 x', .slice Ab nb cb] 51)
      have Hbe := Lib.hid hbe
      clear hx' hvr hbe hxb
      by_cases h6 : 600 < nb
      · go_wp2
        go_ret
        exact ⟨rfl, Hbe.out⟩
      · go_wp2_with fail
        go_roundw
        case rel => exact ⟨j + 1, by omega, by go_num, Hbe.out⟩
        case measure => simp [intOf]; omega
    · have : j = n := by omega
      subst this
      have hp := wput_any A j c ls wr (HrW.out wr hbw)
      go_wp2_with fail
      refine hp.mono ?_
      rintro e w2 ⟨hwp, hb2⟩
      have hbe2 := hbw.trans (hb2.mono hbw.size)
      have hri := refright_any A j c ls w2 (HrW.out w2 hbe2) (by omega)
      rcases hwp with ⟨hok, v2, rfl, hown⟩ | ⟨hok, rfl⟩
      · have hL := walB_len hok
        rw [Hln.out] at hL
        obtain ⟨N, hN⟩ : ∃ N : Nat, 12 + 516 * j = N := ⟨_, rfl⟩
        rw [hN] at hL
        have hNb : 12 ≤ N ∧ N ≤ 20000 := by omega
        rw [hL] at hown
        obtain ⟨A3, c3, rfl, hc3, _⟩ := own_form hown
        have hb' := we_back hok Hones.out l2
        obtain ⟨k, hk⟩ : ∃ k : Nat, x % (N : Int) = k := ⟨(x % (N : Int)).toNat, by have := Int.emod_nonneg x (show (N : Int) ≠ 0 by omega); omega⟩
        have hkn : k < N := by have := Int.emod_lt_of_pos x (show 0 < (N : Int) by omega); omega
        have hbg := we_begin hok k (by rw [Hln.out, hN]; exact hkn)
        have h512 := (ok_parts hok).2.2
        have Hb' := Lib.hid hb'
        have Hbg := Lib.hid hbg
        have H512 := Lib.hid h512
        have Hok := Lib.hid hok
        have HL := Lib.hid hL
        have HN := Lib.hid hN
        have hsz : wsz (j : Int) = 12 + 516 * (j : Int) := by unfold wsz; rw [if_neg (by omega)]
        have Hsz := Lib.hid hsz
        have hrd := Rd.of_own hown
        rw [hok] at hri
        have hrb := fun (W : World) (hb : Below w.heap.size w W) => refwbytes_any A j c ls W (HrW.out W hb) (by omega) H512.out
        rw [hL] at hrb
        have Hrb := Lib.hid hrb
        clear hok hL hN hb' hbg h512 hp hb2 hsz hown hrb
        generalize walB ls = L at *
        go_wp2_with fail
        refine hri.mono ?_
        rintro e w3 ⟨rfl, q3, rfl⟩
        have hbe3 := below_drewN hbe2 q3
        have hrd3 := hrd.drewN q3
        clear hri hrd
        go_wp2_with fail
        refine (Hrb.out (w2.drewN q3) hbe3).mono ?_
        rintro e w4 ⟨v4, rfl, hown4, hb4⟩
        obtain ⟨A4, c4, rfl, hc4, _⟩ := own_form hown4
        have hbe4 := hbe3.trans (hb4.mono hbe3.size)
        have hrd4 := (hrd3.below hb4 (Nat.le_refl _)).more hb4.size
        have hsm := same_any A3 A4 N N c3 c4 L L w4 hrd4 (Rd.of_own hown4) (by omega) (by omega)
        rw [decide_eq_true rfl] at hsm
        clear hbe2 hbe3 hrd3 hown4 hb4
        go_wp2_with fail
        refine hsm.mono ?_
        rintro e w5 ⟨rfl, q5, rfl⟩
        have hbe5 := below_drewN hbe4 q5
        have hrd5 : Rd (w4.drewN q5) (w4.drewN q5).heap.size 1 A3 N (bys L) := hrd4.drewN q5
        clear hsm hbe4 hrd4
        go_wp2_with fail
        refine (wsize_any j _).mono ?_
        rintro e w6 ⟨rfl, rfl⟩
        rw [Hsz.out]
        have hNi : 12 + 516 * (j : Int) = (N : Int) := by have := HN.out; omega
        rw [hNi]
        have hNN : ((N : Int) != (N : Int)) = false := by simp
        clear hNi
        generalize w4.drewN q5 = w5 at *
        go_wp2_with (
          at_builtin
          first
          | (refine ap_bys hown7 hr27 (Below.refl _ w7) (by have := hb7.size; omega) (by omega) rfl rfl rfl ?_
             intro v8 w8 hown8 hb8 _ _
             obtain ⟨A8, c8, rfl, hc8, _⟩ := own_form hown8)
          | (refine ap_bys (own_lit0 w5 _) (hrd5.alloc (Nat.le_refl _) _) ((Below.refl w5.heap.size w5).alloc (Nat.le_refl _) _) (by simp) (by omega) rfl rfl rfl ?_
             intro v7 w7 hown7 hb7 _ _
             rw [List.nil_append, Nat.zero_add] at hown7
             have hbe7 : Below w.heap.size w w7 := hbe5.trans (hb7.mono hbe5.size)
             have hr27 := HrW2.out w7 hbe7))
        have hbe8 : Below w.heap.size w w8 := hbe7.trans (hb8.mono hbe5.size)
        have hg8 := wget_any A8 (N + m) c8 (L ++ l2) w8 (Rd.of_own hown8) hc8 (by omega)
        have hrd8 : Rd w8 w8.heap.size 1 A3 N (bys L) := ((hrd5.below hb7 (Nat.le_refl _)).below hb8 (by have := hb7.size; omega)).more (by have := hb7.size; have := hb8.size; omega)
        clear hown7 hown8 hr27 hbe5 hbe7 hb7 hb8 hrd5
        refine hg8.mono ?_
        rintro e w9 ⟨hget, hb9⟩
        obtain ⟨A9, n9, c9, rfl, hr9⟩ := hget.pcs
        rw [Hb'.out] at hr9 ⊢
        have hbe9 := hbe8.trans (hb9.mono hbe8.size)
        have hrd9 := (hrd8.below hb9 (Nat.le_refl _)).more hb9.size
        have hrk : Rd w9 w9.heap.size 1 A3 k (bys (L.take k)) := by
          have := hrd9.bcut (k := 0) (m := k) (by omega) (A' := A3) (fun hk0 => by
            obtain ⟨b, o, rfl, _⟩ := hrd9.2 (by omega)
            simp [addLit])
          rwa [List.drop_zero] at this
        have hgk := wget_any A3 k c3 (L.take k) w9 hrk (by omega) (by omega)
        clear hg8 hget hb9 hbe8 hrd8 hrd9 hrk
        have hk0 : 0 ≤ x % (N : Int) := by omega
        have hk1 : x % (N : Int) ≤ (c3 : Int) := by omega
        have hk2 : (x % (N : Int)).toNat = k := by omega
        go_wp2_with fail
        refine hgk.mono ?_
        rintro e w10 ⟨hget, hb10⟩
        obtain ⟨A10, n10, c10, rfl, hr10⟩ := hget.pcs
        rw [Hbg.out]
        have hbe10 := hbe9.trans (hb10.mono hbe9.size)
        have hr9' := (hr9.below hb10 (Nat.le_refl _)).more hb10.size
        have hn9 := hr9.1
        have hs9 := refwsame_any A9 n9 c9 A j c ls ls w10 hr9' (HrW.out w10 hbe10) (by have := Hln.out; omega) (by omega) (fun p hp => by rw [H512.out p hp]; omega) (fun p hp => by rw [H512.out p hp]; omega)
        rw [decide_eq_true rfl] at hs9
        clear hgk hget hb10 hr9 hr10 hbe9 hr9' hn9
        go_wp2_with fail
        refine hs9.mono ?_
        rintro e w11 ⟨rfl, q11, rfl⟩
        go_wp2
        go_ret
        exact ⟨rfl, below_drewN hbe10 _⟩
      · rw [hok] at hri
        have Hok := Lib.hid hok
        clear hok
        go_wp2_with fail
        refine hri.mono ?_
        rintro e w3 ⟨rfl, q3, rfl⟩
        go_wp2
        go_ret
        exact ⟨rfl, below_drewN hbe2 _⟩
end Go.Proofs.Ythflnndjjhifeaa
