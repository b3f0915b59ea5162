/- The walk of WalTurned. -/
import Derived.Test.YthflnndjjhifeaaWalL
import Derived.Test.YthflnndjjhifeaaWal6
import Derived.Test.YthflnndjjhifeaaPagP
import Derived.StillTailTactics
namespace Go.Proofs.Ythflnndjjhifeaa
open Go.RowKit

theorem turnL_take (l : List UInt8) (k : Nat) (x : Int) (i m : Nat) (h : m ≤ k) : (turnL l k x i).take m = l.take m := by
  induction i with
  | zero => rfl
  | succ i ih =>
    rw [turnL, List.take_set, ih, List.set_eq_of_length_le]
    rw [List.length_take]; omega
/-- A batch's beginning. -/
theorem wal_head (ls : List (List Int × List UInt8)) (hok : walOk ls = true) (_T : List UInt8) : ((walB ls).take 8 = wmark ++ leB (ls.length : Int) 4) ∧ (walB ls).length = 12 + 516 * ls.length := by
  unfold walOk at hok
  simp only [Bool.and_eq_true, decide_eq_true_eq, List.all_eq_true] at hok
  have hb := wbody_len ls hok.2
  refine ⟨?_, ?_⟩
  · unfold walB whead
    have h8 : (wmark ++ leB (ls.length : Int) 4).length = 8 := by simp [wmark, leB_len]
    rw [List.append_assoc (wmark ++ leB (ls.length : Int) 4), List.take_append_of_le_length (by omega), List.take_of_length_le (by omega)]
  · unfold walB whead
    simp only [List.length_append, leB_len, hb, wmark, List.length_cons, List.length_nil]
    omega
/-- What stands at the sum's place is the text's sum just if the state behind all of it is that one. -/
theorem we_resid (l : List UInt8) (E : Nat) (h : l.length = E + 4) : num4 l E = ((crcOf (l.take E)).toNat : Int) ↔ crcS crcIni l = resid := by
  have hT : (l.drop E).length = 4 := by rw [List.length_drop]; omega
  have h1 : num4 l E = leN (l.drop E) := by unfold num4; rw [List.take_of_length_le (by omega)]
  have h2 := sum_resid (l.take E) (l.drop E) hT
  rw [List.take_append_drop] at h2
  rw [h1, ← h2]
  have hc := (crcOf (l.take E)).isLt
  constructor
  · intro e
    rw [← e, ← hT, leB_leN]
  · intro e
    rw [← e, leN_leB]
    have h4 : (256 : Int) ^ 4 = 4294967296 := by decide
    rw [h4]; omega
theorem wal_turned (ls : List (List Int × List UInt8)) (hok : walOk ls = true) (k : Nat) (x : Int) (hk : k + 4 ≤ 12 + 516 * ls.length) (hk8 : 8 ≤ k) (h0 : 0 < x) (h1 : x < 4294967296) : (WE (turnL (walB ls) k x 4)).1 ≠ 0 := by
  obtain ⟨hh, hl⟩ := wal_head ls hok []
  have hn : ls.length ≤ 4096 := by
    unfold walOk at hok
    simp only [Bool.and_eq_true, decide_eq_true_eq] at hok
    exact hok.1.1
  generalize hL : turnL (walB ls) k x 4 = L
  have hLl : L.length = 12 + 516 * ls.length := by rw [← hL, turnL_len, hl]
  have h8 : L.take 8 = wmark ++ leB (ls.length : Int) 4 := by rw [← hL, turnL_take _ _ _ _ _ hk8, hh]
  have hm : L.take 4 = wmark := by
    have : (L.take 8).take 4 = wmark := by rw [h8, List.take_append_of_le_length (by simp [wmark])]; rfl
    rwa [List.take_take] at this
  have hnum : num4 L 4 = (ls.length : Int) := by
    unfold num4
    have : (L.drop 4).take 4 = leB (ls.length : Int) 4 := by
      have e : (L.take 8).drop 4 = (L.drop 4).take 4 := by rw [List.drop_take]
      rw [← e, h8, List.drop_append_of_le_length (by simp [wmark])]; rfl
    rw [this, leN_leB]
    have h4 : (256 : Int) ^ 4 = 4294967296 := by decide
    rw [h4]; omega
  have ht : (num4 L 4).toNat = ls.length := by omega
  have hsum : ¬ num4 L (8 + 516 * (num4 L 4).toNat) = ((crcOf (L.take (8 + 516 * (num4 L 4).toNat))).toNat : Int) := by
    rw [ht, we_resid L _ (by omega), ← hL]
    have hgood : crcS crcIni (walB ls) = resid := by
      have h2 := sum_resid (whead ls) (leB ((crcOf (whead ls)).toNat : Int) 4) (by rw [leB_len])
      exact h2.1 rfl
    rw [← hgood]
    exact turn_state _ _ k x (by omega) h0 h1
  rw [WE_sum (by omega) hm (by omega) (by omega) (by omega) hsum]
  decide

set_option maxHeartbeats 4000000 in
set_option maxRecDepth 100000 in
theorem walTurned_walk (A : Option Addr) (n c : Nat) (ls : List (List Int × List UInt8)) (x y : Int) (w : World) (hr : RdPcs w w.heap.size 1 A n ls) (_hnc : n ≤ c) (_hcm : c ≤ maxLen) (hx : 0 ≤ x ∧ x ≤ 65535) (hy : 0 ≤ y ∧ y ≤ 4294967295) :
    Calls Try.prog 14 #[.slice A n c, .int .u16 x, .int .u32 y] w fun e w' => e = .returned (.bool true) ∧ Below w.heap.size w w' := by
  have hcm := _hcm
  unfold maxLen at hcm
  by_cases h1 : 5 < n
  · go_enter Try.func14, Try.ntmps14
    go_wp2_with fail
    refine (walwakes_any w).mono ?_
    rintro e w1 ⟨rfl, hb1⟩
    go_wp2
    go_ret
    exact ⟨rfl, hb1⟩
  by_cases h3 : y = 0
  · subst h3
    go_enter Try.func14, Try.ntmps14
    go_wp2_with fail
    refine (walwakes_any w).mono ?_
    rintro e w1 ⟨rfl, hb1⟩
    go_wp2
    go_ret
    exact ⟨rfl, hb1⟩
  have h3' : (y == 0) = false := by simp [h3]
  have hrW := fun (W : World) (hb : Below w.heap.size w W) => (hr.below hb (Nat.le_refl _)).more hb.size
  have HrW := Lib.hid hrW
  have hy0 : 0 < y := by omega
  clear h3 hrW
  cases hok : walOk ls with
  | false =>
    have Hok := Lib.hid hok
    clear hok
    go_enter Try.func14, Try.ntmps14
    go_wp2_with fail
    refine (walwakes_any w).mono ?_
    rintro e w1 ⟨rfl, hb1⟩
    go_wp2_with fail
    refine (refright_any A n c ls w1 (HrW.out w1 hb1) (by omega)).mono ?_
    rintro e w2 ⟨rfl, q, rfl⟩
    rw [Hok.out]
    go_wp2
    go_ret
    exact ⟨rfl, below_drewN hb1 _⟩
  | true =>
    obtain ⟨_, hlen⟩ := wal_head ls hok []
    rw [hr.1] at hlen
    have h512 : ∀ p ∈ ls, p.2.length = 512 := by
      have h := hok
      unfold walOk at h
      simp only [Bool.and_eq_true, decide_eq_true_eq, List.all_eq_true] at h
      exact h.2
    obtain ⟨N, hN⟩ : ∃ N : Nat, 12 + 516 * n = N := ⟨_, rfl⟩
    rw [hN] at hlen
    have hN12 : 12 ≤ N := by omega
    have hN3 : N ≤ 3000 := by omega
    obtain ⟨k, hk⟩ : ∃ k : Nat, x % ((N : Int) - 3) = k := ⟨(x % ((N : Int) - 3)).toNat, by have := Int.emod_nonneg x (show (N : Int) - 3 ≠ 0 by omega); omega⟩
    have hkn : k + 4 ≤ N := by have := Int.emod_lt_of_pos x (show 0 < (N : Int) - 3 by omega); omega
    have hturn : 8 ≤ k → (WE (turnL (walB ls) k y 4)).1 ≠ 0 := fun h8 => wal_turned ls hok k y (by rw [hr.1, hN]; exact hkn) h8 hy0 (by omega)
    have htl : (turnL (walB ls) k y 4).length = N := by rw [turnL_len, hlen]
    have Hok := Lib.hid hok
    have Hlen := Lib.hid hlen
    have H512 := Lib.hid h512
    have Hturn := Lib.hid hturn
    have Htl := Lib.hid htl
    clear hok hlen h512 hturn htl hN
    go_enter Try.func14, Try.ntmps14
    go_wp2_with fail
    refine (walwakes_any w).mono ?_
    rintro e w1 ⟨rfl, hb1⟩
    go_wp2_with fail
    refine (refright_any A n c ls w1 (HrW.out w1 hb1) (by omega)).mono ?_
    rintro e w2 ⟨rfl, q, rfl⟩
    rw [Hok.out]
    have hb1q := below_drewN hb1 q
    go_wp2_with fail
    refine (refwbytes_any A n c ls _ (HrW.out _ hb1q) (by omega) H512.out).mono ?_
    rintro e w2 ⟨v2, rfl, hown2, hb2⟩
    have hbe2 := hb1q.trans (hb2.mono hb1q.size)
    have hown2' := own_base hown2 hb1q.size
    rw [Hlen.out] at hown2'
    obtain ⟨g, c3, rfl, hg, hgl, hc3⟩ := own_pos hown2' (by omega)
    clear hown2 hb1 hb1q hb2
    go_wp2_with fail
    rw [hk]
    clear hk
    have hstart := hown2'
    go_loopw [34] (fun i wr => ∃ j : Nat, j ≤ 4 ∧ i = .int .i64 j ∧ wr.ownsRow w.heap.size 5 1 (.slice (some ⟨g, 0, none⟩) N c3) N (bys (turnL (walB ls) k y j)) ∧ Below w.heap.size w wr) (fun i _ => 4 - (intOf i).toNat)
    case atStart => exact ⟨0, by omega, rfl, hstart, hbe2⟩
    case round =>
      obtain ⟨j, hj, rfl, hown, hbw⟩ := hrel
      clear hown2' hbe2 hstart
      by_cases hlt : j < 4
      · have hc := own_byte hown (j := k + j) (by omega)
        rw [turnL_at (walB ls) k y j j (Nat.le_refl _)] at hc
        have hf := hown.frozenAt (k + j)
        have hbv : y / 2 ^ (8 * j) % 256 = ((byteOf y j).toNat : Int) := by rw [byteOf_nat, pow256]
        have hxo := xor8 ((walB ls)[k + j]?.getD 0) (byteOf y j)
        have hidx : (k : Int) + (j : Int) < (N : Int) := by omega
        have hset := own_set (w := wr.drew) hown (k + j) (((walB ls)[k + j]?.getD 0) ^^^ byteOf y j)
        have hbd : Below w.heap.size w wr.drew := hbw.drew
        have Ht : Hid (turnL (walB ls) k y (j + 1) = (turnL (walB ls) k y j).set (k + j) (((walB ls)[k + j]?.getD 0) ^^^ byteOf y j)) := Lib.hid rfl
        have hbs := hbd.setCell (p := ⟨g, k + j, none⟩) (by omega : w.heap.size ≤ g) (.int .u8 (((((walB ls)[k + j]?.getD 0) ^^^ byteOf y j).toNat : Nat) : Int))
        generalize (walB ls)[k + j]?.getD 0 = u at *
        have hu := u.toNat_lt
        go_wp2_with fail
        have q1 : IntKind.i64.wrap ((k : Int) + (j : Int)) = (k : Int) + (j : Int) := IntWalk.i64_in _ (by omega)
        have q2 : 0 ≤ (k : Int) + (j : Int) := by omega
        have q3 : ((k : Int) + (j : Int)).toNat = k + j := by omega
        have q4 : IntKind.i64.wrap (8 * (j : Int)) = 8 * (j : Int) := IntWalk.i64_in _ (by omega)
        have q5 : 0 ≤ 8 * (j : Int) := by omega
        have q6 : (8 * (j : Int)).toNat = 8 * j := by omega
        have q7 : IntKind.u8.wrap (y / 2 ^ (8 * j)) = ((byteOf y j).toNat : Int) := by rw [IntKind.wrap_u8', hbv]
        go_still_tail 13, (by kernel_rfl)
        change wpList _ _ _ _ _ wr.drew
        have hc4 : wr.drew.cell? ⟨g, k + j, none⟩ = some (.int .u8 (u.toNat : Int)) := hc
        have hf4 : wr.drew.frozen? ⟨g, k + j, none⟩ = false := hf
        generalize wr.drew = W5 at *
        clear q1 q2 q3 q4 q5 q6 q7 hc hf hown hbw hbv
        go_wp2_with fail
        go_roundw
        case rel => exact ⟨j + 1, by omega, by go_num, by rw [Ht.out]; exact hset.1, hbs⟩
        case measure => simp [intOf]; omega
      · have : j = 4 := by omega
        subst this
        have hrd := Rd.of_own hown
        go_wp2_with fail
        refine (wget_any _ N c3 _ wr hrd hc3 (by omega)).mono ?_
        rintro e w3 ⟨hget, hb3⟩
        have hbe := hbw.trans (hb3.mono hbw.size)
        rcases hget with ⟨hne, rfl⟩ | ⟨hz, A3, n3, cc3, rfl, _, _⟩
        · have hne' : (((WE (turnL (walB ls) k y 4)).1 : Int) != 0) = true := by rw [bne_iff_ne]; omega
          generalize ((WE (turnL (walB ls) k y 4)).1 : Int) = z at *
          go_wp2
          go_ret
          exact ⟨rfl, hbe⟩
        · have hk8 : (k : Int) < 8 := by
            rcases Nat.lt_or_ge k 8 with h | h
            · omega
            · exact absurd hz (Hturn.out h)
          go_wp2
          go_ret
          exact ⟨rfl, hbe⟩
end Go.Proofs.Ythflnndjjhifeaa
