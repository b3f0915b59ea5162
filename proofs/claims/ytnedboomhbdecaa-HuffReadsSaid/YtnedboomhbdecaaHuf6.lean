/- The walk of HuffCodes. -/
import Derived.Test.YtnedboomhbdecaaHuf5
namespace Go.Proofs.Ytnedboomhbdecaa
open Go.RowKit
attribute [local go_sem ↓] Go.wp_at_zero Go.wp_at_succ

theorem HCode.drewN {w : World} {l : List Int} {g : Nat} (h : HCode w l g) (q : Nat) : HCode (w.drewN q) l g := h.below (below_drewN (Below.refl _ _) q)
theorem hex : mayB [2, 1, 3, 3] = true ∧ overTo [2, 1, 3, 3] 15 = false ∧ codeS [2, 1, 3, 3] 2 3 = 6 ∧ fillN [2, 1, 3, 3] = 0 := by decide +kernel
theorem huffwakes_any (w : World) : Calls Try.prog 22 #[] w fun e w' => e = .returned (.bool true) ∧ Below w.heap.size w w' := by
  have hl := Rd.lits w 3 #[.int .i64 2, .int .i64 1, .int .i64 3, .int .i64 3] (n := 4) rfl (fr := (0, 0))
  have hn := hnew_any (some ⟨w.heap.size, 0, none⟩) 4 4 [2, 1, 3, 3] (w.alloc (.cells #[.int .i64 2, .int .i64 1, .int .i64 3, .int .i64 3] 3)) (by have := hl.more (B' := (w.alloc (.cells #[.int .i64 2, .int .i64 1, .int .i64 3, .int .i64 3] 3)).heap.size) (by simp); exact this)
  have Hn := Lib.hid hn
  clear hn hl
  go_enter Try.func22, Try.ntmps22
  go_wp2_with fail
  refine Hn.out.mono ?_
  rintro e w1 ⟨hnw, hb1⟩
  have hbe1 : Below w.heap.size w w1 := ((Below.refl _ _).alloc (Nat.le_refl _) _).trans (hb1.mono (by simp))
  rcases hnw with ⟨h, _⟩ | ⟨_, h, _⟩ | ⟨_, _, g, rfl, hc⟩
  · rw [hex.1] at h; cases h
  · rw [hex.2.1] at h; cases h
  · have hcd := hcode_yes [2, 1, 3, 3] g 2 3 w1 hc (by decide) rfl (by omega) (by omega) hex.2.1
    rw [hex.2.2.1] at hcd
    have Hcd := Lib.hid hcd
    have Hc := Lib.hid hc
    clear Hn hb1 hcd hc
    go_wp2_with fail
    refine Hcd.out.mono ?_
    rintro e w2 ⟨rfl, q, rfl⟩
    have hfl := hfill_any _ g _ (Hc.out.drewN q)
    rw [hex.2.2.2] at hfl
    clear Hcd Hc
    go_wp2_with fail
    refine hfl.mono ?_
    rintro e w3 ⟨rfl, hw3⟩
    subst hw3
    go_wp2
    go_ret
    exact ⟨rfl, below_drewN hbe1 _⟩
theorem bitsV_bd (l : List Int) (h : ∀ b ∈ l, b = 0 ∨ b = 1) (hl : l.length ≤ 15) : 0 ≤ bitsV l ∧ bitsV l < 32768 := by
  have gen : ∀ (r : List Int), (∀ b ∈ r, b = 0 ∨ b = 1) → 0 ≤ bitsV r.reverse ∧ bitsV r.reverse < 2 ^ r.length := by
    intro r
    induction r with
    | nil => intro _; exact ⟨by decide, by decide⟩
    | cons b r ih =>
      intro hb
      obtain ⟨h1, h2⟩ := ih (fun x hx => hb x (List.mem_cons_of_mem _ hx))
      have h3 := hb b List.mem_cons_self
      rw [List.reverse_cons, bitsV_snoc, List.length_cons, Int.pow_succ]
      omega
  have h1 := gen l.reverse (fun b hb => h b (List.mem_reverse.1 hb))
  rw [List.reverse_reverse, List.length_reverse] at h1
  have h2 : 2 ^ l.length ≤ 2 ^ 15 := Nat.pow_le_pow_right (by omega) hl
  have h3 : (2 : Int) ^ l.length = ((2 ^ l.length : Nat) : Int) := by simp
  rw [h3] at h1
  generalize 2 ^ l.length = P at *
  have h4 : (2 : Nat) ^ 15 = 32768 := rfl
  omega
set_option maxHeartbeats 4000000 in
set_option maxRecDepth 100000 in
theorem huffCodes_walk (A : Option Addr) (n c : Nat) (l : List Int) (w : World) (hr : Rd w w.heap.size 1 A n (its l)) (hnc : n ≤ c) (hcm : c ≤ maxLen) (_hwf : ∀ z ∈ l, -9223372036854775808 ≤ z ∧ z ≤ 9223372036854775807) :
    Calls Try.prog 4 #[.slice A n c] w fun e w' => e = .returned (.bool true) ∧ Below w.heap.size w w' := by
  unfold maxLen at hcm
  have Hl := Lib.hid hr.ilen
  by_cases h400 : 400 < n
  · go_enter Try.func4, Try.ntmps4
    go_wp2_with fail
    refine (huffwakes_any w).mono ?_
    rintro e w1 ⟨rfl, hb1⟩
    go_wp2
    go_ret
    exact ⟨rfl, hb1⟩
  have hrW := fun (W : World) (hb : Below w.heap.size w W) => (hr.below hb (Nat.le_refl _)).more hb.size
  have HrW := Lib.hid hrW
  clear hrW
  go_enter Try.func4, Try.ntmps4
  go_wp2_with fail
  refine (huffwakes_any w).mono ?_
  rintro e w1 ⟨rfl, hb1⟩
  go_wp2_with fail
  refine (hnew_any A n c l w1 (HrW.out w1 hb1)).mono ?_
  rintro e w2 ⟨hnw, hb2⟩
  have hbe2 := hb1.trans (hb2.mono hb1.size)
  have hmy := hmay_any A n c l w2 (HrW.out w2 hbe2) (by omega)
  clear hb1 hb2
  rcases hnw with ⟨hm, rfl⟩ | ⟨hm, ho, rfl⟩ | ⟨hm, ho, g, rfl, hc⟩
  · rw [hm] at hmy
    clear hm
    go_wp2_with fail
    refine hmy.mono ?_
    rintro e w3 ⟨rfl, hw3⟩
    subst hw3
    go_wp2
    go_ret
    exact ⟨rfl, hbe2⟩
  · rw [hm] at hmy
    have hn320 : n ≤ 320 := by
      unfold mayB at hm
      simp only [Bool.and_eq_true, decide_eq_true_eq] at hm
      have := Hl.out; omega
    have hrn := refhnew_any A n c l w2 (HrW.out w2 hbe2) hn320
    have Ho := Lib.hid ho
    clear hm ho
    go_wp2_with fail
    refine hmy.mono ?_
    rintro e w3 ⟨rfl, hw3⟩
    subst hw3
    go_wp2_with fail
    refine hrn.mono ?_
    rintro e w4 ⟨hrw, hb4⟩
    have hbe4 := hbe2.trans (hb4.mono hbe2.size)
    rcases hrw with ⟨_, v, rfl, Av, nv, cv, rfl⟩ | ⟨h, _⟩
    · have hbe5 := hbe4.alloc hbe4.size (.cells #[.slice Av nv cv, .int .i64 2] 40)
      clear hrn hmy hbe2 hb4 hbe4
      go_wp2
      go_ret
      exact ⟨rfl, hbe5⟩
    · rw [Ho.out] at h; cases h
  · rw [hm] at hmy
    have hm2 := hm
    unfold mayB at hm2
    simp only [Bool.and_eq_true, decide_eq_true_eq, List.all_eq_true] at hm2
    have hn320 : n ≤ 320 := by have := Hl.out; omega
    have Hall := Lib.hid hm2.1
    have hrn := refhnew_any A n c l w2 (HrW.out w2 hbe2) hn320
    have Ho := Lib.hid ho
    have Hc := Lib.hid hc
    clear hm ho hm2 hc
    go_wp2_with fail
    refine hmy.mono ?_
    rintro e w3 ⟨rfl, hw3⟩
    subst hw3
    go_wp2_with fail
    refine hrn.mono ?_
    rintro e w4 ⟨hrw, hb4⟩
    have hbe4 := hbe2.trans (hb4.mono hbe2.size)
    rcases hrw with ⟨h, _⟩ | ⟨_, AL, nL, cL, rfl, hnL, hcL, hrL⟩
    · rw [Ho.out] at h; cases h
    rw [Hl.out] at hnL
    subst hnL
    have hc4 := Hc.out.below hb4
    have hbe5 := hbe4.alloc hbe4.size (.cells #[.slice AL nL cL, .int .i64 (fillN l)] 40)
    have hc5 : HCode (w4.alloc (.cells #[.slice AL nL cL, .int .i64 (fillN l)] 40)) l g := hc4.below ((Below.refl _ _).alloc (Nat.le_refl _) _)
    have hx5 := Bk.new w4 40 #[.slice AL nL cL, .int .i64 (fillN l)]
    have hrL5 : RdRI (w4.alloc (.cells #[.slice AL nL cL, .int .i64 (fillN l)] 40)) w4.heap.size AL nL (rowC l) := hrL.below ((Below.refl _ _).alloc (Nat.le_refl _) _) (Nat.le_refl _)
    have hxl := hx5.lt
    have hf2 : (fillN l == 2) = false := by unfold fillN; split <;> rfl
    clear hrn hmy hbe2 hb4 hbe4 Hc hc4 hrL
    go_wp2_with fail
    generalize (w4.alloc (.cells #[.slice AL nL cL, .int .i64 (fillN l)] 40)) = w5 at *
    generalize hX : w4.heap.size = X at *
    clear hX
    have hfl := fun q => hfill_any l g (w5.drewN q) (hc5.drewN q)
    have Hfl := Lib.hid hfl
    have x0 : w5.cell? ⟨X, 0, none⟩ = some (.slice AL nL cL) := hx5.cell 0
    have x1 : w5.cell? ⟨X, 1, none⟩ = some (.int .i64 (fillN l)) := hx5.cell 1
    have hff : (fillN l != fillN l) = false := by simp
    have Hst := Lib.hid (And.intro hc5 (And.intro hx5 (And.intro (hrL5.more (Nat.le_of_lt hxl)) hbe5)))
    clear hfl hc5 hx5 hrL5 hbe5
    generalize fillN l = F at *
    go_quiet ((go_at_call 26; exact Calls.quiet_of_same (Hfl.out _)))
    go_wp2_with fail
    go_loopw [6] (fun i wr => ∃ (j : Nat) (z : Int), j ≤ nL + 2 ∧ i = .int .i64 z ∧ z = (j : Int) - 1 ∧ ∃ q, wr = w5.drewN q) (fun i _ => ((nL : Int) + 1 - intOf i).toNat)
    case atStart => exact ⟨0, -1, by omega, rfl, by omega, _, rfl⟩
    case round =>
      obtain ⟨j, z, hj, rfl, hz, q, rfl⟩ := hrel
      have hcq := Hst.out.1.drewN q
      have hlen := Hl.out
      by_cases h0 : j = 0
      · obtain rfl : z = -1 := by omega
        subst h0
        have hno := hcode_no l g (-1) _ hcq (.inl (by omega))
        clear hcq hz
        have e1 : (-1 : Int) ≤ (nL : Int) := by omega
        go_wp2_with fail
        refine hno.mono ?_
        rintro e w6 ⟨rfl, hw6⟩
        subst hw6
        go_wp2_with fail
        go_roundw
        case rel => exact ⟨1, 0, by omega, rfl, by omega, q, rfl⟩
        case measure => simp only [intOf]; omega
      obtain ⟨k, rfl⟩ : ∃ k, j = k + 1 := ⟨j - 1, by omega⟩
      obtain rfl : z = (k : Int) := by omega
      by_cases hlt : k < nL
      · obtain ⟨b, o, x, rfl, hbb, hx, hcx0⟩ := hr.num hlt
        have hcx : w5.cell? ⟨b, o + k, none⟩ = some (.int .i64 x) := (Hst.out.2.2.2.cell (p := ⟨b, o + k, none⟩) hbb).trans hcx0
        have hx15 := Hall.out x (List.mem_of_getElem? hx)
        have e1 : (k : Int) ≤ (nL : Int) := by omega
        have e2 : (k : Int) < (nL : Int) := by omega
        have e3 : ((k : Int) == (nL : Int)) = false := by rw [beq_eq_false_iff_ne]; omega
        have g1 : decide ((k : Int) < 0) = false := decide_eq_false (by omega)
        by_cases hx0 : x = 0
        · subst hx0
          have hno := hcode_no l g (k : Int) _ hcq (.inr (.inr ⟨by omega, by rw [Int.toNat_natCast]; exact hx⟩))
          clear hcq hz hx hx15 hcx0 hlen
          go_wp2_with fail
          refine hno.mono ?_
          rintro e w6 ⟨rfl, hw6⟩
          subst hw6
          go_wp2_with fail
          go_roundw
          case rel => exact ⟨k + 2, (k : Int) + 1, by omega, by go_num, by omega, q, rfl⟩
          case measure => simp only [intOf]; omega
        · obtain ⟨m, rfl⟩ : ∃ m : Nat, x = m := ⟨x.toNat, by omega⟩
          have hy := hcode_yes l g k m _ hcq (by omega) hx (by omega) (by omega) Ho.out
          obtain ⟨hrow, hval⟩ := rowC_code hx (by omega) (by omega) Ho.out
          have e4 : ((m : Int) == 0) = false := by rw [beq_eq_false_iff_ne]; exact hx0
          have Hrow := Lib.hid hrow
          have Hval := Lib.hid hval
          have hmm : ((m : Int) != (m : Int)) = false := by simp
          obtain ⟨b2, o2, Ak, mk, dk, rfl, hbb2, hck, hrk, hdk⟩ := Hst.out.2.2.1.at_ hlt
          have hbb3 := hrk.ilen
          have hcd := codeS_bd hx (by omega) (by omega) Ho.out
          have hp : 2 ^ m ≤ 32768 := Nat.pow_le_pow_right (show 0 < 2 by omega) (show m ≤ 15 by omega)
          have hcdb : codeS l k m ≤ 32768 := by omega
          have hmk : mk = m := by rw [← hbb3, hrow, bitsL_len]
          subst hmk
          have Hy := Lib.hid hy
          have h01 : ∀ x ∈ rowC l k, x = 0 ∨ x = 1 := by rw [hrow]; exact bitsL_01 _ _
          have H01 := Lib.hid h01
          have Hb3 := Lib.hid hbb3
          have e5 : mk ≤ 15 := by omega
          clear hy hrow hval hcq hx hx15 hcx0 hcd hp hx0 h01 hbb3 hlen hz
          generalize hC : codeS l k mk = C at *
          clear hC
          go_wp2_with fail
          refine Hy.out.mono ?_
          rintro e w6 ⟨rfl, q6, rfl⟩
          clear Hy
          go_wp2_with fail
          go_loop [9, 90] (fun wa i => ∃ (t : Nat) (u : Int), t ≤ mk ∧ i = .int .i64 t ∧ wa = .int .i64 u ∧ Hid (u = bitsV ((rowC l k).take t))) (fun _ i => mk - (intOf i).toNat)
          case atStart => exact ⟨0, 0, Nat.zero_le _, rfl, rfl, Lib.hid rfl⟩
          case round =>
            obtain ⟨t, u, ht, rfl, rfl, hu⟩ := hrel
            have hu0 := bitsV_bd ((rowC l k).take t) (fun b hb => H01.out b (List.mem_of_mem_take hb)) (by rw [List.length_take]; omega)
            rw [← hu.out] at hu0
            by_cases htm : t < mk
            · obtain ⟨b3, o3, y, rfl, hbb3, hy, hcy⟩ := hrk.num htm
              have hts := take_step hy
              have hy01 := H01.out y (List.mem_of_getElem? hy)
              have hnx : 2 * u + y = bitsV ((rowC l k).take (t + 1)) := by rw [hts, bitsV_snoc, hu.out]
              have hu1 := bitsV_bd ((rowC l k).take (t + 1)) (fun b hb => H01.out b (List.mem_of_mem_take hb)) (by rw [List.length_take]; omega)
              rw [← hnx] at hu1
              have Hnx := Lib.hid hnx
              clear hts hnx hy hy01 hu
              go_wp2_with fail
              go_round
              case rel => exact ⟨t + 1, 2 * u + y, by omega, by go_num, rfl, Hnx⟩
              case measure => simp only [intOf]; omega
            · obtain rfl : t = mk := by omega
              have huC : u = (C : Int) := by rw [hu.out, List.take_of_length_le (by rw [Hb3.out]; exact Nat.le_refl _), Hval.out]
              subst huC
              have hCC : ((C : Int) != (C : Int)) = false := by simp
              clear hu hu0
              go_wp2_with fail
              go_roundw
              case rel => exact ⟨k + 2, (k : Int) + 1, by omega, by go_num, by omega, _, rfl⟩
              case measure => simp only [intOf]; omega
      · by_cases hen : k = nL
        · subst hen
          have hno := hcode_no l g (k : Int) _ hcq (.inr (.inl (by omega)))
          have e3 : ((k : Int) == (k : Int)) = true := by simp
          have g1 : decide ((k : Int) < 0) = false := decide_eq_false (by omega)
          clear hcq hz hlen
          go_wp2_with fail
          refine hno.mono ?_
          rintro e w6 ⟨rfl, hw6⟩
          subst hw6
          go_wp2_with fail
          go_roundw
          case rel => exact ⟨k + 2, (k : Int) + 1, by omega, by go_num, by omega, q, rfl⟩
          case measure => simp only [intOf]; omega
        · have : ¬ (k : Int) ≤ (nL : Int) := by omega
          clear hcq hz hlen
          go_wp2
          go_ret
          exact ⟨rfl, below_drewN Hst.out.2.2.2 _⟩
end Go.Proofs.Ytnedboomhbdecaa
