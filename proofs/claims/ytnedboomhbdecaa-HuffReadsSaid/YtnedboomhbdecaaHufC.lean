/- The walk of HuffReads. -/
import Derived.Test.YtnedboomhbdecaaHufB
import Derived.Test.YtnedboomhbdecaaHuf6
import Derived.Test.YtnedboomhbdecaaBit5
import Derived.Test.YtnedboomhbdecaaBitA
namespace Go.Proofs.Ytnedboomhbdecaa
open Go.RowKit
attribute [local go_sem ↓] Go.wp_at_zero Go.wp_at_succ

theorem ch_of_below {w w' : World} {B : Nat} (h : Below B w w') (hB : w.heap.size ≤ B) : Ch (fun _ => False) w w' := Ch.of_below h hB
theorem own_bel {w w' : World} {base s n : Nat} {e : TypeId} {v : Value} {xs : List Value} (h : w.ownsRow base e s v n xs) (hb : Below w.heap.size w w') : w'.ownsRow base e s v n xs := own_below h hb (Nat.le_refl _)
theorem RdRI.keepB {w w' : World} {B n : Nat} {A : Option Addr} {f : Nat → List Int} (h : RdRI w B A n f) (hb : Below B w w') : RdRI w' B A n f := h.below hb (Nat.le_refl _)
/-- What is left of the bits' row. -/
theorem rest_rd {w : World} {base N c a m : Nat} {A Ac : Option Addr} {L : List UInt8} (h : w.ownsRow base 3 1 (.slice A N c) N (its (bnums (bitsB L)))) (hm : m = N - a) (ha : a ≤ N) (hA : 0 < m → Ac = A.map (·.add a)) : Rd w w.heap.size 1 Ac m (its (restL L a)) := by
  have hr := Rd.of_own h
  have hl := hr.ilen
  have := hr.icut (k := a) (m := m) (by omega) (A' := Ac) hA
  rw [List.take_of_length_le (by rw [List.length_drop]; omega)] at this
  exact this
/-- A slice's length. -/
def lenOf : Value → Nat
  | .slice _ m _ => m
  | _ => 0
theorem restL_drop (L : List UInt8) (a n : Nat) : (restL L a).drop n = restL L (a + n) := by unfold restL; rw [List.drop_drop]
set_option maxHeartbeats 4000000 in
set_option maxRecDepth 100000 in
theorem huffReads_walk (A : Option Addr) (n c : Nat) (l : List Int) (A2 : Option Addr) (n2 c2 : Nat) (L : List UInt8) (w : World) (hr : Rd w w.heap.size 1 A n (its l)) (hnc : n ≤ c) (hcm : c ≤ maxLen) (_hwf : ∀ z ∈ l, -9223372036854775808 ≤ z ∧ z ≤ 9223372036854775807)
    (hr2 : Rd w w.heap.size 1 A2 n2 (bys L)) (hnc2 : n2 ≤ c2) (hcm2 : c2 ≤ maxLen) :
    Calls Try.prog 10 #[.slice A n c, .slice A2 n2 c2] w fun e w' => e = .returned (.bool true) ∧ Below w.heap.size w w' := by
  unfold maxLen at hcm hcm2
  have Hl := Lib.hid hr.ilen
  have HL := Lib.hid hr2.blen
  by_cases h400 : 400 < n
  · have g1 : decide ((400 : Int) < (n : Int)) = true := decide_eq_true (by omega)
    go_enter Try.func10, Try.ntmps10
    go_wp2_with fail
    refine (huffwakes_any w).mono ?_
    rintro e w1 ⟨rfl, hb1⟩
    go_wp2
    go_ret
    exact ⟨rfl, hb1⟩
  have g1 : decide ((400 : Int) < (n : Int)) = false := decide_eq_false (by omega)
  by_cases h100 : 100 < n2
  · have g2 : decide ((100 : Int) < (n2 : Int)) = true := decide_eq_true (by omega)
    go_enter Try.func10, Try.ntmps10
    go_wp2_with fail
    refine (huffwakes_any w).mono ?_
    rintro e w1 ⟨rfl, hb1⟩
    go_wp2
    go_ret
    exact ⟨rfl, hb1⟩
  have g2 : decide ((100 : Int) < (n2 : Int)) = false := decide_eq_false (by omega)
  have hrW := fun (W : World) (hb : Below w.heap.size w W) => (hr.below hb (Nat.le_refl _)).more hb.size
  have HrW := Lib.hid hrW
  have hrW2 := fun (W : World) (hb : Below w.heap.size w W) => (hr2.below hb (Nat.le_refl _)).more hb.size
  have HrW2 := Lib.hid hrW2
  clear hrW hrW2
  cases hm : mayB l with
  | false =>
    have Hm := Lib.hid hm
    clear hm
    go_enter Try.func10, Try.ntmps10
    go_wp2_with fail
    refine (huffwakes_any w).mono ?_
    rintro e w1 ⟨rfl, hb1⟩
    have hmy := hmay_any A n c l w1 (HrW.out w1 hb1) (by omega)
    rw [Hm.out] at hmy
    go_wp2_with fail
    refine hmy.mono ?_
    rintro e w3 ⟨rfl, hw3⟩
    subst hw3
    go_wp2
    go_ret
    exact ⟨rfl, hb1⟩
  | true =>
    have hm2 := hm
    unfold mayB at hm2
    simp only [Bool.and_eq_true, decide_eq_true_eq, List.all_eq_true] at hm2
    have Hall := Lib.hid hm2.1
    have hl320 : l.length ≤ 320 := hm2.2
    have Hm := Lib.hid hm
    clear hm hm2
    go_enter Try.func10, Try.ntmps10
    go_wp2_with fail
    refine (huffwakes_any w).mono ?_
    rintro e w1 ⟨rfl, hb1⟩
    have hmy := hmay_any A n c l w1 (HrW.out w1 hb1) (by omega)
    rw [Hm.out] at hmy
    go_wp2_with fail
    refine hmy.mono ?_
    rintro e w3 ⟨rfl, hw3⟩
    subst hw3
    have hnw := hnew_any A n c l w3 (HrW.out w3 hb1)
    clear hmy
    go_wp2_with fail
    refine hnw.mono ?_
    rintro e w2 ⟨hnw, hb2⟩
    have hbe2 := hb1.trans (hb2.mono hb1.size)
    clear hb1 hb2
    rcases hnw with ⟨h, _⟩ | ⟨_, ho, rfl⟩ | ⟨_, ho, g, rfl, hc⟩
    · rw [Hm.out] at h; cases h
    · clear ho
      go_wp2
      go_ret
      exact ⟨rfl, hbe2⟩
    · have hrn := refhnew_any A n c l w2 (HrW.out w2 hbe2) (by have := Hl.out; omega)
      have Ho := Lib.hid ho
      have Hc := Lib.hid hc
      clear ho hc
      go_wp2_with fail
      refine hrn.mono ?_
      rintro e w4 ⟨hrw, hb4⟩
      have hbe4 := hbe2.trans (hb4.mono hbe2.size)
      rcases hrw with ⟨h, _⟩ | ⟨_, AL, nL, cL, rfl, hnL, hcL, hrL⟩
      · rw [Ho.out] at h; cases h
      have HnL := Lib.hid hnL
      clear hnL
      have hc4 := Hc.out.below hb4
      have hbe5 := hbe4.alloc hbe4.size (.cells #[.slice AL nL cL, .int .i64 (fillN l)] 40)
      have hc5 : HCode (w4.alloc (.cells #[.slice AL nL cL, .int .i64 (fillN l)] 40)) l g := hc4.below ((Below.refl _ _).alloc (Nat.le_refl _) _)
      have hx5 := Bk.new w4 40 #[.slice AL nL cL, .int .i64 (fillN l)]
      have hrL5 : RdRI (w4.alloc (.cells #[.slice AL nL cL, .int .i64 (fillN l)] 40)) w4.heap.size AL nL (rowC l) := hrL.below ((Below.refl _ _).alloc (Nat.le_refl _) _) (Nat.le_refl _)
      have hxl := hx5.lt
      have hrL6 := hrL5.more (Nat.le_of_lt hxl)
      clear hrn hbe2 hb4 hbe4 Hc hc4 hrL hrL5
      have hrB := RdRows.one' (w4.alloc (.cells #[.slice AL nL cL, .int .i64 (fillN l)] 40)) 28 (RdB.mk (HrW2.out _ hbe5) hnc2) (Nat.le_refl _) rfl
      have h5 : (w4.alloc (.cells #[.slice AL nL cL, .int .i64 (fillN l)] 40)).heap.size = w4.heap.size + 1 := by simp
      have H5 := Lib.hid h5
      clear h5
      go_wp2_with fail
      generalize hW5 : (w4.alloc (.cells #[.slice AL nL cL, .int .i64 (fillN l)] 40)) = w5 at *
      clear hW5
      generalize hX : w4.heap.size = X at *
      clear hX
      have hrd := rread_any (some ⟨w5.heap.size, 0, none⟩) 1 1 [L] (w5.alloc (.cells #[.slice A2 n2 c2] 28)) (hrB.more (by simp)) (by omega) (by have := HL.out; simp; omega)
      have hfl : [L].flatten = L := by simp
      rw [hfl] at hrd
      have hszA : (w5.alloc (.cells #[.slice A2 n2 c2] 28)).heap.size = w5.heap.size + 1 := by simp
      rw [hszA, H5.out] at hrd
      have HSz := Lib.hid hszA
      clear hfl hrB hszA
      have Hc5 := Lib.hid hc5.toB
      have Hx5 := Lib.hid hx5
      have HrL := Lib.hid hrL6
      have Hbe5 := Lib.hid hbe5
      have hB5 : Below w5.heap.size w5 (w5.alloc (.cells #[.slice A2 n2 c2] 28)) := (Below.refl _ _).alloc (Nat.le_refl _) _
      clear hc5 hx5 hrL6 hbe5
      refine hrd.mono ?_
      rintro e w7 ⟨rfl, S, hrs7, hS7, hb7⟩
      rw [← H5.out] at hb7
      have hB7 := hB5.trans (hb7.mono (Nat.le_succ _))
      have hrb := refbits_any w7.heap.size A2 n2 c2 L w7 (HrW2.out w7 (Hbe5.out.trans (hB7.mono Hbe5.out.size))) (Nat.le_refl _) (by omega)
      clear hrd hb7 hB5
      go_wp2_with fail
      refine hrb.mono ?_
      rintro e w8 ⟨r8, rfl, hown8, hb8⟩
      obtain ⟨A0, c0, rfl, hc0, _⟩ := own_form hown8
      have hrs8 := hrs7.ch (ch_of_below hb8 (Nat.le_refl _)) (fun _ _ h => h)
      have hns : ∀ i, (Value.slice A0 (8 * n2) c0).ownBlock = some i → ¬ S i := by
        intro i hi hSi
        have h1 := (hown8.lt i hi).1
        have h2 : i < w7.heap.size := by obtain ⟨_, _, _, _, _, h, _⟩ := hrs7; exact h i hSi
        omega
      have hSB : ∀ k, S k → w5.heap.size ≤ k := fun k hk => by have := hS7 k hk; have := H5.out; omega
      have hA0 : 0 < 8 * n2 → ∃ b0, A0 = some ⟨b0, 0, none⟩ := fun h => by
        obtain ⟨b0, c', h1, _⟩ := own_pos hown8 h
        injection h1 with h1
        exact ⟨b0, h1⟩
      have HNS := Lib.hid hns
      have HSB := Lib.hid hSB
      have HA0 := Lib.hid hA0
      have hst := Lib.hid (And.intro hrs8 (And.intro hown8 (hB7.trans (hb8.mono hB7.size))))
      clear hrb hrs7 hS7 hB7 hown8 hb8 hrs8 hns hSB hA0
      generalize hg2 : X + 1 + 1 = g2 at *
      clear hg2
      generalize hb7 : w7.heap.size = base at *
      clear hb7
      go_wp2_with fail
      go_loopw [9] (fun all wr => ∃ (a : Nat) (Ac : Option Addr) (mc cc : Nat), a ≤ 8 * n2 ∧ all = .slice Ac mc cc ∧ mc = 8 * n2 - a ∧ mc ≤ cc ∧ (0 < mc → Ac = A0.map (·.add a)) ∧ RdS wr S g2 L a ∧ wr.ownsRow base 3 1 (.slice A0 (8 * n2) c0) (8 * n2) (its (bnums (bitsB L))) ∧ Below w5.heap.size w5 wr) (fun all _ => lenOf all)
      case atStart =>
        refine ⟨0, A0, 8 * n2, c0, by omega, rfl, by omega, hc0, fun h => ?_, hst.out.1, hst.out.2.1, hst.out.2.2⟩
        obtain ⟨b0, h0⟩ := HA0.out h
        rw [h0]; simp [addLit]
      case round =>
        obtain ⟨a, Ac, mc, cc, ha, rfl, hmc, hcc, hAc, hrs, hown, hB⟩ := hrel
        clear hst
        have Hmc := Lib.hid hmc
        have hmc1 : mc + a ≤ 8 * n2 := by omega
        have hmc2 : 8 * n2 ≤ mc + a := by omega
        clear hmc
        have hnx := hnext_any l g w5.heap.size g2 S L a wr (Hc5.out.below hB) hrs HSB.out hl320 Hall.out Ho.out
        have Hown := Lib.hid hown
        have HB := Lib.hid hB
        have HAc := Lib.hid hAc
        clear hrs hown hB hAc
        go_wp2_with fail
        refine hnx.mono ?_
        rintro e w9 ⟨E, s, N, hN, rfl, hrs9, hch9⟩
        have hB9 : Below w5.heap.size w5 w9 := HB.out.trans (hch9.below HB.out.size HSB.out)
        have hown9 := own_ch Hown.out hch9 HNS.out
        have hrd9 := rest_rd (a := a) hown9 Hmc.out ha HAc.out
        have x0 : w9.cell? ⟨X, 0, none⟩ = some (.slice AL nL cL) := (hB9.cell (p := ⟨X, 0, none⟩) (by exact hxl)).trans (Hx5.out.cell 0)
        have x1 : w9.cell? ⟨X, 1, none⟩ = some (.int .i64 (fillN l)) := (hB9.cell (p := ⟨X, 1, none⟩) (by exact hxl)).trans (Hx5.out.cell 1)
        have hrn := refhnext_any AL nL cL (fillN l) Ac mc cc l (restL L a) w9 HnL.out hl320 Hall.out Ho.out (restL_01 L a) ((HrL.out.keepB hB9).more hB9.size) hrd9 (by omega)
        have HN := Lib.hid hN
        have Hrs9 := Lib.hid hrs9
        have HB9 := Lib.hid hB9
        have Hown9 := Lib.hid hown9
        clear hnx hN hrs9 hch9 hB9 hown9 hrd9
        go_wp2_with fail
        refine hrn.mono ?_
        rintro e w10 ⟨E', s', N', hN', hN15, rfl, hb10⟩
        obtain ⟨rfl, rfl, hNN⟩ := nx_one (restL_01 L a) HN.out hN'
        have hrs10 := Hrs9.out.ch (ch_of_below hb10 (Nat.le_refl _)) (fun _ _ h => h)
        have hown10 := own_bel Hown9.out hb10
        have hB10 := HB9.out.trans (hb10.mono HB9.out.size)
        have hrs11 := hrs10.ch ((Ch.refl (fun _ => False) w10).alloc (.cells #[.int .i64 s, .int .i64 N', .int .i64 E] 66)) (fun _ _ h => h)
        have hown11 := hown10.alloc (.cells #[.int .i64 s, .int .i64 N', .int .i64 E] 66)
        have hB11 := hB10.alloc hB10.size (.cells #[.int .i64 s, .int .i64 N', .int .i64 E] 66)
        have k1 : ((E : Int) != (E : Int)) = false := by simp
        have k2 : ((s : Int) != (s : Int)) = false := by simp
        clear hrn hN' hb10 hrs10 hown10 hB10 x0 x1
        by_cases hE : E = 0
        · subst hE
          rw [if_pos rfl] at hrs11
          obtain rfl := hNN rfl
          have hMet : Met l (restL L a) s N := by
            rcases HN.out with ⟨_, h⟩ | ⟨h, _⟩ | ⟨h, _⟩
            · exact h
            · cases h
            · cases h
          have hNle : N ≤ mc := by have := hMet.2.2.1; rw [restL_len] at this; have := HL.out; omega
          have hN1 := hMet.2.1
          have hlf := rleft_any g2 S L (a + N) _ hrs11
          rw [show 8 * (L.length : Int) - ((a + N : Nat) : Int) = ((mc - N : Nat) : Int) by have := HL.out; omega] at hlf
          obtain ⟨b0, hb0⟩ := HA0.out (by omega)
          have hAc' := HAc.out (by omega)
          rw [hb0] at hAc'
          simp only [Option.map_some, addLit, Nat.zero_add] at hAc'
          subst hAc'
          have Hb0 := Lib.hid hb0
          clear hb0
          have e1 : (0 : Int) ≤ (N : Int) := by omega
          have e2 : (N : Int) ≤ (mc : Int) := by omega
          have e3 : (N : Int) ≤ (cc : Int) := by omega
          have Hlf := Lib.hid hlf
          have Hst := Lib.hid (And.intro hrs11 (And.intro hown11 hB11))
          have hD : ((mc - N : Nat) : Int) = (mc : Int) - (N : Int) := by omega
          clear hMet hlf hrs11 hown11 hB11 hNN HN Hrs9 HB9 Hown9 Hown HB HAc hD
          by_cases hcN : cc = N
          · subst hcN
            obtain rfl : mc = cc := by omega
            go_wp2_with fail
            refine Hlf.out.mono ?_
            rintro e w12 ⟨rfl, q12, rfl⟩
            clear Hlf
            have hbe : Below w.heap.size w w5 := Hbe5.out
            have hze : (((mc - mc : Nat) : Int) != ((mc - mc : Nat) : Int)) = false := by simp
            go_wp2_with fail
            go_roundw
            case rel => exact ⟨a + mc, some ⟨b0, a, none⟩, 0, 0, by omega, by first | rfl | simp, by omega, Nat.le_refl _, fun h => absurd h (by omega), Hst.out.1.drewN' q12, own_drewN Hst.out.2.1 q12, below_drewN Hst.out.2.2 q12⟩
            case measure => simp only [lenOf]; omega
          · have hze : (((mc - N : Nat) : Int) != ((mc - N : Nat) : Int)) = false := by simp
            go_wp2_with fail
            refine Hlf.out.mono ?_
            rintro e w12 ⟨rfl, q12, rfl⟩
            clear Hlf
            go_wp2_with fail
            go_roundw
            case rel => exact ⟨a + N, some ⟨b0, a + N, none⟩, mc - N, cc - N, by omega, by first | rfl | simp, by omega, by omega, fun h => by rw [Hb0.out]; simp [addLit], Hst.out.1.drewN' q12, own_drewN Hst.out.2.1 q12, below_drewN Hst.out.2.2 q12⟩
            case measure => simp only [lenOf]; omega
        · have hlf := rleft_any g2 S L a _ (by rw [if_neg hE] at hrs11; exact hrs11)
          rw [show 8 * (L.length : Int) - (a : Int) = (mc : Int) by have := HL.out; omega] at hlf
          have k3 : ((E : Int) != 0) = true := by rw [bne_iff_ne]; omega
          have Hlf := Lib.hid hlf
          have HBB := Lib.hid hB11
          clear hlf hrs11 hown11 hB11 hNN HN Hrs9 HB9 Hown9 Hown HB HAc hE
          go_wp2_with fail
          refine Hlf.out.mono ?_
          rintro e w12 ⟨rfl, q12, rfl⟩
          go_wp2
          go_ret
          exact ⟨by simp, Hbe5.out.trans ((below_drewN HBB.out q12).mono Hbe5.out.size)⟩
end Go.Proofs.Ytnedboomhbdecaa
