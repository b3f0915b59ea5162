/- Contracts of a Code's open and Next, whatever else may change. -/
import Derived.Test.YtnedboomhbdecaaHuf9
namespace Go.Proofs.Ytnedboomhbdecaa
open Go.RowKit
attribute [local go_sem ↓] Go.wp_at_zero Go.wp_at_succ

/-- A Code's rows. -/
def HRw (w : World) (l : List Int) (g : Nat) : Prop :=
  ∀ k, k < 16 → ∃ A m d, w.cell? ⟨g, k * 2, none⟩ = some (.slice A m d) ∧ w.cell? ⟨g, k * 2 + 1, none⟩ = some (.int .i64 (firstC l k : Int)) ∧ m ≤ d ∧ m = cnt l (k : Int) ∧ Rd w w.heap.size 1 A m (its (syms l (k : Int)))
theorem HRw.row {w : World} {l : List Int} {g : Nat} (h : HRw w l g) {k : Nat} (hk : k < 16) : ∃ A m d, w.cell? ⟨g, k * 2, none⟩ = some (.slice A m d) ∧ w.cell? ⟨g, k * 2 + 1, none⟩ = some (.int .i64 (firstC l k : Int)) ∧ m ≤ d ∧ m = cnt l (k : Int) ∧ Rd w w.heap.size 1 A m (its (syms l (k : Int))) := h k hk
set_option maxHeartbeats 4000000 in
set_option maxRecDepth 100000 in
theorem hopen_c (l : List Int) (g n c : Nat) (w : World) (h : HRw w l g) (hn : n ≤ 15) (hc : c < 2 ^ n) (hl : l.length ≤ 320) (hov : overTo l 15 = false) :
    Calls Try.prog 59 #[.pointer (some ⟨g, 0, none⟩), .int .i64 n, .int .i64 c] w fun e w' => e = .returned (.bool (openB l n c)) ∧ ∃ q, w' = w.drewN q := by
  have Hov := Lib.hid hov
  have H := Lib.hid h
  have Hc := Lib.hid hc
  clear hov h hc
  go_enter Try.func59, Try.ntmps59
  go_wp2_with fail
  go_loopw [2, 7] (fun co kk wr => ∃ k d : Nat, n < k ∧ k ≤ 16 ∧ kk = .int .i64 k ∧ co = .int .i64 d ∧ d ≤ 32768 ∧ Hid (d = c * 2 ^ (k - 1 - n)) ∧ Hid (∀ j, n < j → j < k → hitB l n c j = false) ∧ ∃ q, wr = w.drewN q) (fun _ kk _ => 16 - (intOf kk).toNat)
  case atStart =>
    have h1 := Hc.out
    have h2 : 2 ^ n ≤ 32768 := Nat.pow_le_pow_right (show 0 < 2 by omega) hn
    exact ⟨n + 1, c, by omega, by omega, by go_num, rfl, by omega, Lib.hid (by rw [show n + 1 - 1 - n = 0 by omega]; omega), Lib.hid (fun j h1 h2 => by omega), 0, rfl⟩
  case round =>
    obtain ⟨k, d, hnk, hk16, rfl, rfl, hd, hdd, hno, q, rfl⟩ := hrel
    by_cases hlt : k < 16
    · obtain ⟨D, hD⟩ : ∃ D : Nat, k - n = D := ⟨_, rfl⟩
      have hD1 : k - 1 - n = D - 1 := by omega
      have hpow : c * 2 ^ D = d * 2 := by
        rw [hdd.out, hD1]
        obtain ⟨x, rfl⟩ : ∃ x, D = x + 1 := ⟨D - 1, by omega⟩
        rw [Nat.pow_succ, Nat.add_sub_cancel]
        rw [← Nat.mul_assoc]
      have h2d : d * 2 < 32768 := by
        have h1 := Hc.out
        have h2 : 2 ^ n * 2 ^ D ≤ 32768 := by
          rw [← Nat.pow_add]
          exact Nat.pow_le_pow_right (show 0 < 2 by omega) (show n + D ≤ 15 by omega)
        have h3 : c * 2 ^ D < 2 ^ n * 2 ^ D := Nat.mul_lt_mul_of_pos_right h1 (Nat.pow_pos (by omega))
        omega
      obtain ⟨A, m, cp, c0, c1, hmc, hm, _⟩ := H.out.row hlt
      have hhit : hitB l n c k = decide (max (firstC l k) (d * 2) < min (firstC l k + m) (d * 2 + 2 ^ D)) := by unfold hitB; rw [hD, hpow, hm]
      have hF : firstC l k ≤ 32768 := by
        have h1 := endC_le (over_mono (show k - 1 ≤ 15 by omega) Hov.out)
        obtain ⟨p, rfl⟩ : ∃ p, k = p + 1 := ⟨k - 1, by omega⟩
        have h2 : 2 ^ p ≤ 16384 := Nat.pow_le_pow_right (show 0 < 2 by omega) (show p ≤ 14 by omega)
        show 2 * endC l p ≤ 32768
        rw [Nat.add_sub_cancel] at h1
        omega
      have hm320 : m ≤ 320 := by rw [hm]; have := cntTo_le l (k : Int) l.length; unfold cnt; omega
      have hP : 2 ^ D ≤ 32768 := Nat.pow_le_pow_right (show 0 < 2 by omega) (show D ≤ 15 by omega)
      have hsh : wrap64 ((2 : Int) ^ D) = ((2 ^ D : Nat) : Int) := wrap_pow D (by omega)
      have Hhit := Lib.hid hhit
      have Hpow := Lib.hid hpow
      have HD := Lib.hid hD
      generalize firstC l k = F at *
      generalize hPD : 2 ^ D = P at *
      have HPD := Lib.hid hPD
      clear hPD
      have e1 : ((k : Int) - (n : Int)).toNat = D := by omega
      have e2 : (0 : Int) ≤ (k : Int) - (n : Int) := by omega
      have e3 : (k : Int) < 16 := by omega
      have e4 : (0 : Int) ≤ (k : Int) := by omega
      have e5 : IntKind.i64.wrap ((F : Int) + (m : Int)) = (F : Int) + (m : Int) := IntWalk.i64_in _ (by omega)
      clear hhit hpow hD hD1 hdd hm
      go_wp2_with fail
      go_quiet (fail)
      go_wp2_with fail
      · have hh : hitB l n c k = true := by
          rw [Hhit.out]
          simp only [decide_eq_true_eq]
          omega
        go_ret
        exact ⟨ret_bool (openB_yes hnk hlt hh).symm, by first | exact ⟨_, rfl⟩ | exact ⟨_, World.drewN_drewN _ _ _⟩⟩
      · have hh : hitB l n c k = false := by
          rw [Hhit.out]
          simp only [decide_eq_false_iff_not]
          omega
        go_roundw
        case rel => exact ⟨k + 1, d * 2, by omega, by omega, by go_num, by go_num, by omega, Lib.hid (by rw [show k + 1 - 1 - n = D by have := HD.out; omega, HPD.out]; exact Hpow.out.symm), Lib.hid (fun j h1 h2 => by
          by_cases e : j = k
          · rw [e]; exact hh
          · exact hno.out j h1 (by omega)), _, rfl⟩
        case measure => simp only [intOf]; omega
    · have : k = 16 := by omega
      subst this
      have hf := openB_no hno.out
      have Hf := Lib.hid hf
      clear hf hno hdd
      go_wp2
      go_ret
      exact ⟨ret_bool Hf.out.symm, _, rfl⟩
set_option maxHeartbeats 4000000 in
set_option maxRecDepth 100000 in
theorem hnext_c (l : List Int) (g g2 : Nat) (S : Nat → Prop) (L : List UInt8) (a : Nat) (w : World) (hc : ∀ w', Ch S w w' → HRw w' l g) (hr : RdS w S g2 L a) (hl : l.length ≤ 320) (hall : ∀ x ∈ l, 0 ≤ x ∧ x ≤ 15) (hov : overTo l 15 = false) :
    Calls Try.prog 44 #[.pointer (some ⟨g, 0, none⟩), .pointer (some ⟨g2, 0, none⟩)] w fun e w' => ∃ E s N : Nat, NX l (restL L a) E s N ∧ e = .returned (.tuple #[.int .i64 s, .int .i64 E]) ∧ RdS w' S g2 L (if E = 0 then a + N else a) ∧ Ch S w w' := by
  have Hall := Lib.hid hall
  have Hov := Lib.hid hov
  have Hc := Lib.hid hc
  have haL : a ≤ 8 * L.length := by obtain ⟨_, _, _, _, _, _, h, _⟩ := hr; exact h
  have hLL : L.length ≤ 100000000 := by obtain ⟨_, _, _, _, _, _, _, h⟩ := hr; exact h
  have hrl := restL_len L a
  have hmk := rmark_any g2 S L a w hr
  have Hr := Lib.hid hr
  have Hrl := Lib.hid hrl
  clear hall hov hc hr hrl
  go_enter Try.func44, Try.ntmps44
  go_wp2_with fail
  refine hmk.mono ?_
  rintro e w1 ⟨rfl, rfl⟩
  clear hmk
  go_wp2_with fail
  go_loopw [7, 8] (fun co nn wr => ∃ n d : Nat, n ≤ 15 ∧ nn = .int .i64 ((n + 1 : Nat) : Int) ∧ co = .int .i64 d ∧ Hid ((d : Int) = bitsV ((restL L a).take n)) ∧ d < 32768 ∧ a + n ≤ 8 * L.length ∧ Hid (∀ t m, m ≤ n → ¬ Met l (restL L a) t m) ∧ RdS wr S g2 L (a + n) ∧ Ch S w wr) (fun _ nn _ => 16 - (intOf nn).toNat)
  case atStart =>
    exact ⟨0, 0, by omega, rfl, rfl, rfl, by omega, by omega, Lib.hid (fun t m hm hM => by have := hM.2.1; omega), Hr.out, Ch.refl _ _⟩
  case round =>
    obtain ⟨n, d, hn, rfl, rfl, hd, hd2, han, hno, hrd, hch⟩ := hrel
    clear Hr
    by_cases hlt : n < 15
    · by_cases hex : a + n = 8 * L.length
      · have hno2 := nx_end Hall.out (by rw [Hrl.out]; omega) hd.out hno.out
        have hdn : d < 2 ^ n := by
          have h := (bitsV_pow _ (fun b hb => restL_01 L a b (List.mem_of_mem_take hb)) : 0 ≤ bitsV ((restL L a).take n) ∧ bitsV ((restL L a).take n) < 2 ^ ((restL L a).take n).length)
          rw [← hd.out, List.length_take, Hrl.out, Nat.min_eq_left (by omega)] at h
          have h2 : ((2 : Int) ^ n) = ((2 ^ n : Nat) : Int) := by simp
          rw [h2] at h
          omega
        have hbn := rbits_no g2 S L (a + n) 1 wr hrd (by rw [hel1.1]; omega)
        have HN := Lib.hid hno2
        have HD := Lib.hid hdn
        clear hno2 hdn hno hd
        go_wp2_with fail
        refine hbn.mono ?_
        rintro e w2 ⟨rfl, q2, rfl⟩
        have hbk := rback_any g2 S L (a + n) (wr.drewN q2) (a : Int) (hrd.drewN' q2)
        rw [if_pos (by omega), Int.toNat_natCast] at hbk
        clear hbn
        go_wp2_with fail
        refine hbk.mono ?_
        rintro e w3 ⟨rfl, hr3, hc3⟩
        have hch3 : Ch S w w3 := (hch.drewN q2).trans hc3 (fun i h => .inl h)
        have hcB : HRw w3 l g := Hc.out w3 hch3
        have hop := hopen_c l g n d w3 hcB hn HD.out hl Hov.out
        clear hbk hcB hc3 hrd hch
        cases hb : openB l n d with
        | true =>
          rw [hb] at hop HN
          clear hb
          go_wp2_with fail
          refine hop.mono ?_
          rintro e w4 ⟨rfl, q4, rfl⟩
          go_wp2
          go_ret2
          exact ⟨3, 0, 0, HN.out, rfl, by rw [if_neg (by omega)]; exact hr3.drewN' q4, hch3.drewN q4⟩
        | false =>
          rw [hb] at hop HN
          clear hb
          go_wp2_with fail
          refine hop.mono ?_
          rintro e w4 ⟨rfl, q4, rfl⟩
          go_wp2
          go_ret2
          exact ⟨12, 0, 0, HN.out, rfl, by rw [if_neg (by omega)]; exact hr3.drewN' q4, hch3.drewN q4⟩
      · have hby := rbits_yes g2 S L (a + n) 1 wr hrd (by rw [hel1.1]; omega)
        have hst := bits_step L a n (by omega)
        have hb01 := restL_01 L a _ (List.getElem_mem (by rw [Hrl.out]; omega) : (restL L a)[n]'(by rw [Hrl.out]; omega) ∈ restL L a)
        rw [← peek_one L a n (by omega)] at hb01
        rw [← hd.out] at hst
        rw [hel1.2] at hby
        generalize peekN L (a + n) 1 = b at *
        obtain ⟨d', hd'⟩ : ∃ d' : Nat, 2 * d + b = d' := ⟨_, rfl⟩
        have hst' : (d' : Int) = bitsV ((restL L a).take (n + 1)) := by rw [hst]; omega
        have hd32 : d' < 32768 := by
          have h := (bitsV_pow _ (fun b hb => restL_01 L a b (List.mem_of_mem_take hb)) : 0 ≤ bitsV ((restL L a).take (n + 1)) ∧ bitsV ((restL L a).take (n + 1)) < 2 ^ ((restL L a).take (n + 1)).length)
          rw [← hst', List.length_take, Hrl.out, Nat.min_eq_left (by omega)] at h
          have h2 : ((2 : Int) ^ (n + 1)) = ((2 ^ (n + 1) : Nat) : Int) := by simp
          rw [h2] at h
          have h3 : 2 ^ (n + 1) ≤ 32768 := Nat.pow_le_pow_right (show 0 < 2 by omega) (show n + 1 ≤ 15 by omega)
          omega
        have Hst := Lib.hid hst'
        have hb2 : b ≤ 1 := by omega
        clear hst hst' hb01 hd
        obtain ⟨q, hq⟩ : ∃ q : Nat, n + 1 = q := ⟨_, rfl⟩
        rw [hq] at Hst ⊢
        have Hq := Lib.hid hq
        have hq15 : q ≤ 15 := by omega
        have hq1 : 1 ≤ q := by omega
        have hqL : a + q ≤ 8 * L.length := by omega
        go_wp2_with fail
        refine hby.mono ?_
        rintro e w2 ⟨rfl, hr2, hc2⟩
        have hch2 : Ch S w w2 := hch.trans hc2 (fun i h => .inl h)
        obtain ⟨A, m, cp, c0, c1, hmc, hm, hrow⟩ := (Hc.out w2 hch2).row (show q < 16 by omega)
        have hr2' : RdS w2 S g2 L (a + q) := by rw [show a + q = a + n + 1 by omega]; exact hr2
        have e0 : (2 : Int) * (d : Int) + (b : Int) = (d' : Int) := by omega
        have hF := first_bd (q := q) hq15 Hov.out
        have hml : m ≤ 320 := by rw [hm]; have := cntTo_le l (q : Int) l.length; unfold cnt; omega
        have hmet : ∀ t, Met l (restL L a) t q → firstC l q ≤ d' ∧ d' - firstC l q < m := by
          intro t hM
          obtain ⟨h1, h2, h3, h4⟩ := hM
          rw [← Hst.out] at h4
          have h5 := codeS_lt h1 h2
          obtain ⟨p, rfl⟩ : ∃ p, q = p + 1 := ⟨q - 1, by omega⟩
          rw [endC_first] at h5
          have h6 : firstC l (p + 1) ≤ codeS l t (p + 1) := by unfold codeS; omega
          have e : ((p + 1 : Nat) : Int) = (p : Int) + 1 := by omega
          rw [e] at hm
          omega
        have e1 : (0 : Int) ≤ (q : Int) := by omega
        have e2 : (q : Int) < 16 := by omega
        have hlen := hrow.ilen
        by_cases hk : firstC l q ≤ d' ∧ d' - firstC l q < m
        · obtain ⟨s, hs1, hs2, hs3, hs4⟩ := sym_of_code (l := l) (n := q) (c := d') hk.1 (by rw [← hm]; exact hk.2)
          have hM : Met l (restL L a) s q := ⟨hs3, hq1, by rw [Hrl.out]; omega, by rw [← Hst.out, hs4]⟩
          obtain ⟨i, hi⟩ : ∃ i : Nat, d' - firstC l q = i := ⟨_, rfl⟩
          rw [hi] at hs1
          obtain ⟨b3, o3, x, rfl, hbb3, hx3, hcx3⟩ := hrow.num (show i < m by omega)
          rw [hs1] at hx3
          injection hx3 with hx3
          subst hx3
          have HM := Lib.hid hM
          have e3 : (d' : Int) - (firstC l q : Int) = (i : Int) := by omega
          have e4 : (i : Int) < (m : Int) := by omega
          have g1 : decide ((0 : Int) ≤ (i : Int)) = true := decide_eq_true (by omega)
          have g2' : decide (i < m) = true := decide_eq_true (by omega)
          generalize firstC l q = F at *
          clear hk hs1 hs2 hs3 hs4 hM hmet hno hrow hlen hby hc2 hch hrd hr2 hm hi
          go_wp2
          go_ret2
          exact ⟨0, s, q, .inl ⟨rfl, HM.out⟩, rfl, by rw [if_pos rfl]; exact hr2', hch2⟩
        · have hno' : ∀ t m, m ≤ q → ¬ Met l (restL L a) t m := by
            intro t m' hm' hM
            by_cases e : m' = q
            · rw [e] at hM; exact hk (hmet t hM)
            · exact hno.out t m' (by omega) hM
          have Hno' := Lib.hid hno'
          have hFi : (firstC l q : Int) ≤ 32768 := by omega
          by_cases hlo : d' < firstC l q
          · obtain ⟨z, hz⟩ : ∃ z : Int, (d' : Int) - (firstC l q : Int) = z := ⟨_, rfl⟩
            have g1 : decide ((0 : Int) ≤ z) = false := decide_eq_false (by omega)
            generalize firstC l q = F at *
            clear hk hno' hmet hno hrow hlen hby hc2 hch hrd hr2 hm hlo
            go_wp2_with fail
            go_roundw
            case rel => exact ⟨q, d', hq15, by go_num, rfl, Hst, hd32, hqL, Hno', hr2', hch2⟩
            case measure => have := Hq.out; simp only [intOf]; omega
          · obtain ⟨i, hi⟩ : ∃ i : Nat, d' - firstC l q = i := ⟨_, rfl⟩
            have e3 : (d' : Int) - (firstC l q : Int) = (i : Int) := by omega
            have g1 : decide ((0 : Int) ≤ (i : Int)) = true := decide_eq_true (by omega)
            have g2' : decide (i < m) = false := decide_eq_false (by omega)
            generalize firstC l q = F at *
            clear hk hno' hmet hno hrow hlen hby hc2 hch hrd hr2 hm hi hlo
            go_wp2_with fail
            go_roundw
            case rel => exact ⟨q, d', hq15, by go_num, rfl, Hst, hd32, hqL, Hno', hr2', hch2⟩
            case measure => have := Hq.out; simp only [intOf]; omega
    · have : n = 15 := by omega
      subst this
      have hm : ∀ t m, ¬ Met l (restL L a) t m := fun t m hM => by
        have hb := Hall.out _ (List.mem_of_getElem? hM.1)
        exact hno.out t m (by omega) hM
      have hnx : NX l (restL L a) 12 0 0 := .inr (.inr ⟨rfl, rfl, hm, fun ⟨s, m, h1, h2, _⟩ => by
        have hb := Hall.out _ (List.mem_of_getElem? h1)
        rw [Hrl.out] at h2
        omega⟩)
      have Hnx := Lib.hid hnx
      have hbk := rback_any g2 S L (a + 15) wr (a : Int) hrd
      rw [if_pos (by omega), Int.toNat_natCast] at hbk
      clear hm hnx hno hd hrd
      go_wp2_with fail
      refine hbk.mono ?_
      rintro e w3 ⟨rfl, hr3, hc3⟩
      have hch3 : Ch S w w3 := hch.trans hc3 (fun i h => .inl h)
      clear hbk hch hc3
      go_wp2
      go_ret2
      exact ⟨12, 0, 0, Hnx.out, rfl, by rw [if_neg (by omega)]; exact hr3, hch3⟩
end Go.Proofs.Ytnedboomhbdecaa
