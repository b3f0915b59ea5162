/- The contract of a Code's Next. -/
import Derived.Test.YtnedboomhbdecaaHuf8
import Derived.Test.YtnedboomhbdecaaBit4
import Derived.Test.YtnedboomhbdecaaBit7
namespace Go.Proofs.Ytnedboomhbdecaa
open Go.RowKit
attribute [local go_sem ↓] Go.wp_at_zero Go.wp_at_succ

theorem open_iff {l : List Int} (hall : ∀ x ∈ l, 0 ≤ x ∧ x ≤ 15) (n c : Nat) : openB l n c = true ↔ ∃ s k : Nat, l[s]? = some (k : Int) ∧ n < k ∧ codeS l s k / 2 ^ (k - n) = c := by
  constructor
  · intro h
    unfold openB at h
    rw [List.any_eq_true] at h
    obtain ⟨k, hk, h⟩ := h
    simp only [Bool.and_eq_true, decide_eq_true_eq] at h
    obtain ⟨hnk, hh⟩ := h
    unfold hitB at hh
    simp only [decide_eq_true_eq] at hh
    obtain ⟨P, hP⟩ : ∃ P, 2 ^ (k - n) = P := ⟨_, rfl⟩
    have hpos : 0 < P := by rw [← hP]; exact Nat.pow_pos (by omega)
    rw [hP] at hh
    obtain ⟨x, hx⟩ : ∃ x, max (firstC l k) (c * P) = x := ⟨_, rfl⟩
    obtain ⟨s, _, _, h3, h4⟩ := sym_of_code (l := l) (n := k) (c := x) (by omega) (by omega)
    refine ⟨s, k, h3, hnk, ?_⟩
    rw [h4, hP]
    have e1 : c * P ≤ x := by omega
    have e2 : x < c * P + P := by omega
    exact Nat.div_eq_of_lt_le (by rw [Nat.mul_comm] at e1; rw [Nat.mul_comm]; exact e1) (by rw [Nat.succ_mul]; exact e2)
  · rintro ⟨s, k, hs, hnk, hc⟩
    have hb := hall _ (List.mem_of_getElem? hs)
    refine openB_yes hnk (by omega) ?_
    have h1 := codeS_lt hs (by omega)
    obtain ⟨p, rfl⟩ : ∃ p, k = p + 1 := ⟨k - 1, by omega⟩
    rw [endC_first] at h1
    unfold hitB
    simp only [decide_eq_true_eq]
    have hF : firstC l (p + 1) ≤ codeS l s (p + 1) := by unfold codeS; omega
    have e : ((p + 1 : Nat) : Int) = (p : Int) + 1 := by omega
    rw [e]
    generalize codeS l s (p + 1) = x at *
    obtain ⟨P, hP⟩ : ∃ P, 2 ^ (p + 1 - n) = P := ⟨_, rfl⟩
    have hpos : 0 < P := by rw [← hP]; exact Nat.pow_pos (by omega)
    rw [hP] at hc ⊢
    have h5 := Nat.div_add_mod x P
    have h6 := Nat.mod_lt x hpos
    rw [hc, Nat.mul_comm] at h5
    omega
theorem bnums_01 (l : List Bool) : ∀ b ∈ bnums l, b = 0 ∨ b = 1 := by
  intro b hb
  unfold bnums at hb
  obtain ⟨x, _, rfl⟩ := List.mem_map.1 hb
  cases x <;> simp
/-- What bits are left at a place. -/
def restL (L : List UInt8) (a : Nat) : List Int := (bnums (bitsB L)).drop a
theorem bitsB_len8 (L : List UInt8) : (bitsB L).length = 8 * L.length := by
  induction L with
  | nil => rfl
  | cons u r ih =>
    have : bitsB (u :: r) = lowB 8 (u.toNat : Int) ++ bitsB r := by simp [bitsB]
    rw [this, List.length_append, lowB_len, ih, List.length_cons]; omega
theorem restL_len (L : List UInt8) (a : Nat) : (restL L a).length = 8 * L.length - a := by unfold restL; rw [List.length_drop, bnums_len, bitsB_len8]
theorem restL_01 (L : List UInt8) (a : Nat) : ∀ b ∈ restL L a, b = 0 ∨ b = 1 := fun b hb => bnums_01 _ b (List.mem_of_mem_drop hb)
theorem peek_one (L : List UInt8) (a n : Nat) (h : a + n < 8 * L.length) : ((peekN L (a + n) 1 : Nat) : Int) = (restL L a)[n]'(by rw [restL_len]; omega) := by
  have hb : a + n < (bitsB L).length := by rw [bitsB_len8]; exact h
  unfold peekN
  have e : ((bitsB L).drop (a + n)).take 1 = [(bitsB L)[a + n]] := by rw [List.drop_eq_getElem_cons hb]; rfl
  rw [e]
  simp [natOf, restL, bnums]
theorem bits_step (L : List UInt8) (a n : Nat) (h : a + n < 8 * L.length) : bitsV ((restL L a).take (n + 1)) = 2 * bitsV ((restL L a).take n) + ((peekN L (a + n) 1 : Nat) : Int) := by
  have hl : n < (restL L a).length := by rw [restL_len]; omega
  rw [List.take_succ_eq_append_getElem hl, bitsV_snoc, peek_one L a n h]
theorem bitsV_pow (l : List Int) (h : ∀ b ∈ l, b = 0 ∨ b = 1) : 0 ≤ bitsV l ∧ bitsV l < 2 ^ l.length := by
  have gen : ∀ (r : List Int), (∀ b ∈ r, b = 0 ∨ b = 1) → 0 ≤ bitsV r.reverse ∧ bitsV r.reverse < 2 ^ r.length := by
    intro r
    induction r with
    | nil => intro _; exact ⟨by decide, by decide⟩
    | cons b r ih =>
      intro hb
      obtain ⟨h1, h2⟩ := ih (fun x hx => hb x (List.mem_cons_of_mem _ hx))
      have h3 := hb b List.mem_cons_self
      rw [List.reverse_cons, bitsV_snoc, List.length_cons, Int.pow_succ]
      omega
  have h1 := gen l.reverse (fun b hb => h b (List.mem_reverse.1 hb))
  rwa [List.reverse_reverse, List.length_reverse] at h1
theorem RdS.drewN' {w : World} {S : Nat → Prop} {g : Nat} {l : List UInt8} {a : Nat} (h : RdS w S g l a) (q : Nat) : RdS (w.drewN q) S g l a := h.ch ((Ch.refl (fun _ => False) w).drewN q) (fun _ _ h => h)
theorem hel1 : hel 1 = 1 ∧ (hel 1).toNat = 1 := by decide
theorem first_bd {l : List Int} {q : Nat} (hq : q ≤ 15) (hov : overTo l 15 = false) : firstC l q ≤ 32768 := by
  match q, hq with
  | 0, _ => exact Nat.zero_le _
  | p + 1, hq =>
    have h1 := endC_le (over_mono (show p ≤ 15 by omega) hov)
    have h2 : 2 ^ p ≤ 16384 := Nat.pow_le_pow_right (show 0 < 2 by omega) (show p ≤ 14 by omega)
    show 2 * endC l p ≤ 32768
    omega
/-- No bits are left, and no symbol was met. -/
theorem nx_end {l bits : List Int} (hall : ∀ x ∈ l, 0 ≤ x ∧ x ≤ 15) {n d : Nat} (hlen : bits.length = n) (hd : (d : Int) = bitsV (bits.take n)) (hno : ∀ t m, m ≤ n → ¬ Met l bits t m) : NX l bits (if openB l n d = true then 3 else 12) 0 0 := by
  have hm : ∀ t m, ¬ Met l bits t m := fun t m hM => hno t m (by have := hM.2.2.1; omega) hM
  rw [List.take_of_length_le (by omega)] at hd
  have hop : openB l n d = true ↔ Opens l bits := by
    rw [open_iff hall]
    unfold Opens
    rw [hlen]
    constructor
    · rintro ⟨s, k, h1, h2, h3⟩
      exact ⟨s, k, h1, h2, by rw [← hd, h3]⟩
    · rintro ⟨s, k, h1, h2, h3⟩
      exact ⟨s, k, h1, h2, by rw [← hd] at h3; omega⟩
  by_cases h : openB l n d = true
  · rw [if_pos h]; exact .inr (.inl ⟨rfl, rfl, hm, hop.1 h⟩)
  · rw [if_neg h]; exact .inr (.inr ⟨rfl, rfl, hm, fun h2 => h (hop.2 h2)⟩)
set_option maxHeartbeats 4000000 in
set_option maxRecDepth 100000 in
theorem hnext_any (l : List Int) (g B g2 : Nat) (S : Nat → Prop) (L : List UInt8) (a : Nat) (w : World) (hc : HCodeB w B l g) (hr : RdS w S g2 L a) (hS : ∀ k, S k → B ≤ k) (hl : l.length ≤ 320) (hall : ∀ x ∈ l, 0 ≤ x ∧ x ≤ 15) (hov : overTo l 15 = false) :
    Calls Try.prog 44 #[.pointer (some ⟨g, 0, none⟩), .pointer (some ⟨g2, 0, none⟩)] w fun e w' => ∃ E s N : Nat, NX l (restL L a) E s N ∧ e = .returned (.tuple #[.int .i64 s, .int .i64 E]) ∧ RdS w' S g2 L (if E = 0 then a + N else a) ∧ Ch S w w' := by
  have Hall := Lib.hid hall
  have Hov := Lib.hid hov
  have HS := Lib.hid hS
  have Hc := Lib.hid hc
  have haL : a ≤ 8 * L.length := by obtain ⟨_, _, _, _, _, _, h, _⟩ := hr; exact h
  have hLL : L.length ≤ 100000000 := by obtain ⟨_, _, _, _, _, _, _, h⟩ := hr; exact h
  have hrl := restL_len L a
  have hmk := rmark_any g2 S L a w hr
  have Hr := Lib.hid hr
  have Hrl := Lib.hid hrl
  clear hall hov hS hc hr hrl
  go_enter Try.func44, Try.ntmps44
  go_wp2_with fail
  refine hmk.mono ?_
  rintro e w1 ⟨rfl, rfl⟩
  clear hmk
  go_wp2_with fail
  go_loopw [7, 8] (fun co nn wr => ∃ n d : Nat, n ≤ 15 ∧ nn = .int .i64 ((n + 1 : Nat) : Int) ∧ co = .int .i64 d ∧ Hid ((d : Int) = bitsV ((restL L a).take n)) ∧ d < 32768 ∧ a + n ≤ 8 * L.length ∧ Hid (∀ t m, m ≤ n → ¬ Met l (restL L a) t m) ∧ RdS wr S g2 L (a + n) ∧ Ch S w wr) (fun _ nn _ => 16 - (intOf nn).toNat)
  case atStart =>
    exact ⟨0, 0, by omega, rfl, rfl, rfl, by omega, by omega, Lib.hid (fun t m hm hM => by have := hM.2.1; omega), Hr.out, Ch.refl _ _⟩
  case round =>
    obtain ⟨n, d, hn, rfl, rfl, hd, hd2, han, hno, hrd, hch⟩ := hrel
    clear Hr
    by_cases hlt : n < 15
    · by_cases hex : a + n = 8 * L.length
      · have hno2 := nx_end Hall.out (by rw [Hrl.out]; omega) hd.out hno.out
        have hdn : d < 2 ^ n := by
          have h := (bitsV_pow _ (fun b hb => restL_01 L a b (List.mem_of_mem_take hb)) : 0 ≤ bitsV ((restL L a).take n) ∧ bitsV ((restL L a).take n) < 2 ^ ((restL L a).take n).length)
          rw [← hd.out, List.length_take, Hrl.out, Nat.min_eq_left (by omega)] at h
          have h2 : ((2 : Int) ^ n) = ((2 ^ n : Nat) : Int) := by simp
          rw [h2] at h
          omega
        have hbn := rbits_no g2 S L (a + n) 1 wr hrd (by rw [hel1.1]; omega)
        have HN := Lib.hid hno2
        have HD := Lib.hid hdn
        clear hno2 hdn hno hd
        go_wp2_with fail
        refine hbn.mono ?_
        rintro e w2 ⟨rfl, q2, rfl⟩
        have hbk := rback_any g2 S L (a + n) (wr.drewN q2) (a : Int) (hrd.drewN' q2)
        rw [if_pos (by omega), Int.toNat_natCast] at hbk
        clear hbn
        go_wp2_with fail
        refine hbk.mono ?_
        rintro e w3 ⟨rfl, hr3, hc3⟩
        have hch3 : Ch S w w3 := (hch.drewN q2).trans hc3 (fun i h => .inl h)
        have hcB : HCodeB w3 B l g := Hc.out.ch hch3 HS.out
        have hop := hopen_any l g B n d w3 hcB hn HD.out hl Hov.out
        clear hbk hcB hc3 hrd hch
        cases hb : openB l n d with
        | true =>
          rw [hb] at hop HN
          clear hb
          go_wp2_with fail
          refine hop.mono ?_
          rintro e w4 ⟨rfl, q4, rfl⟩
          go_wp2
          go_ret2
          exact ⟨3, 0, 0, HN.out, rfl, by rw [if_neg (by omega)]; exact hr3.drewN' q4, hch3.drewN q4⟩
        | false =>
          rw [hb] at hop HN
          clear hb
          go_wp2_with fail
          refine hop.mono ?_
          rintro e w4 ⟨rfl, q4, rfl⟩
          go_wp2
          go_ret2
          exact ⟨12, 0, 0, HN.out, rfl, by rw [if_neg (by omega)]; exact hr3.drewN' q4, hch3.drewN q4⟩
      · have hby := rbits_yes g2 S L (a + n) 1 wr hrd (by rw [hel1.1]; omega)
        have hst := bits_step L a n (by omega)
        have hb01 := restL_01 L a _ (List.getElem_mem (by rw [Hrl.out]; omega) : (restL L a)[n]'(by rw [Hrl.out]; omega) ∈ restL L a)
        rw [← peek_one L a n (by omega)] at hb01
        rw [← hd.out] at hst
        rw [hel1.2] at hby
        generalize peekN L (a + n) 1 = b at *
        obtain ⟨d', hd'⟩ : ∃ d' : Nat, 2 * d + b = d' := ⟨_, rfl⟩
        have hst' : (d' : Int) = bitsV ((restL L a).take (n + 1)) := by rw [hst]; omega
        have hd32 : d' < 32768 := by
          have h := (bitsV_pow _ (fun b hb => restL_01 L a b (List.mem_of_mem_take hb)) : 0 ≤ bitsV ((restL L a).take (n + 1)) ∧ bitsV ((restL L a).take (n + 1)) < 2 ^ ((restL L a).take (n + 1)).length)
          rw [← hst', List.length_take, Hrl.out, Nat.min_eq_left (by omega)] at h
          have h2 : ((2 : Int) ^ (n + 1)) = ((2 ^ (n + 1) : Nat) : Int) := by simp
          rw [h2] at h
          have h3 : 2 ^ (n + 1) ≤ 32768 := Nat.pow_le_pow_right (show 0 < 2 by omega) (show n + 1 ≤ 15 by omega)
          omega
        have Hst := Lib.hid hst'
        have hb2 : b ≤ 1 := by omega
        clear hst hst' hb01 hd
        obtain ⟨q, hq⟩ : ∃ q : Nat, n + 1 = q := ⟨_, rfl⟩
        rw [hq] at Hst ⊢
        have Hq := Lib.hid hq
        have hq15 : q ≤ 15 := by omega
        have hq1 : 1 ≤ q := by omega
        have hqL : a + q ≤ 8 * L.length := by omega
        go_wp2_with fail
        refine hby.mono ?_
        rintro e w2 ⟨rfl, hr2, hc2⟩
        have hch2 : Ch S w w2 := hch.trans hc2 (fun i h => .inl h)
        obtain ⟨A, m, cp, c0, c1, hmc, hm, hrow⟩ := (Hc.out.ch hch2 HS.out).row (show q < 16 by omega)
        have hr2' : RdS w2 S g2 L (a + q) := by rw [show a + q = a + n + 1 by omega]; exact hr2
        have e0 : (2 : Int) * (d : Int) + (b : Int) = (d' : Int) := by omega
        have hF := first_bd (q := q) hq15 Hov.out
        have hml : m ≤ 320 := by rw [hm]; have := cntTo_le l (q : Int) l.length; unfold cnt; omega
        have hmet : ∀ t, Met l (restL L a) t q → firstC l q ≤ d' ∧ d' - firstC l q < m := by
          intro t hM
          obtain ⟨h1, h2, h3, h4⟩ := hM
          rw [← Hst.out] at h4
          have h5 := codeS_lt h1 h2
          obtain ⟨p, rfl⟩ : ∃ p, q = p + 1 := ⟨q - 1, by omega⟩
          rw [endC_first] at h5
          have h6 : firstC l (p + 1) ≤ codeS l t (p + 1) := by unfold codeS; omega
          have e : ((p + 1 : Nat) : Int) = (p : Int) + 1 := by omega
          rw [e] at hm
          omega
        have e1 : (0 : Int) ≤ (q : Int) := by omega
        have e2 : (q : Int) < 16 := by omega
        have hlen := hrow.ilen
        by_cases hk : firstC l q ≤ d' ∧ d' - firstC l q < m
        · obtain ⟨s, hs1, hs2, hs3, hs4⟩ := sym_of_code (l := l) (n := q) (c := d') hk.1 (by rw [← hm]; exact hk.2)
          have hM : Met l (restL L a) s q := ⟨hs3, hq1, by rw [Hrl.out]; omega, by rw [← Hst.out, hs4]⟩
          obtain ⟨i, hi⟩ : ∃ i : Nat, d' - firstC l q = i := ⟨_, rfl⟩
          rw [hi] at hs1
          obtain ⟨b3, o3, x, rfl, hbb3, hx3, hcx3⟩ := hrow.num (show i < m by omega)
          rw [hs1] at hx3
          injection hx3 with hx3
          subst hx3
          have HM := Lib.hid hM
          have e3 : (d' : Int) - (firstC l q : Int) = (i : Int) := by omega
          have e4 : (i : Int) < (m : Int) := by omega
          have g1 : decide ((0 : Int) ≤ (i : Int)) = true := decide_eq_true (by omega)
          have g2' : decide (i < m) = true := decide_eq_true (by omega)
          generalize firstC l q = F at *
          clear hk hs1 hs2 hs3 hs4 hM hmet hno hrow hlen hby hc2 hch hrd hr2 hm hi
          go_wp2
          go_ret2
          exact ⟨0, s, q, .inl ⟨rfl, HM.out⟩, rfl, by rw [if_pos rfl]; exact hr2', hch2⟩
        · have hno' : ∀ t m, m ≤ q → ¬ Met l (restL L a) t m := by
            intro t m' hm' hM
            by_cases e : m' = q
            · rw [e] at hM; exact hk (hmet t hM)
            · exact hno.out t m' (by omega) hM
          have Hno' := Lib.hid hno'
          have hFi : (firstC l q : Int) ≤ 32768 := by omega
          by_cases hlo : d' < firstC l q
          · obtain ⟨z, hz⟩ : ∃ z : Int, (d' : Int) - (firstC l q : Int) = z := ⟨_, rfl⟩
            have g1 : decide ((0 : Int) ≤ z) = false := decide_eq_false (by omega)
            generalize firstC l q = F at *
            clear hk hno' hmet hno hrow hlen hby hc2 hch hrd hr2 hm hlo
            go_wp2_with fail
            go_roundw
            case rel => exact ⟨q, d', hq15, by go_num, rfl, Hst, hd32, hqL, Hno', hr2', hch2⟩
            case measure => have := Hq.out; simp only [intOf]; omega
          · obtain ⟨i, hi⟩ : ∃ i : Nat, d' - firstC l q = i := ⟨_, rfl⟩
            have e3 : (d' : Int) - (firstC l q : Int) = (i : Int) := by omega
            have g1 : decide ((0 : Int) ≤ (i : Int)) = true := decide_eq_true (by omega)
            have g2' : decide (i < m) = false := decide_eq_false (by omega)
            generalize firstC l q = F at *
            clear hk hno' hmet hno hrow hlen hby hc2 hch hrd hr2 hm hi hlo
            go_wp2_with fail
            go_roundw
            case rel => exact ⟨q, d', hq15, by go_num, rfl, Hst, hd32, hqL, Hno', hr2', hch2⟩
            case measure => have := Hq.out; simp only [intOf]; omega
    · have : n = 15 := by omega
      subst this
      have hm : ∀ t m, ¬ Met l (restL L a) t m := fun t m hM => by
        have hb := Hall.out _ (List.mem_of_getElem? hM.1)
        exact hno.out t m (by omega) hM
      have hnx : NX l (restL L a) 12 0 0 := .inr (.inr ⟨rfl, rfl, hm, fun ⟨s, m, h1, h2, _⟩ => by
        have hb := Hall.out _ (List.mem_of_getElem? h1)
        rw [Hrl.out] at h2
        omega⟩)
      have Hnx := Lib.hid hnx
      have hbk := rback_any g2 S L (a + 15) wr (a : Int) hrd
      rw [if_pos (by omega), Int.toNat_natCast] at hbk
      clear hm hnx hno hd hrd
      go_wp2_with fail
      refine hbk.mono ?_
      rintro e w3 ⟨rfl, hr3, hc3⟩
      have hch3 : Ch S w w3 := hch.trans hc3 (fun i h => .inl h)
      clear hbk hch hc3
      go_wp2
      go_ret2
      exact ⟨12, 0, 0, Hnx.out, rfl, by rw [if_neg (by omega)]; exact hr3, hch3⟩
end Go.Proofs.Ytnedboomhbdecaa
