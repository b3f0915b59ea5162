/- Contracts: open, and the reading of a Code's cells below a bound. -/
import Derived.Test.YtnedboomhbdecaaHuf3
import Derived.Test.YtnedboomhbdecaaHufR
namespace Go.Proofs.Ytnedboomhbdecaa
open Go.RowKit
attribute [local go_sem ↓] Go.wp_at_zero Go.wp_at_succ

/-- A Code whose blocks lie below B. -/
def HCodeB (w : World) (B : Nat) (l : List Int) (g : Nat) : Prop :=
  ∃ vs A n c, Bk w g 86 (codeC vs (fun k => (firstC l k : Int)) (.slice A n c) (fillN l)) ∧ g < B ∧ B ≤ w.heap.size ∧ n = l.length ∧ n ≤ c ∧ Rd w B 1 A n (its l) ∧
    ∀ k, k < 16 → ∃ B' m d, vs k = .slice B' m d ∧ m ≤ d ∧ Rd w B 1 B' m (its (syms l (k : Int)))
theorem HCode.toB {w : World} {l : List Int} {g : Nat} (h : HCode w l g) : HCodeB w w.heap.size l g := by
  obtain ⟨vs, A, n, c, h1, h2, h3, h4, h5⟩ := h
  exact ⟨vs, A, n, c, h1, h1.lt, Nat.le_refl _, h2, h3, h4, h5⟩
theorem HCodeB.keep {w w' : World} {B : Nat} {l : List Int} {g : Nat} (h : HCodeB w B l g) (hb : ∀ i, i < B → w'.heap[i]? = w.heap[i]?) (hs : w.heap.size ≤ w'.heap.size) : HCodeB w' B l g := by
  obtain ⟨vs, A, n, c, h1, h2, h3, h4, h5, h6, h7⟩ := h
  have hk : ∀ p : Addr, p.block < B → w'.cell? p = w.cell? p := fun p hp => World.cell?_of_block (hb _ hp)
  refine ⟨vs, A, n, c, (hb g h2).trans h1, h2, by omega, h4, h5, h6.keep hk, fun k hk' => ?_⟩
  obtain ⟨B', m, d, e, hm, hr⟩ := h7 k hk'
  exact ⟨B', m, d, e, hm, hr.keep hk⟩
theorem HCodeB.ch {w w' : World} {B : Nat} {l : List Int} {g : Nat} {S : Nat → Prop} (h : HCodeB w B l g) (hc : Ch S w w') (hs : ∀ i, S i → B ≤ i) : HCodeB w' B l g := by
  have hB : B ≤ w.heap.size := by obtain ⟨_, _, _, _, _, _, h3, _⟩ := h; exact h3
  exact h.keep (fun i hi => hc.block i (by omega) (fun e => by have := hs i e; omega)) hc.size
theorem HCodeB.drewN {w : World} {B : Nat} {l : List Int} {g : Nat} (h : HCodeB w B l g) (q : Nat) : HCodeB (w.drewN q) B l g := h.keep (fun _ _ => rfl) (Nat.le_refl _)
theorem HCodeB.alloc {w : World} {B : Nat} {l : List Int} {g : Nat} (h : HCodeB w B l g) (o : Obj) : HCodeB (w.alloc o) B l g := by
  have hB : B ≤ w.heap.size := by obtain ⟨_, _, _, _, _, _, h3, _⟩ := h; exact h3
  exact h.keep (fun i hi => Below.heap_alloc w o i (by omega)) (by simp)
theorem HCodeB.below {w w' : World} {B : Nat} {l : List Int} {g : Nat} (h : HCodeB w B l g) (hb : Below B w w') : HCodeB w' B l g := h.keep (fun i hi => hb.block i hi) hb.size
/-- Row k's cells. -/
theorem HCodeB.row {w : World} {B : Nat} {l : List Int} {g : Nat} (h : HCodeB w B l g) {k : Nat} (hk : k < 16) : ∃ A m d, w.cell? ⟨g, k * 2, none⟩ = some (.slice A m d) ∧ w.cell? ⟨g, k * 2 + 1, none⟩ = some (.int .i64 (firstC l k : Int)) ∧ m ≤ d ∧ m = cnt l (k : Int) ∧ Rd w B 1 A m (its (syms l (k : Int))) := by
  obtain ⟨vs, A, n, c, h1, h2, h3, h4, h5, h6, h7⟩ := h
  obtain ⟨B', m, d, e, hm, hr⟩ := h7 k hk
  refine ⟨B', m, d, ?_, ?_, hm, ?_, hr⟩
  · rw [h1.cell, codeC_row _ _ _ _ _ hk, e]
  · rw [h1.cell, codeC_first _ _ _ _ _ hk]
  · have := hr.ilen; rw [← this]; rfl
/-- Does a longer code of length k begin with c of length n? -/
def hitB (l : List Int) (n c k : Nat) : Bool := decide (max (firstC l k) (c * 2 ^ (k - n)) < min (firstC l k + cnt l (k : Int)) (c * 2 ^ (k - n) + 2 ^ (k - n)))
/-- Does any? -/
def openB (l : List Int) (n c : Nat) : Bool := (List.range 16).any fun k => decide (n < k) && hitB l n c k
theorem openB_yes {l : List Int} {n c k : Nat} (h1 : n < k) (h2 : k < 16) (h : hitB l n c k = true) : openB l n c = true := by
  unfold openB
  rw [List.any_eq_true]
  exact ⟨k, List.mem_range.2 h2, by simp [h1, h]⟩
theorem openB_no {l : List Int} {n c : Nat} (h : ∀ k, n < k → k < 16 → hitB l n c k = false) : openB l n c = false := by
  unfold openB
  rw [List.any_eq_false]
  intro k hk
  by_cases hn : n < k
  · simp [hn, h k hn (List.mem_range.1 hk)]
  · simp [hn]
set_option maxHeartbeats 4000000 in
set_option maxRecDepth 100000 in
theorem hopen_any (l : List Int) (g B n c : Nat) (w : World) (h : HCodeB w B l g) (hn : n ≤ 15) (hc : c < 2 ^ n) (hl : l.length ≤ 320) (hov : overTo l 15 = false) :
    Calls Try.prog 59 #[.pointer (some ⟨g, 0, none⟩), .int .i64 n, .int .i64 c] w fun e w' => e = .returned (.bool (openB l n c)) ∧ ∃ q, w' = w.drewN q := by
  have Hov := Lib.hid hov
  have H := Lib.hid h
  have Hc := Lib.hid hc
  clear hov h hc
  go_enter Try.func59, Try.ntmps59
  go_wp2_with fail
  go_loopw [2, 7] (fun co kk wr => ∃ k d : Nat, n < k ∧ k ≤ 16 ∧ kk = .int .i64 k ∧ co = .int .i64 d ∧ d ≤ 32768 ∧ Hid (d = c * 2 ^ (k - 1 - n)) ∧ Hid (∀ j, n < j → j < k → hitB l n c j = false) ∧ ∃ q, wr = w.drewN q) (fun _ kk _ => 16 - (intOf kk).toNat)
  case atStart =>
    have h1 := Hc.out
    have h2 : 2 ^ n ≤ 32768 := Nat.pow_le_pow_right (show 0 < 2 by omega) hn
    exact ⟨n + 1, c, by omega, by omega, by go_num, rfl, by omega, Lib.hid (by rw [show n + 1 - 1 - n = 0 by omega]; omega), Lib.hid (fun j h1 h2 => by omega), 0, rfl⟩
  case round =>
    obtain ⟨k, d, hnk, hk16, rfl, rfl, hd, hdd, hno, q, rfl⟩ := hrel
    by_cases hlt : k < 16
    · obtain ⟨D, hD⟩ : ∃ D : Nat, k - n = D := ⟨_, rfl⟩
      have hD1 : k - 1 - n = D - 1 := by omega
      have hpow : c * 2 ^ D = d * 2 := by
        rw [hdd.out, hD1]
        obtain ⟨x, rfl⟩ : ∃ x, D = x + 1 := ⟨D - 1, by omega⟩
        rw [Nat.pow_succ, Nat.add_sub_cancel]
        rw [← Nat.mul_assoc]
      have h2d : d * 2 < 32768 := by
        have h1 := Hc.out
        have h2 : 2 ^ n * 2 ^ D ≤ 32768 := by
          rw [← Nat.pow_add]
          exact Nat.pow_le_pow_right (show 0 < 2 by omega) (show n + D ≤ 15 by omega)
        have h3 : c * 2 ^ D < 2 ^ n * 2 ^ D := Nat.mul_lt_mul_of_pos_right h1 (Nat.pow_pos (by omega))
        omega
      obtain ⟨A, m, cp, c0, c1, hmc, hm, _⟩ := H.out.row hlt
      have hhit : hitB l n c k = decide (max (firstC l k) (d * 2) < min (firstC l k + m) (d * 2 + 2 ^ D)) := by unfold hitB; rw [hD, hpow, hm]
      have hF : firstC l k ≤ 32768 := by
        have h1 := endC_le (over_mono (show k - 1 ≤ 15 by omega) Hov.out)
        obtain ⟨p, rfl⟩ : ∃ p, k = p + 1 := ⟨k - 1, by omega⟩
        have h2 : 2 ^ p ≤ 16384 := Nat.pow_le_pow_right (show 0 < 2 by omega) (show p ≤ 14 by omega)
        show 2 * endC l p ≤ 32768
        rw [Nat.add_sub_cancel] at h1
        omega
      have hm320 : m ≤ 320 := by rw [hm]; have := cntTo_le l (k : Int) l.length; unfold cnt; omega
      have hP : 2 ^ D ≤ 32768 := Nat.pow_le_pow_right (show 0 < 2 by omega) (show D ≤ 15 by omega)
      have hsh : wrap64 ((2 : Int) ^ D) = ((2 ^ D : Nat) : Int) := wrap_pow D (by omega)
      have Hhit := Lib.hid hhit
      have Hpow := Lib.hid hpow
      have HD := Lib.hid hD
      generalize firstC l k = F at *
      generalize hPD : 2 ^ D = P at *
      have HPD := Lib.hid hPD
      clear hPD
      have e1 : ((k : Int) - (n : Int)).toNat = D := by omega
      have e2 : (0 : Int) ≤ (k : Int) - (n : Int) := by omega
      have e3 : (k : Int) < 16 := by omega
      have e4 : (0 : Int) ≤ (k : Int) := by omega
      have e5 : IntKind.i64.wrap ((F : Int) + (m : Int)) = (F : Int) + (m : Int) := IntWalk.i64_in _ (by omega)
      clear hhit hpow hD hD1 hdd hm
      go_wp2_with fail
      go_quiet (fail)
      go_wp2_with fail
      · have hh : hitB l n c k = true := by
          rw [Hhit.out]
          simp only [decide_eq_true_eq]
          omega
        go_ret
        exact ⟨ret_bool (openB_yes hnk hlt hh).symm, by first | exact ⟨_, rfl⟩ | exact ⟨_, World.drewN_drewN _ _ _⟩⟩
      · have hh : hitB l n c k = false := by
          rw [Hhit.out]
          simp only [decide_eq_false_iff_not]
          omega
        go_roundw
        case rel => exact ⟨k + 1, d * 2, by omega, by omega, by go_num, by go_num, by omega, Lib.hid (by rw [show k + 1 - 1 - n = D by have := HD.out; omega, HPD.out]; exact Hpow.out.symm), Lib.hid (fun j h1 h2 => by
          by_cases e : j = k
          · rw [e]; exact hh
          · exact hno.out j h1 (by omega)), _, rfl⟩
        case measure => simp only [intOf]; omega
    · have : k = 16 := by omega
      subst this
      have hf := openB_no hno.out
      have Hf := Lib.hid hf
      clear hf hno hdd
      go_wp2
      go_ret
      exact ⟨ret_bool Hf.out.symm, _, rfl⟩
end Go.Proofs.Ytnedboomhbdecaa
