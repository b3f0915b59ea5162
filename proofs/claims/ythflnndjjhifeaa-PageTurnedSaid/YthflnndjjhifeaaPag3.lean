/- Contracts of the reference's Fits and Bytes of pages. -/
import Derived.Test.YthflnndjjhifeaaPag1
namespace Go.Proofs.Ythflnndjjhifeaa
open Go.RowKit

theorem fits3_eq (z : Int) : fitsB 3 [z] = (decide (0 ≤ z) && decide (z < 16777216)) := by
  simp [fitsB]
theorem reffits_any (z : Int) (w : World) : Calls Try.prog 24 #[.int .i64 z] w fun e w' => e = .returned (.bool (fitsB 3 [z])) ∧ w = w' := by
  rw [fits3_eq]
  by_cases h0 : 0 ≤ z
  · by_cases h1 : z < 16777216
    · go_enter Try.func24, Try.ntmps24
      go_wp2
      go_ret
      exact ⟨ret_bool (by simp; omega), rfl⟩
    · go_enter Try.func24, Try.ntmps24
      go_wp2
      go_ret
      exact ⟨ret_bool (by simp; omega), rfl⟩
  · go_enter Try.func24, Try.ntmps24
    go_wp2
    go_ret
    exact ⟨ret_bool (by simp; omega), rfl⟩

set_option maxHeartbeats 1000000 in
set_option maxRecDepth 100000 in
theorem refpage_any (z : Int) (A : Option Addr) (n c : Nat) (l : List UInt8) (w : World) (hr : Rd w w.heap.size 1 A n (bys l)) (hn : n ≤ 508) :
    Calls Try.prog 27 #[.int .i64 z, .slice A n c] w fun e w' => ∃ v, e = .returned v ∧ w'.ownsRow w.heap.size 5 1 v 512 (bys (sealB z l)) ∧ Below w.heap.size w w' := by
  have w4 : (wid 4).toNat = 4 := by decide
  have W4 := Lib.hid w4
  have hl := hr.blen
  have Hl := Lib.hid hl
  have hse : sealB z l = padB l ++ leB ((crcOf (leB z 4 ++ padB l)).toNat : Int) 4 := rfl
  have Hse := Lib.hid hse
  have hpl := padB_len l (by omega)
  have Hpl := Lib.hid hpl
  have hpad : padB l = l ++ List.replicate (508 - n) 0 := by rw [← hl]; rfl
  have Hpad := Lib.hid hpad
  clear w4 hl hse hpl hpad
  go_enter Try.func27, Try.ntmps27
  go_wp2_with (
    at_builtin
    refine ap_bys (own_nilB w w.heap.size _) hr (Below.refl _ _) (Nat.le_refl _) (by omega) rfl rfl rfl ?_
    intro v1 w1 hown1 hb1 _ _)
  simp only [Nat.zero_add, List.nil_append] at hown1
  go_loopw [5] (fun v wr => ∃ m : Nat, m ≤ 508 - n ∧ wr.ownsRow w.heap.size 5 1 v (n + m) (bys (l ++ List.replicate m 0)) ∧ Below w.heap.size w wr) (fun v _ => 508 - (match v with | .slice _ n _ => n | _ => 0))
  case atStart => exact ⟨0, Nat.zero_le _, by simpa using hown1, hb1⟩
  case round =>
    obtain ⟨m, hm, hown, hbw⟩ := hrel
    clear hown1 hb1
    obtain ⟨A1, c1, rfl, _, _⟩ := own_form hown
    have hsz := hbw.size
    by_cases hlt : m < 508 - n
    · have hlt2 : (n : Int) + m < 508 := by omega
      go_wp2_with (
        at_builtin
        refine ap_bys (hown.alloc _) (Rd.oneB wr _ (u := 0) rfl) (hbw.alloc hsz _) (by simp; omega) (by omega) rfl rfl rfl ?_
        intro v2 w2 hown2 hb2 _ _)
      rw [List.append_assoc, ← List.replicate_succ'] at hown2
      obtain ⟨A2, c2, rfl, _, _⟩ := own_form hown2
      go_roundw
      case rel => exact ⟨m + 1, by omega, hown2, hb2⟩
      case measure => simp; omega
    · have hm2 : m = 508 - n := by omega
      subst hm2
      rw [← Hpad.out] at hown
      obtain ⟨K, hK⟩ : ∃ K, n + (508 - n) = K := ⟨_, rfl⟩
      rw [hK] at hown ⊢
      obtain rfl : K = 508 := by omega
      clear hm hlt hK
      go_wp2_with fail
      refine (bytes_any z 4 wr).mono ?_
      rintro e w2 ⟨v2, rfl, hown2, hb2⟩
      rw [W4.out] at hown2
      obtain ⟨A2, c2, rfl, _, _⟩ := own_form hown2
      have hr2 := Rd.of_own hown2
      have hownO := own_below hown hb2 (Nat.le_refl _)
      have hbw2 := hbw.trans (hb2.mono hsz)
      clear hown2 hown hb2 hbw hsz
      have hgo : ∀ w3 v3, w3.ownsRow w2.heap.size 5 1 v3 (0 + 4) (bys ([] ++ leB z 4)) → Below w2.heap.size w2 w3 → w3.ownsRow w2.heap.size 5 1 v3 4 (bys (leB z 4)) ∧ Rd w3 w3.heap.size 1 A1 508 (bys (padB l)) := by
        intro w3 v3 h1 h2
        simp only [Nat.zero_add, List.nil_append] at h1
        exact ⟨h1, Rd.of_own (own_below hownO h2 (Nat.le_refl _))⟩
      have HGO := Lib.hid hgo
      clear hgo
      go_wp2_with (first
        | (at_builtin
           refine ap_bys (own_nilB w2 w2.heap.size _) hr2 (Below.refl _ _) (Nat.le_refl _) (by omega) rfl rfl rfl ?_
           intro v3 w3 hown3 hb3 _ _
           obtain ⟨hown3', hrO3⟩ := HGO.out w3 v3 hown3 hb3)
        | (at_builtin
           refine ap_bys hown3' hrO3 hb3 hb3.size (by omega) rfl rfl rfl ?_
           intro v4 w4 hown4 hb4 _ _))
      have hownO4 := own_below hownO hb4 (Nat.le_refl _)
      have hbw4 := hbw2.trans (hb4.mono hbw2.size)
      obtain ⟨A4, c4, rfl, _, _⟩ := own_form hown4
      have hr4 := Rd.of_own hown4
      clear hown3 hown3' hown4 hownO hrO3 hb3 hb4 hr2 HGO
      go_wp2_with fail
      refine (refcrc_any A4 _ c4 _ _ w4 hr4 (by omega)).mono ?_
      rintro e w5 ⟨rfl, rfl⟩
      have hC := (crcOf (leB z 4 ++ padB l)).isLt
      generalize hCC : (crcOf (leB z 4 ++ padB l)).toNat = C at *
      clear hCC
      go_wp2_with fail
      refine (bytes_any C 4 w4).mono ?_
      rintro e w6 ⟨v6, rfl, hown6, hb6⟩
      rw [W4.out] at hown6
      obtain ⟨A6, c6, rfl, _, _⟩ := own_form hown6
      have hr6 := Rd.of_own hown6
      have hownO6 := own_below hownO4 hb6 (Nat.le_refl _)
      have hbw6 := hbw4.trans (hb6.mono hbw4.size)
      clear hown6 hownO4 hb6 hbw4 hr4
      go_wp2_with (
        at_builtin
        refine ap_bys hownO6 hr6 hbw6 hbw6.size (by omega) rfl rfl rfl ?_
        intro v7 w7 hown7 hb7 _ _)
      rw [← Hse.out] at hown7
      go_ret
      exact ⟨_, rfl, hown7, hb7⟩
end Go.Proofs.Ythflnndjjhifeaa
