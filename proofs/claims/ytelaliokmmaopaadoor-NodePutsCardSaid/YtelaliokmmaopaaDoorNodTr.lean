/- Contracts for nodes: bytes.Trim of zeros. -/
import Derived.Test.YtelaliokmmaopaaDoorNodL
namespace Go.Proofs.YtelaliokmmaopaaDoor
open Go.RowKit
attribute [local go_sem ↓] Go.wp_at_zero Go.wp_at_succ

set_option maxHeartbeats 1000000 in
theorem triml_any (A : Option Addr) (n c : Nat) (l : List UInt8) (w : World) {B : Nat} (hr : Rd w B 1 A n (bys l)) (hnc : n ≤ c) :
    Calls Tryd.prog 44 #[.slice A n c, .int .u8 0] w fun e w' => ((∀ x ∈ l, x = 0) ∧ e = .returned (.slice none 0 0) ∨ (¬ ∀ x ∈ l, x = 0) ∧ ∃ A' m c' l', e = .returned (.slice A' m c') ∧ Rd w B 1 A' m (bys l') ∧ m ≤ c' ∧ m ≤ n ∧ ∃ y r, l' = y :: r ∧ y ≠ 0) ∧ w = w' := by
  have Hr := Lib.hid hr
  clear hr
  go_enter Tryd.func44, Tryd.ntmps44
  go_wp2_with fail
  go_loopw [0] (fun s wr => ∃ A' m c' l', s = .slice A' m c' ∧ m ≤ c' ∧ m ≤ n ∧ wr = w ∧ Hid (Rd w B 1 A' m (bys l') ∧ ((∀ x ∈ l, x = 0) ↔ ∀ x ∈ l', x = 0))) (fun s _ => match s with | .slice _ m _ => m | _ => 0)
  case atStart => exact ⟨A, n, c, l, rfl, hnc, Nat.le_refl _, rfl, Lib.hid ⟨Hr.out, Iff.rfl⟩⟩
  case round =>
    obtain ⟨A', m, c', l', rfl, hmc, hmn, rfl, HI⟩ := hrel
    obtain ⟨hr', hall⟩ := HI.out
    have hlen := hr'.blen
    rcases Nat.eq_zero_or_pos m with h0 | h0
    · subst h0
      have hl0 : l' = [] := List.eq_nil_of_length_eq_zero hlen
      have Hall := Lib.hid (hall.2 (by rw [hl0]; intro x hx; cases hx))
      clear hr' hall HI hlen hl0
      go_wp2_with fail
      go_ret
      exact ⟨.inl ⟨Hall.out, rfl⟩, rfl⟩
    · obtain ⟨b, o, u, rfl, hb, hu, hlt, hc⟩ := hr'.byte h0
      have hc0 : wr.cell? ⟨b, o, none⟩ = some (.int .u8 (u.toNat : Int)) := by simpa using hc
      obtain ⟨y, r, rfl⟩ : ∃ y r, l' = y :: r := by
        cases l' with
        | nil => simp at hlen; omega
        | cons y r => exact ⟨y, r, rfl⟩
      obtain rfl : u = y := by simpa using hu.symm
      have hm0 : (0 : Int) < (m : Int) := by omega
      have Hall := Lib.hid hall
      have Hr' := Lib.hid hr'
      clear hall hr' HI hu hc
      obtain ⟨A7, hA7, hA7'⟩ : ∃ A7 : Option Addr, (if c' = 1 then some (⟨b, o, none⟩ : Addr) else some ⟨b, o + 1, none⟩) = A7 ∧ (m - 1 = 0 ∨ A7 = some ⟨b, o + 1, none⟩) := by
        refine ⟨_, rfl, ?_⟩
        by_cases h : c' = 1
        · left; omega
        · right; rw [if_neg h]
      have hc1 : 1 ≤ c' := by omega
      by_cases hu0 : u = 0
      · have hz : ((u.toNat : Int) == 0) = true := by rw [hu0]; rfl
        have HN := Lib.hid (show Rd wr B 1 A7 (m - 1) (bys r) ∧ ((∀ x ∈ l, x = 0) ↔ ∀ x ∈ r, x = 0) from by
          have hrl : r.length = m - 1 := by simp at hlen; omega
          refine ⟨?_, ?_⟩
          · rcases hA7' with h | h
            · rw [h] at hrl ⊢
              rw [List.eq_nil_of_length_eq_zero hrl]
              exact Rd.empty
            · have := Hr'.out.bcut (k := 1) (m := m - 1) (by omega) (A' := A7) (fun _ => by rw [h]; simp [Addr.add])
              rw [List.drop_succ_cons, List.drop_zero, List.take_of_length_le (by omega)] at this
              exact this
          · rw [Hall.out]
            simp [hu0])
        clear Hall Hr' hlen hu0 hA7'
        go_wp2_with fail
        go_roundw
        case rel => exact ⟨A7, m - 1, c' - 1, r, by first | rfl | simp, by omega, by omega, by first | rfl | trivial, HN⟩
        case measure => simp; omega
      · have hz : ((u.toNat : Int) == 0) = false := by
          rw [beq_eq_false_iff_ne]
          intro h
          exact hu0 (UInt8.toNat_inj.1 (by simpa using h))
        have HF := Lib.hid (show ¬ ∀ x ∈ l, x = 0 from fun h => hu0 (Hall.out.1 h u (by simp)))
        have hm1 : ((m : Int) == 0) = false := by simp; omega
        have HU := Lib.hid hu0
        clear Hall hlen hu0 hA7 hA7'
        go_wp2_with fail
        go_ret
        exact ⟨.inr ⟨HF.out, _, m, c', u :: r, rfl, Hr'.out, hmc, hmn, u, r, rfl, HU.out⟩, rfl⟩
set_option maxHeartbeats 1000000 in
theorem trimr_any (A : Option Addr) (n c : Nat) (l : List UInt8) (w : World) {B : Nat} (hr : Rd w B 1 A n (bys l)) (hnc : n ≤ c) (hn : n ≤ 1000000) :
    Calls Tryd.prog 45 #[.slice A n c, .int .u8 0] w fun e w' => (∃ m, e = .returned (.slice A m c) ∧ m ≤ n ∧ (∀ x ∈ l.drop m, x = 0) ∧ (m = 0 ∨ ∃ k y, m = k + 1 ∧ l[k]? = some y ∧ y ≠ 0)) ∧ w' = w := by
  have Hlen := Lib.hid hr.blen
  have Hr := Lib.hid hr
  clear hr
  go_enter Tryd.func45, Tryd.ntmps45
  go_wp2_with fail
  go_loopw [0] (fun s wr => ∃ k, s = .slice A k c ∧ k ≤ n ∧ wr = w ∧ Hid (∀ x ∈ l.drop k, x = 0)) (fun s _ => match s with | .slice _ m _ => m | _ => 0)
  case atStart => exact ⟨n, rfl, Nat.le_refl _, rfl, Lib.hid (by rw [List.drop_of_length_le (by have := Hlen.out; omega)]; intro x hx; cases hx)⟩
  case round =>
    obtain ⟨k, rfl, hk, rfl, HZ⟩ := hrel
    rcases Nat.eq_zero_or_pos k with h0 | h0
    · subst h0
      go_wp2_with fail
      go_ret
      exact ⟨⟨0, rfl, Nat.zero_le _, HZ.out, .inl rfl⟩, rfl⟩
    · obtain ⟨k, rfl⟩ : ∃ i, k = i + 1 := ⟨k - 1, by omega⟩
      obtain ⟨b, o, u, rfl, hb, hu, hlt, hc⟩ := Hr.out.byte (k := k) (by omega)
      have hk0 : (0 : Int) < (k : Int) + 1 := by omega
      have hkc : k ≤ c := by omega
      have hk1 : IntKind.i64.wrap ((k : Int) + 1 - 1) = (k : Int) := by rw [show (k : Int) + 1 - 1 = (k : Int) by omega]; exact IntWalk.i64_in _ (by omega)
      have Hu := Lib.hid hu
      clear hu
      by_cases hu0 : u = 0
      · have hz : ((u.toNat : Int) == 0) = true := by rw [hu0]; rfl
        have HZ2 := Lib.hid (show ∀ x ∈ l.drop k, x = 0 from by
          obtain ⟨hl, e⟩ := List.getElem?_eq_some_iff.1 Hu.out
          rw [List.drop_eq_getElem_cons hl, e]
          intro x hx
          rcases List.mem_cons.1 hx with h | h
          · rw [h]; exact hu0
          · exact HZ.out x h)
        clear hu0 HZ
        go_wp2_with fail
        go_roundw
        case rel => exact ⟨k, by first | rfl | simp, by omega, by first | rfl | trivial, HZ2⟩
        case measure => simp
      · have hz : ((u.toNat : Int) == 0) = false := by
          rw [beq_eq_false_iff_ne]
          intro h
          exact hu0 (UInt8.toNat_inj.1 (by simpa using h))
        have HU := Lib.hid hu0
        clear hu0
        go_wp2_with fail
        go_ret
        exact ⟨⟨k + 1, rfl, hk, HZ.out, .inr ⟨k, u, rfl, Hu.out, HU.out⟩⟩, rfl⟩
set_option maxHeartbeats 1000000 in
set_option maxRecDepth 100000 in
theorem trim_any (A : Option Addr) (n c : Nat) (l : List UInt8) (w : World) {B : Nat} (hr : Rd w B 1 A n (bys l)) (hnc : n ≤ c) (hn : n ≤ 1000000) :
    Calls Tryd.prog 25 #[.slice A n c, .string ⟨#[0]⟩] w fun e w' => ((∀ x ∈ l, x = 0) ∧ e = .returned (.slice none 0 0) ∨ (¬ ∀ x ∈ l, x = 0) ∧ ∃ b o k c', e = .returned (.slice (some ⟨b, o, none⟩) (k + 1) c')) ∧ ∃ q, w' = w.drewN q := by
  have Hlen := Lib.hid hr.blen
  have Hr := Lib.hid hr
  clear hr
  rcases Nat.eq_zero_or_pos n with h0 | h0
  · subst h0
    go_enter Tryd.func25, Tryd.ntmps25
    go_wp2_with fail
    go_ret
    exact ⟨.inl ⟨(by rw [List.eq_nil_of_length_eq_zero Hlen.out]; intro x hx; cases hx), rfl⟩, 0, rfl⟩
  · have hn0 : ((n : Int) == 0) = false := by simp; omega
    by_cases hz : ∀ x ∈ l, x = 0
    · have HR := Lib.hid (show ∀ q, Calls Tryd.prog 45 #[.slice A n c, .int .u8 0] (w.drewN q) fun e w' => e = .returned (.slice A 0 c) ∧ w' = w.drewN q from fun q => (trimr_any A n c l (w.drewN q) (Hr.out.drewN q) hnc hn).mono (by
        rintro e w' ⟨⟨m, rfl, _, _, h⟩, rfl⟩
        rcases h with rfl | ⟨k, y, rfl, hy, hne⟩
        · exact ⟨rfl, rfl⟩
        · exact absurd (hz y (List.mem_of_getElem? hy)) hne))
      have HL := Lib.hid (show ∀ q, Calls Tryd.prog 44 #[.slice A 0 c, .int .u8 0] (w.drewN q) fun e w' => e = .returned (.slice none 0 0) ∧ w' = w.drewN q from fun q => (triml_any A 0 c [] (w.drewN q) (B := 0) Rd.empty (Nat.zero_le _)).mono (by
        rintro e w' ⟨⟨_, rfl⟩ | ⟨h, _⟩, rfl⟩
        · exact ⟨rfl, rfl⟩
        · exact absurd (fun x hx => by cases hx) h))
      have HZ := Lib.hid hz
      clear hz Hlen Hr
      go_enter Tryd.func25, Tryd.ntmps25
      go_upto_region 6 with (fail)
      go_quiet (first
        | (go_at_call 44; exact Calls.quiet_of_same (HL.out _))
        | (go_at_call 45; exact Calls.quiet_of_same (HR.out _)))
      go_wp2_with fail
      go_ret
      exact ⟨.inl ⟨HZ.out, rfl⟩, _, rfl⟩
    · have HR := Lib.hid (show Calls Tryd.prog 45 #[.slice A n c, .int .u8 0] w.drew fun e w' => (∃ m, e = .returned (.slice A m c) ∧ m ≤ n ∧ ¬ ∀ x ∈ l.take m, x = 0) ∧ w' = w.drew from (trimr_any A n c l w.drew Hr.out.drew hnc hn).mono (by
        rintro e w' ⟨⟨m, rfl, hm, hd, _⟩, rfl⟩
        refine ⟨⟨m, rfl, hm, fun h => hz fun x hx => ?_⟩, rfl⟩
        rw [← List.take_append_drop m l] at hx
        rcases List.mem_append.1 hx with h1 | h1
        · exact h x h1
        · exact hd x h1))
      have HL := Lib.hid (show ∀ m, m ≤ n → (¬ ∀ x ∈ l.take m, x = 0) → Calls Tryd.prog 44 #[.slice A m c, .int .u8 0] w.drew fun e w' => (∃ b o k c', e = .returned (.slice (some ⟨b, o, none⟩) (k + 1) c')) ∧ w' = w.drew from fun m hm hne => (triml_any A m c (l.take m) w.drew (B := B) (by
          have := Hr.out.drew.bcut (k := 0) (m := m) (by omega) (A' := A) (fun hm0 => by
            obtain ⟨b, o, _, hA, _⟩ := Hr.out.byte (k := 0) h0
            rw [hA]; simp [Addr.add])
          rwa [List.drop_zero] at this) (by omega)).mono (by
        rintro e w' ⟨⟨h, _⟩ | ⟨_, A', m', c', l', rfl, h1, h2, h3, y, r, rfl, h4⟩, rfl⟩
        · exact absurd h hne
        · have := h1.blen
          obtain ⟨b, o, _, rfl, _⟩ := h1.byte (k := 0) (by simp at this; omega)
          refine ⟨⟨b, o, m' - 1, c', ?_⟩, rfl⟩
          rw [show m' - 1 + 1 = m' by simp at this; omega]))
      have HZ := Lib.hid hz
      clear hz Hlen Hr
      go_enter Tryd.func25, Tryd.ntmps25
      go_upto_region 6 with (fail)
      go_region_law (first
        | (go_at_call 45; refine HR.out.mono ?_; rintro e w3 ⟨⟨m, rfl, hm, hne⟩, rfl⟩)
        | (go_at_call 44; refine (HL.out m hm hne).mono ?_; rintro e w4 ⟨⟨b, o, k, c', rfl⟩, rfl⟩)
        | (go_simp; go_at_call 45; refine HR.out.mono ?_; rintro e w3 ⟨⟨m, rfl, hm, hne⟩, rfl⟩)
        | (go_simp; go_at_call 44; refine (HL.out m hm hne).mono ?_; rintro e w4 ⟨⟨b, o, k, c', rfl⟩, rfl⟩))
      all_goals
        go_wp2_with fail
        go_ret
        exact ⟨.inr ⟨HZ.out, b, o, k, c', rfl⟩, 1, rfl⟩
end Go.Proofs.YtelaliokmmaopaaDoor
