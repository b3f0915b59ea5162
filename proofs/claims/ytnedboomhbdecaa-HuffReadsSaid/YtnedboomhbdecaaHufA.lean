/- Contracts of the reference's begins and Next. -/
import Derived.Test.YtnedboomhbdecaaHuf9
import Derived.Test.YtnedboomhbdecaaHuf5
namespace Go.Proofs.Ytnedboomhbdecaa
open Go.RowKit
attribute [local go_sem ↓] Go.wp_at_zero Go.wp_at_succ

theorem bitsV_inj : ∀ (x y : List Int), x.length = y.length → (∀ b ∈ x, b = 0 ∨ b = 1) → (∀ b ∈ y, b = 0 ∨ b = 1) → bitsV x = bitsV y → x = y := by
  have gen : ∀ (x y : List Int), x.length = y.length → (∀ b ∈ x, b = 0 ∨ b = 1) → (∀ b ∈ y, b = 0 ∨ b = 1) → bitsV x.reverse = bitsV y.reverse → x = y := by
    intro x
    induction x with
    | nil => intro y hl _ _ _; exact (List.eq_nil_of_length_eq_zero (by simpa using hl.symm)).symm
    | cons a r ih =>
      intro y hl hx hy hv
      match y, hl with
      | b :: s, hl =>
        rw [List.reverse_cons, List.reverse_cons, bitsV_snoc, bitsV_snoc] at hv
        have ha := hx a List.mem_cons_self
        have hb := hy b List.mem_cons_self
        have hab : a = b := by omega
        have h2 := ih s (by simpa using hl) (fun c hc => hx c (List.mem_cons_of_mem _ hc)) (fun c hc => hy c (List.mem_cons_of_mem _ hc)) (by omega)
        rw [hab, h2]
  intro x y hl hx hy hv
  have := gen x.reverse y.reverse (by simpa using hl) (fun b hb => hx b (List.mem_reverse.1 hb)) (fun b hb => hy b (List.mem_reverse.1 hb)) (by rw [List.reverse_reverse, List.reverse_reverse]; exact hv)
  rw [← List.reverse_reverse x, ← List.reverse_reverse y, this]
/-- Do bits begin so, as far as both go? -/
def begB (x y : List Int) : Bool := decide (x.take y.length = y.take x.length)
theorem begB_no {x y : List Int} {j : Nat} {a b : Int} (hx : x[j]? = some a) (hy : y[j]? = some b) (h : a ≠ b) : begB x y = false := by
  refine decide_eq_false (fun e => ?_)
  have h1 : (x.take y.length)[j]? = some a := by
    have : j < y.length := by
      rcases Nat.lt_or_ge j y.length with h | h
      · exact h
      · rw [List.getElem?_eq_none h] at hy; cases hy
    rw [List.getElem?_take, if_pos this]; exact hx
  have h2 : (y.take x.length)[j]? = some b := by
    have : j < x.length := by
      rcases Nat.lt_or_ge j x.length with h | h
      · exact h
      · rw [List.getElem?_eq_none h] at hx; cases hx
    rw [List.getElem?_take, if_pos this]; exact hy
  rw [e, h2] at h1
  injection h1 with h1
  exact h h1.symm
theorem begB_yes {x y : List Int} {j : Nat} (h : x.take j = y.take j) (hj : j = y.length ∧ j ≤ x.length ∨ j = x.length ∧ j ≤ y.length) : begB x y = true := by
  refine decide_eq_true ?_
  rcases hj with ⟨rfl, h2⟩ | ⟨rfl, h2⟩
  · rw [h, List.take_of_length_le (Nat.le_refl _), List.take_of_length_le h2]
  · rw [← h, List.take_of_length_le (Nat.le_refl _), List.take_of_length_le h2]
set_option maxHeartbeats 1000000 in
theorem begins_any (A : Option Addr) (n c : Nat) (B : Option Addr) (m d : Nat) (x y : List Int) (w : World) (hr : Rd w w.heap.size 1 A n (its x)) (hs : Rd w w.heap.size 1 B m (its y)) (hn : n ≤ 1099511627776) (hm : m ≤ 1099511627776) :
    Calls Try.prog 60 #[.slice A n c, .slice B m d] w fun e w' => e = .returned (.bool (begB x y)) ∧ ∃ q, w' = w.drewN q := by
  have Hx := Lib.hid hr.ilen
  have Hy := Lib.hid hs.ilen
  go_enter Try.func60, Try.ntmps60
  go_wp2_with fail
  go_loopw [5] (fun i wr => ∃ j : Nat, j ≤ n ∧ j ≤ m ∧ i = .int .i64 j ∧ Hid (x.take j = y.take j) ∧ ∃ q, wr = w.drewN q) (fun i _ => n - (intOf i).toNat)
  case atStart => exact ⟨0, Nat.zero_le _, Nat.zero_le _, rfl, Lib.hid rfl, 0, rfl⟩
  case round =>
    obtain ⟨j, hj, hjm, rfl, hall, q, rfl⟩ := hrel
    by_cases hm' : j < m
    · have g1 : decide (j < m) = true := decide_eq_true hm'
      by_cases hn' : j < n
      · have g2 : decide (j < n) = true := decide_eq_true hn'
        obtain ⟨b, o, u, rfl, hbb, hu, hcu⟩ := hr.num hn'
        obtain ⟨b', o', v, rfl, hbb', hv, hcv⟩ := hs.num hm'
        have e1 : (j : Int) < (m : Int) := by omega
        have e2 : (j : Int) < (n : Int) := by omega
        have e3 : (0 : Int) ≤ (j : Int) := by omega
        by_cases huv : u = v
        · subst huv
          have hts := take_step hu
          have hts' := take_step hv
          have hnx : x.take (j + 1) = y.take (j + 1) := by rw [hts, hts', hall.out]
          have Hnx := Lib.hid hnx
          have hne : (u != u) = false := by simp
          clear hts hts' hnx hu hv hall
          go_wp2_with fail
          go_quiet (fail)
          go_wp2_with fail
          go_roundw
          case rel => exact ⟨j + 1, by omega, by omega, by go_num, Hnx, _, rfl⟩
          case measure => simp only [intOf]; omega
        · have hne : (u != v) = true := by rw [bne_iff_ne]; exact huv
          have hno := begB_no hu hv huv
          have Hno := Lib.hid hno
          clear hno hu hv hall huv
          go_wp2_with fail
          go_quiet (fail)
          go_wp2
          go_ret
          exact ⟨ret_bool Hno.out.symm, by first | exact ⟨_, rfl⟩ | exact ⟨_, World.drewN_drewN _ _ _⟩⟩
      · have g2 : decide (j < n) = false := decide_eq_false hn'
        have hy := begB_yes hall.out (.inr ⟨by rw [Hx.out]; omega, by rw [Hy.out]; omega⟩)
        have Hyy := Lib.hid hy
        clear hy hall
        go_wp2
        go_ret
        exact ⟨ret_bool Hyy.out.symm, _, rfl⟩
    · have g1 : decide (j < m) = false := decide_eq_false hm'
      have hy := begB_yes hall.out (.inl ⟨by rw [Hy.out]; omega, by rw [Hx.out]; omega⟩)
      have Hyy := Lib.hid hy
      clear hy hall
      go_wp2
      go_ret
      exact ⟨ret_bool Hyy.out.symm, _, rfl⟩
/-- What the reference tells of a symbol. -/
theorem row_met {l bits : List Int} (h01 : ∀ b ∈ bits, b = 0 ∨ b = 1) {s n : Nat} (hs : l[s]? = some (n : Int)) (hn : 1 ≤ n) (hn15 : n ≤ 15) (hov : overTo l 15 = false) :
    (n ≤ bits.length → (begB bits (rowC l s) = true ↔ Met l bits s n)) ∧ (bits.length < n → (begB bits (rowC l s) = true ↔ bitsV bits = ((codeS l s n / 2 ^ (n - bits.length) : Nat) : Int))) := by
  obtain ⟨hrow, hval⟩ := rowC_code hs hn hn15 hov
  have hrl : (rowC l s).length = n := by rw [hrow, bitsL_len]
  have hr01 : ∀ b ∈ rowC l s, b = 0 ∨ b = 1 := by rw [hrow]; exact bitsL_01 _ _
  refine ⟨fun hle => ?_, fun hlt => ?_⟩
  · unfold begB
    rw [decide_eq_true_eq, hrl, List.take_of_length_le (l := rowC l s) (by omega)]
    constructor
    · intro h; exact ⟨hs, hn, hle, by rw [h, hval]⟩
    · rintro ⟨_, _, _, h⟩
      exact bitsV_inj _ _ (by rw [List.length_take, hrl]; omega) (fun b hb => h01 b (List.mem_of_mem_take hb)) hr01 (by rw [h, hval])
  · unfold begB
    rw [decide_eq_true_eq, hrl, List.take_of_length_le (l := bits) (by omega)]
    have hd := bitsV_take_div (rowC l s) hr01 bits.length n (by omega) (by omega)
    rw [List.take_of_length_le (l := rowC l s) (i := n) (by omega), hval, nat_div_pow] at hd
    constructor
    · intro h; rw [← h] at hd; exact hd.symm
    · intro h
      exact bitsV_inj _ _ (by rw [List.length_take, hrl]; omega) h01 (fun b hb => hr01 b (List.mem_of_mem_take hb)) (by rw [h, hd])
end Go.Proofs.Ytnedboomhbdecaa
