/- Contracts of the reference for bits: High. -/
import Derived.Test.YtnedboomhbdecaaBit8
namespace Go.Proofs.Ytnedboomhbdecaa
open Go.RowKit

theorem bnums_drop_rev {l : List Bool} {i : Nat} {b : Bool} (h : l[i]? = some b) : bnums (l.drop i).reverse = bnums (l.drop (i + 1)).reverse ++ [(b.toNat : Int)] := by
  obtain ⟨hk, rfl⟩ := List.getElem?_eq_some_iff.1 h
  rw [List.drop_eq_getElem_cons hk, List.reverse_cons, bnums_snoc]

set_option maxHeartbeats 1000000 in
theorem refhigh_any (x v : Int) (w : World) :
    Calls Try.prog 29 #[.int .i64 x, .int .i64 v] w fun e w' => ∃ r, e = .returned r ∧ w'.ownsRow w.heap.size 3 1 r (hel x).toNat (its (bnums (lowB (hel x).toNat v).reverse)) ∧ Below w.heap.size w w' := by
  have hb := hel_bd x
  have hc := reflow_any x v w
  obtain ⟨d, hd⟩ : ∃ d : Nat, (hel x).toNat = d := ⟨_, rfl⟩
  have hd24 : d ≤ 24 := by omega
  have hll := lowB_len d v
  rw [hd] at hc ⊢
  clear hd hb
  generalize lowB d v = l at *
  have HC := Lib.hid hc
  have Hll := Lib.hid hll
  clear hc hll
  go_enter Try.func29, Try.ntmps29
  go_wp2_with fail
  refine HC.out.mono ?_
  rintro e w1 ⟨r, rfl, hown1, hb1⟩
  obtain ⟨A, c, rfl, _, _⟩ := own_form hown1
  have hr := Rd.of_own hown1
  clear hown1 HC
  go_wp2_with fail
  go_loopw [6, 7] (fun o i wr => ∃ k : Nat, k ≤ d ∧ i = .int .i64 ((k : Int) - 1) ∧ wr.ownsRow w1.heap.size 3 1 o (d - k) (its (bnums (l.drop k).reverse)) ∧ Below w1.heap.size w1 wr) (fun _ i _ => (intOf i + 1).toNat)
  case atStart => exact ⟨d, Nat.le_refl _, rfl, by rw [List.drop_of_length_le (by have := Hll.out; omega), Nat.sub_self]; exact own_nilI _ _ _, Below.refl _ _⟩
  case round =>
    obtain ⟨k, hk, rfl, hown, hbw⟩ := hrel
    rcases Nat.eq_zero_or_pos k with h0 | h0
    · subst h0
      rw [List.drop_zero] at hown
      go_wp2
      go_ret
      exact ⟨_, rfl, own_base hown hb1.size, hb1.trans (hbw.mono hb1.size)⟩
    · obtain ⟨i, rfl⟩ : ∃ i, k = i + 1 := ⟨k - 1, by omega⟩
      obtain ⟨b, o, u, rfl, hbb, hx, hcl⟩ := hr.num (show i < d by omega)
      obtain ⟨y, hy, rfl⟩ := bnums_at hx
      have hcl' := (hbw.cell (p := ⟨b, o + i, none⟩) hbb).trans hcl
      have hst := bnums_drop_rev hy
      have Hst := Lib.hid hst
      clear hst hx hy hcl
      generalize bnums (l.drop (i + 1)).reverse = q at *
      generalize y.toNat = Y at *
      have hsz := hbw.size
      go_wp2_with (
        at_builtin
        refine ap_its (hown.alloc _) (Rd.oneI wr _ _) (hbw.alloc hbw.size _) (by simp; omega) (by omega) rfl rfl rfl ?_
        intro v' w' hown' hb' _ _)
      go_roundw
      case rel => exact ⟨i, by omega, by go_num, by rw [Hst.out, show d - i = d - (i + 1) + 1 by omega]; exact hown', hb'⟩
      case measure => first | (simp [intOf]; omega) | simp [intOf]
end Go.Proofs.Ytnedboomhbdecaa
