/- Contracts of package wal: Size, rising. -/
import Derived.Test.YthflnndjjhifeaaCrc2
import Derived.Test.YthflnndjjhifeaaPcs
import Derived.Test.YthflnndjjhifeaaConv
namespace Go.Proofs.Ythflnndjjhifeaa
open Go.RowKit

/-- How many bytes a batch has. -/
def wsz (n : Int) : Int := if n < 0 ∨ 4096 < n then 0 else 12 + 516 * n
theorem wsize_any (n : Int) (w : World) : Calls Try.prog 32 #[.int .i64 n] w fun e w' => e = .returned (.int .i64 (wsz n)) ∧ w = w' := by
  by_cases h0 : n < 0
  · go_enter Try.func32, Try.ntmps32
    go_wp2
    go_ret
    exact ⟨ret_int (by unfold wsz; rw [if_pos (.inl h0)]), rfl⟩
  · by_cases h1 : 4096 < n
    · go_enter Try.func32, Try.ntmps32
      go_wp2
      go_ret
      exact ⟨ret_int (by unfold wsz; rw [if_pos (.inr h1)]), rfl⟩
    · go_enter Try.func32, Try.ntmps32
      go_wp2
      go_ret
      exact ⟨ret_int (by unfold wsz; rw [if_neg (by omega)]; omega), rfl⟩
/-- The numbers rise, and fit, above one that came. -/
def risB : Int → List Int → Bool
  | _, [] => true
  | last, z :: r => (fitsB 3 [z] && decide (last < z)) && risB z r
def nosOf (l : List (List Int × List UInt8)) : List Int := l.map fun p => p.1.headD 0

theorem asz1 (v : World) (o : Obj) : (v.alloc o).heap.size = v.heap.size + 1 := by simp
theorem nos_drop {ls : List (List Int × List UInt8)} {j : Nat} {x : Int} {l : List UInt8} (h : ls[j]? = some ([x], l)) : (nosOf ls).drop j = x :: (nosOf ls).drop (j + 1) := by
  have hj : j < ls.length := by
    rcases Nat.lt_or_ge j ls.length with h1 | h1
    · exact h1
    · rw [List.getElem?_eq_none h1] at h; cases h
  have h2 : ls[j] = ([x], l) := by rw [List.getElem?_eq_getElem hj] at h; injection h
  have hj2 : j < (nosOf ls).length := by simp [nosOf]; exact hj
  rw [List.drop_eq_getElem_cons hj2]
  congr 1
  simp [nosOf, h2]
set_option maxHeartbeats 1000000 in
theorem rising_any (A : Option Addr) (n c : Nat) (ls : List (List Int × List UInt8)) (w : World) (hr : RdPcs w w.heap.size 1 A n ls) (hn : n ≤ 1099511627776) :
    Calls Try.prog 40 #[.slice A n c] w fun e w' => e = .returned (.bool (risB (-1) (nosOf ls))) ∧ Below w.heap.size w w' := by
  go_enter Try.func40, Try.ntmps40
  go_wp2_with fail
  go_loopw [3, 8] (fun la i wr => ∃ (j : Nat) (y : Int), j ≤ n ∧ i = .int .i64 j ∧ la = .int .i64 y ∧ -9223372036854775808 ≤ y ∧ y ≤ 9223372036854775807 ∧ Hid (risB (-1) (nosOf ls) = risB y ((nosOf ls).drop j)) ∧ Below w.heap.size w wr) (fun _ i _ => n - (intOf i).toNat)
  case atStart => exact ⟨0, -1, Nat.zero_le _, rfl, rfl, by omega, by omega, rfl, Below.refl _ _⟩
  case round =>
    obtain ⟨j, y, hj, rfl, rfl, hy1, hy2, hris, hbw⟩ := hrel
    by_cases hlt : j < n
    · obtain ⟨b, o, ⟨zs, bl⟩, rfl, hbb, hx, hzl, hzb, hzc, v, hvc, Ab, nb, cb, rfl, hvr, hvn⟩ := (hr.below hbw (Nat.le_refl _)).at_ hlt
      obtain ⟨x, rfl⟩ : ∃ x, zs = [x] := by
        match zs, hzl with
        | [x], _ => exact ⟨x, rfl⟩
      have k0 := hzc 0 x rfl
      simp only [Nat.reduceAdd, Nat.add_zero] at k0 hvc
      have hx0 := hzb x (by simp)
      unfold i64B at hx0
      obtain ⟨hxa, hxb⟩ := hx0
      have hnd := nos_drop hx
      have hri : risB y ((nosOf ls).drop j) = ((fitsB 3 [x] && decide (y < x)) && risB x ((nosOf ls).drop (j + 1))) := by rw [hnd]; rfl
      have Hri := Lib.hid (hris.out.trans hri)
      have w3 : (wid 3).toNat = 3 := by decide
      have hone := (Rd.oneI (wr.alloc (.cells #[.int .i64 x, .slice Ab nb cb] 51)) 3 x).more (B' := ((wr.alloc (.cells #[.int .i64 x, .slice Ab nb cb] 51)).alloc (.cells #[.int .i64 x] 3)).heap.size) (by simp)
      rw [asz1 wr] at hone
      have hf := fits_any 3 _ 1 1 [x] _ hone (by omega) (by simpa using ⟨hxa, hxb⟩)
      rw [w3] at hf
      have hbe : Below w.heap.size w ((wr.alloc (.cells #[.int .i64 x, .slice Ab nb cb] 51)).alloc (.cells #[.int .i64 x] 3)) := (hbw.alloc hbw.size _).alloc (by have := hbw.size; simp; omega) _
      clear hnd hri hzc hzl hzb hx hris hone w3
      cases hfi : fitsB 3 [x] with
      | false =>
        rw [hfi] at hf Hri
        clear hfi
        go_wp2_with fail
        refine hf.mono ?_
        rintro e w4 ⟨rfl, rfl⟩
        go_wp2
        go_ret
        exact ⟨ret_bool (by rw [Hri.out]; rfl), hbe⟩
      | true =>
        rw [hfi] at hf Hri
        clear hfi
        by_cases hxy : x ≤ y
        · have Hno : Hid ((true && decide (y < x) && risB x ((nosOf ls).drop (j + 1))) = false) := Lib.hid (by simp; intro h; omega)
          go_wp2_with fail
          refine hf.mono ?_
          rintro e w4 ⟨rfl, rfl⟩
          go_wp2
          go_ret
          exact ⟨ret_bool (by rw [Hri.out, Hno.out]), hbe⟩
        · have hyx : y < x := by omega
          have Hno : Hid ((true && decide (y < x) && risB x ((nosOf ls).drop (j + 1))) = risB x ((nosOf ls).drop (j + 1))) := Lib.hid (by simp [hyx])
          go_wp2_with fail
          refine hf.mono ?_
          rintro e w4 ⟨rfl, rfl⟩
          go_wp2_with fail
          go_roundw
          case rel => exact ⟨j + 1, x, by omega, by go_num, rfl, hxa, hxb, Lib.hid (by rw [Hri.out, Hno.out]), hbe⟩
          case measure => simp [intOf]; omega
    · have : j = n := by omega
      subst this
      have hln := hr.1
      have hnil : risB (-1) (nosOf ls) = true := by
        rw [hris.out, List.drop_of_length_le (by simp [nosOf]; omega)]; rfl
      have Hnil := Lib.hid hnil
      clear hnil hln
      go_wp2
      go_ret
      exact ⟨ret_bool (by rw [Hnil.out]), hbw⟩
end Go.Proofs.Ythflnndjjhifeaa
