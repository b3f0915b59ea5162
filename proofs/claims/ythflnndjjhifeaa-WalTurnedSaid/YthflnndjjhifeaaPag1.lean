/- Contracts of package page: sum, Seal, Open. -/
import Derived.Test.YthflnndjjhifeaaCrc2
import Derived.Test.YthflnndjjhifeaaCopy
import Derived.Deep.RegionHeld3
import Derived.Deep.DrawnRows
namespace Go.Proofs.Ythflnndjjhifeaa
open Go.RowKit
attribute [local go_sem ↓] Go.wp_at_zero Go.wp_at_succ

/-- The four bytes of a page's sum. -/
def sumB (z : Int) (l : List UInt8) : List UInt8 := leB ((crcOf (leB z 4 ++ l)).toNat : Int) 4
theorem sumB_len (z : Int) (l : List UInt8) : (sumB z l).length = 4 := by simp [sumB, leB_len]

/-- Bytes, filled up by zeros. -/
def padB (l : List UInt8) : List UInt8 := l ++ List.replicate (508 - l.length) 0
theorem padB_len (l : List UInt8) (h : l.length ≤ 508) : (padB l).length = 508 := by simp [padB]; omega
/-- A page as it stands. -/
def sealB (z : Int) (l : List UInt8) : List UInt8 := padB l ++ sumB z (padB l)
theorem sealB_len (z : Int) (l : List UInt8) (h : l.length ≤ 508) : (sealB z l).length = 512 := by simp [sealB, padB_len l h, sumB_len]
theorem lay_pad (l : List UInt8) (h : l.length ≤ 508) : lay (List.replicate 512 0) 0 l = padB l ++ List.replicate 4 0 := by
  simp only [lay, padB, List.take_zero, List.nil_append, Nat.zero_add, List.drop_replicate, List.append_assoc, List.append_cancel_left_eq]
  rw [List.replicate_append_replicate]
  congr 1
  omega
theorem lay_end (a b c : List UInt8) (hb : b.length = c.length) (n : Nat) (ha : a.length = n) : lay (a ++ b) n c = a ++ c := by
  subst ha
  simp [lay, ← hb]
theorem Rd.of_bk {w : World} {g : Nat} {t : TypeId} {l : List UInt8} (h : Bk w g t (bys l).toArray) (off n : Nat) (hn : off + n ≤ l.length) : Rd w w.heap.size 1 (some ⟨g, off, none⟩) n (bys ((l.drop off).take n)) := by
  refine ⟨by rw [bys_len, List.length_take, List.length_drop]; omega, fun _ => ⟨g, off, rfl, h.lt, fun j u hu => ?_⟩⟩
  rw [h.cell, List.getElem?_toArray]
  rw [← bys_take, List.getElem?_take] at hu
  split at hu
  · rw [← bys_drop, List.getElem?_drop] at hu; exact hu
  · cases hu
theorem psum_any (z : Int) (A : Option Addr) (n c : Nat) (l : List UInt8) (w : World) (hr : Rd w w.heap.size 1 A n (bys l)) (hnc : n ≤ c) (hn : n ≤ 1000000) :
    Calls Try.prog 38 #[.int .i64 z, .slice A n c] w fun e w' => ∃ v, e = .returned v ∧ w'.ownsRow w.heap.size 5 1 v 4 (bys (sumB z l)) ∧ Below w.heap.size w w' := by
  have w4 : (wid 4).toNat = 4 := by decide
  have W4 := Lib.hid w4
  have hl := hr.blen
  have Hl := Lib.hid hl
  clear w4 hl
  go_enter Try.func38, Try.ntmps38
  go_wp2_with fail
  refine (put_any none _ 0 0 1 1 4 [] [z] _ Rd.nil_ ((Rd.oneI w _ z).more (by simp)) (by omega) (by omega)).mono ?_
  rintro e w1 ⟨v1, rfl, hown1, hb1⟩
  have hbe1 : Below w.heap.size w w1 := ((Below.refl _ _).alloc (Nat.le_refl _) _).trans (hb1.mono (by simp))
  rw [W4.out, putB_one] at hown1
  obtain ⟨A1, c1, rfl, hc1, _⟩ := own_form hown1
  have hr1 := Rd.of_own hown1
  clear hb1 hown1
  go_wp2_with fail
  refine (crcof_any _ 2 2 [leB z 4, l] _ ((RdRows.two w1 _ (RdB.mk hr1 hc1) (RdB.mk ((hr.below hbe1 (Nat.le_refl _)).more hbe1.size) hnc) (Nat.le_refl _)).more (by simp)) (by omega) (by have := Hl.out; simp [leB_len]; omega)).mono ?_
  rintro e w2 ⟨rfl, hb2⟩
  have hbe2 : Below w.heap.size w w2 := hbe1.trans (((Below.refl _ _).alloc (Nat.le_refl _) _).trans (hb2.mono (by simp)) |>.mono hbe1.size)
  have hfl : [leB z 4, l].flatten = leB z 4 ++ l := by simp
  rw [hfl]
  clear hb2 hfl hbe1 hr1 hr
  have hC := (crcOf (leB z 4 ++ l)).isLt
  have hS : leB ((crcOf (leB z 4 ++ l)).toNat : Int) 4 = sumB z l := rfl
  have HS := Lib.hid hS
  clear hS
  generalize (crcOf (leB z 4 ++ l)).toNat = C at *
  go_wp2_with fail
  refine (put_any none _ 0 0 1 1 4 [] [(C : Int)] _ Rd.nil_ ((Rd.oneI w2 _ _).more (by simp)) (by omega) (by omega)).mono ?_
  rintro e w3 ⟨v3, rfl, hown3, hb3⟩
  have hbe3 : Below w.heap.size w w3 := hbe2.trans (((Below.refl _ _).alloc (Nat.le_refl _) _).trans (hb3.mono (by simp)) |>.mono hbe2.size)
  rw [W4.out, putB_one, HS.out] at hown3
  go_wp2
  go_ret
  exact ⟨_, rfl, own_base hown3 (Nat.le_trans hbe2.size (by simp)), hbe3⟩
/-- A page of zeros. -/
def zpage : Array Value := (bys (List.replicate 512 0)).toArray
theorem zpage_zero (w : World) : (zeroValue 71).run Try.prog w = .ok (.agg zpage) w := by kernel_rfl
theorem zpage_cells : (Value.agg zpage).cells = zpage := by kernel_rfl
theorem pseal_arg (z : Int) (A : Option Addr) (n c : Nat) (w : World) (hz : fitsB 3 [z] = false) (hz0 : -9223372036854775808 ≤ z ∧ z ≤ 9223372036854775807) :
    Calls Try.prog 23 #[.int .i64 z, .slice A n c] w fun e w' => e = .returned (.tuple #[.slice none 0 0, .int .i64 1]) ∧ Below w.heap.size w w' := by
  have w3 : (wid 3).toNat = 3 := by decide
  have hf := fits_any 3 _ 1 1 [z] _ ((Rd.oneI w 3 z).more (B' := (w.alloc (.cells #[.int .i64 z] 3)).heap.size) (by simp)) (by omega) (by simpa using hz0)
  rw [w3, hz] at hf
  clear w3 hz
  go_enter Try.func23, Try.ntmps23
  go_wp2_with fail
  refine hf.mono ?_
  rintro e w1 ⟨rfl, rfl⟩
  go_wp2
  go_ret2
  exact ⟨rfl, (Below.refl _ _).alloc (Nat.le_refl _) _⟩
theorem pseal_long (z : Int) (A : Option Addr) (n c : Nat) (w : World) (hz : fitsB 3 [z] = true) (hz0 : -9223372036854775808 ≤ z ∧ z ≤ 9223372036854775807) (hn : 508 < n) :
    Calls Try.prog 23 #[.int .i64 z, .slice A n c] w fun e w' => e = .returned (.tuple #[.slice none 0 0, .int .i64 10]) ∧ Below w.heap.size w w' := by
  have w3 : (wid 3).toNat = 3 := by decide
  have hf := fits_any 3 _ 1 1 [z] _ ((Rd.oneI w 3 z).more (B' := (w.alloc (.cells #[.int .i64 z] 3)).heap.size) (by simp)) (by omega) (by simpa using hz0)
  rw [w3, hz] at hf
  clear w3 hz
  go_enter Try.func23, Try.ntmps23
  go_wp2_with fail
  refine hf.mono ?_
  rintro e w1 ⟨rfl, rfl⟩
  go_wp2
  go_ret2
  exact ⟨rfl, (Below.refl _ _).alloc (Nat.le_refl _) _⟩
set_option maxHeartbeats 1000000 in
theorem pseal_ok (z : Int) (A : Option Addr) (n c : Nat) (l : List UInt8) (w : World) (hr : Rd w w.heap.size 1 A n (bys l)) (hnc : n ≤ c) (hz : fitsB 3 [z] = true) (hz0 : -9223372036854775808 ≤ z ∧ z ≤ 9223372036854775807) (hn : n ≤ 508) :
    Calls Try.prog 23 #[.int .i64 z, .slice A n c] w fun e w' => ∃ g, e = .returned (.tuple #[.slice (some ⟨g, 0, none⟩) 512 512, .int .i64 0]) ∧ Bk w' g 71 (bys (sealB z l)).toArray ∧ w.heap.size ≤ g ∧ Below w.heap.size w w' := by
  have w3 : (wid 3).toNat = 3 := by decide
  have hf := fits_any 3 _ 1 1 [z] _ ((Rd.oneI w 3 z).more (B' := (w.alloc (.cells #[.int .i64 z] 3)).heap.size) (by simp)) (by omega) (by simpa using hz0)
  rw [w3, hz] at hf
  have hl := hr.blen
  have hpl := lay_pad l (by omega)
  have hpn := padB_len l (by omega)
  have htk : l.take n = l := List.take_of_length_le (by omega)
  have hse : padB l ++ sumB z (padB l) = sealB z l := rfl
  have hsl := sumB_len z (padB l)
  have Hl := Lib.hid hl
  have Hpl := Lib.hid hpl
  have Hpn := Lib.hid hpn
  have Htk := Lib.hid htk
  have Hse := Lib.hid hse
  have Hsl := Lib.hid hsl
  have hzp := zpage_zero
  have hzc := zpage_cells
  have hze : zpage = (bys (List.replicate 512 0)).toArray := rfl
  have Hze := Lib.hid hze
  clear w3 hz hl hpl hpn htk hse hsl hze
  generalize hP : padB l = P at *
  generalize hT : sumB z P = T at *
  clear hP
  have HT := Lib.hid hT
  clear hT
  generalize zpage = zp at *
  go_enter Try.func23, Try.ntmps23
  go_wp2_with fail
  refine hf.mono ?_
  rintro e w1 ⟨rfl, rfl⟩
  have hal : Bk ((w.alloc (.cells #[.int .i64 z] 3)).alloc (.cells zp 71)) (w.heap.size + 1) 71 (bys (List.replicate 512 0)).toArray := by rw [← Hze.out]; exact Bk.new' _ _ _ (by simp)
  have hbe : Below w.heap.size w ((w.alloc (.cells #[.int .i64 z] 3)).alloc (.cells zp 71)) := ((Below.refl _ _).alloc (Nat.le_refl _) _).alloc (by simp) _
  go_wp2_with (refine copy_bys hal (hr.below hbe (Nat.le_refl _)) n (Nat.min_eq_left (by omega)).symm (by rw [List.length_replicate]; omega) rfl rfl hbe (by omega) ?_; intro w2 hbk2 hbe2)
  rw [Htk.out, Hpl.out] at hbk2
  have hr2 := Rd.of_bk hbk2 0 508 (by have := Hpn.out; rw [List.length_append, List.length_replicate]; omega)
  rw [List.drop_zero, List.take_append_of_le_length (by have := Hpn.out; omega), List.take_of_length_le (by have := Hpn.out; omega)] at hr2
  clear hal hbe hf hzp hzc
  go_wp2_with fail
  have hC : ∀ w3 v3, w3.ownsRow w2.heap.size 5 1 v3 4 (bys (sumB z P)) → Below w2.heap.size w2.drew w3 → ∃ A3 c3, v3 = .slice A3 4 c3 ∧ Rd w3 w3.heap.size 1 A3 4 (bys T) ∧ Below w.heap.size w w3 ∧ Bk w3 (w.heap.size + 1) 71 (bys (P ++ List.replicate 4 0)).toArray := by
    intro w3 v3 hown3 hb3
    rw [HT.out] at hown3
    obtain ⟨A3, c3, rfl, hc3, _⟩ := own_form hown3
    exact ⟨A3, c3, rfl, Rd.of_own hown3, hbe2.drew.trans (hb3.mono hbe2.size), hbk2.drew.below hb3 hbk2.lt⟩
  have HC := Lib.hid hC
  clear hC
  go_region_held3 (fun _ => True) (trivial) (first
    | (go_at_call 38; refine (psum_any z _ 508 512 P _ (by exact hr2) (by omega) (by omega)).mono ?_; rintro e w3 ⟨v3, rfl, hown3, hb3⟩; obtain ⟨A3, c3, rfl, hr3, hbe3, hbk3⟩ := HC.out w3 v3 hown3 hb3)
    | (refine copy_step (g := w.heap.size + 1) (L := P ++ List.replicate 4 0) (l := T) (A := A3) (n := 4) (off := 508) (dl := 4) (dc := 4) (c := c3) (by exact hbk3) (by exact hr3) 4 (by rfl) (by have := Hpn.out; rw [List.length_append, List.length_replicate]; omega) (by rfl) (by rfl) (by exact hbe3) (by omega) ?_; intro w4 hbk4 hbe4))
  rw [List.take_of_length_le (by have := Hsl.out; omega), lay_end _ _ _ (by have := Hsl.out; rw [List.length_replicate]; omega) 508 Hpn.out, Hse.out] at hbk4
  go_wp2
  go_ret2
  exact ⟨_, rfl, hbk4, by omega, hbe4⟩
end Go.Proofs.Ythflnndjjhifeaa
