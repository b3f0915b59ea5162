/- The walks of the laws of layer 15, and of the example that all begin with. -/
import Derived.Test.YthflnndjjhifeaaPag2
import Derived.Test.YthflnndjjhifeaaPag3
import Derived.Test.YthflnndjjhifeaaPagP
namespace Go.Proofs.Ythflnndjjhifeaa
open Go.RowKit

theorem Rd.of_bkW {w : World} {g : Nat} {t : TypeId} {l : List UInt8} (h : Bk w g t (bys l).toArray) (n : Nat) (hn : l.length = n) : Rd w w.heap.size 1 (some ⟨g, 0, none⟩) n (bys l) := by
  have := Rd.of_bk h 0 n (by omega)
  rwa [List.drop_zero, List.take_of_length_le (by omega)] at this
theorem fits3_yes (z : Int) (h : fitsB 3 [z] = true) : 0 ≤ z ∧ z < 16777216 := by
  rw [fits3_eq] at h; simpa using h
/-- What was sealed is opened. -/
theorem popen_sealed (z : Int) (g : Nat) (t : TypeId) (l : List UInt8) (w : World) (hb : Bk w g t (bys (sealB z l)).toArray) (hl : l.length ≤ 508) (hz : fitsB 3 [z] = true) (hz0 : -9223372036854775808 ≤ z ∧ z ≤ 9223372036854775807) :
    Calls Try.prog 25 #[.int .i64 z, .slice (some ⟨g, 0, none⟩) 512 512] w fun e w' => ∃ g', e = .returned (.tuple #[.slice (some ⟨g', 0, none⟩) 508 508, .int .i64 0]) ∧ Bk w' g' 5 (bys (padB l)).toArray ∧ w.heap.size ≤ g' ∧ Below w.heap.size w w' := by
  have h := seal_take z l hl
  have := popen_ok z _ 512 (sealB z l) w (Rd.of_bkW hb 512 (sealB_len z l hl)) (Nat.le_refl _) (by rw [h.1, h.2]) hz hz0
  rwa [h.1] at this
theorem popen_other (z y : Int) (g : Nat) (t : TypeId) (l : List UInt8) (w : World) (hb : Bk w g t (bys (sealB z l)).toArray) (hl : l.length ≤ 508) (hz : fitsB 3 [z] = true) (hy : fitsB 3 [y] = true) (hy0 : -9223372036854775808 ≤ y ∧ y ≤ 9223372036854775807) (hne : ¬ y = z) :
    Calls Try.prog 25 #[.int .i64 y, .slice (some ⟨g, 0, none⟩) 512 512] w fun e w' => e = .returned (.tuple #[.slice none 0 0, .int .i64 5]) ∧ Below w.heap.size w w' :=
  popen_sum y _ 512 (sealB z l) w (Rd.of_bkW hb 512 (sealB_len z l hl)) (Nat.le_refl _) (seal_other z y l hl (fits3_yes z hz) (fits3_yes y hy) hne) hy hy0

theorem pagewakes_any (w : World) : Calls Try.prog 22 #[] w fun e w' => e = .returned (.bool true) ∧ Below w.heap.size w w' := by
  have f7 : fitsB 3 [7] = true := by decide
  have f8 : fitsB 3 [8] = true := by decide
  have hp : (padB [97])[0]? = some 97 := by decide
  have F7 := Lib.hid f7
  have F8 := Lib.hid f8
  have Hp := Lib.hid hp
  clear f7 f8 hp
  go_enter Try.func22, Try.ntmps22
  have kc := fun (w : World) (C : Array Value) (n c : Nat) => Lib.run_convert_bytes_const (P := Try.prog) w 22 5 C n c Try.underlying22 Try.underlying5
  go_wp2_with fail
  refine (pseal_ok 7 _ 1 1 [97] _ ((Rd.lits w _ #[.int .u8 97] rfl).more (by simp)) (by omega) F7.out (by omega) (by omega)).mono ?_
  rintro e w1 ⟨g, rfl, hbk, hg, hb1⟩
  have hbe := ((Below.refl _ _).alloc (Nat.le_refl _) _).trans (hb1.mono (by simp))
  go_wp2_with fail
  refine (popen_sealed 7 g _ [97] w1 hbk (by simp) F7.out (by omega)).mono ?_
  rintro e w2 ⟨g2, rfl, hbk2, hg2, hb2⟩
  have hbe2 := hbe.trans (hb2.mono hbe.size)
  have hbk' := hbk.below hb2 hbk.lt
  go_wp2_with fail
  refine (popen_other 7 8 g _ [97] w2 hbk' (by simp) F7.out F8.out (by omega) (by omega)).mono ?_
  rintro e w3 ⟨rfl, hb3⟩
  have hbe3 := hbe2.trans (hb3.mono hbe2.size)
  have hc := (hbk2.below hb3 hbk2.lt).cell 0
  have hc' : w3.cell? ⟨g2, 0, none⟩ = some (.int .u8 97) := by
    rw [hc]; simp [bys, Hp.out]
  clear hc
  go_wp2
  go_ret
  exact ⟨rfl, hbe3⟩
end Go.Proofs.Ythflnndjjhifeaa
