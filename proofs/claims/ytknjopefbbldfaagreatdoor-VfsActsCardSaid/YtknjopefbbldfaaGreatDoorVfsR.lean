/- A sector in a crash, cell by cell. -/
import Derived.Test.YtknjopefbbldfaaGreatDoorVfsC
namespace Go.Proofs.YtknjopefbbldfaaGreatDoor
open Go.RowKit

/-- What lasts of a sector; what it is behind the crash. -/
def oldL (x : FlP) (k : Nat) : List UInt8 := (List.range 64).map fun r => byP x.O (64 * k + r)
def nowL (x : FlP) (kept : Bool) (k : Nat) : List UInt8 := (List.range 64).map fun r => lastV x kept k r
theorem oldL_len (x : FlP) (k : Nat) : (oldL x k).length = 64 := by simp [oldL]
theorem nowL_len (x : FlP) (kept : Bool) (k : Nat) : (nowL x kept k).length = 64 := by simp [nowL]
theorem bys_oldL {x : FlP} {k r : Nat} (hr : r < 64) : (bys (oldL x k))[r]? = some (.int .u8 ((byP x.O (64 * k + r)).toNat : Int)) := by simp [bys, oldL, hr]
theorem bys_nowL {x : FlP} {kept : Bool} {k r : Nat} (hr : r < 64) : (bys (nowL x kept k))[r]? = some (.int .u8 ((lastV x kept k r).toNat : Int)) := by simp [bys, nowL, hr]
def csA (cs : Array Value) (x : FlP) (kept : Bool) (k : Nat) : Array Value := if kept then cs else putA cs (k * 129) (bys (oldL x k))
def csB (cs : Array Value) (x : FlP) (kept : Bool) (k r0 : Nat) : Array Value := putA (csA cs x kept k) (k * 129 + r0) (List.replicate (64 - r0) (.int .u8 0))
def csC (cs : Array Value) (x : FlP) (kept : Bool) (k r0 : Nat) : Array Value := putA (csB cs x kept k r0) (k * 129 + 64) (bys (nowL x kept k))
def csD (cs : Array Value) (x : FlP) (kept : Bool) (k r0 : Nat) : Array Value := (csC cs x kept k r0).setIfInBounds (k * 129 + 128) (.bool false)
section
variable {cs : Array Value} {x : FlP} {kept : Bool} {k r0 : Nat}
theorem csA_size : (csA cs x kept k).size = cs.size := by unfold csA; split <;> simp [putA_size]
theorem csB_size : (csB cs x kept k r0).size = cs.size := by unfold csB; rw [putA_size, csA_size]
theorem csC_size : (csC cs x kept k r0).size = cs.size := by unfold csC; rw [putA_size, csB_size]
theorem csD_size : (csD cs x kept k r0).size = cs.size := by unfold csD; rw [Array.size_setIfInBounds, csC_size]
variable (hc : ∀ j, j < x.W.length → ∀ r, r < 129 → cs[j * 129 + r]? = some (cellK x j r)) (hk : k < x.W.length) (hsz : x.W.length * 129 ≤ cs.size)
include hk hsz in
theorem fitK : k * 129 + 129 ≤ cs.size := by omega
include hc hk in
theorem cs_old : ∀ r, r < 64 → cs[k * 129 + (64 + r)]? = (bys (oldL x k))[r]? := fun r hr => by
  rw [hc k hk (64 + r) (by omega), bys_oldL hr]
  unfold cellK
  rw [if_neg (by omega), if_pos (by omega), show 64 * k + (64 + r - 64) = 64 * k + r by omega]
include hc hk hsz in
theorem csA_now {r : Nat} (hr : r < 64) : (csA cs x kept k)[k * 129 + r]? = some (.int .u8 ((if kept then byP x.B (64 * k + r) else byP x.O (64 * k + r)).toNat : Int)) := by
  unfold csA
  cases kept with
  | true =>
    simp only [if_true]
    rw [hc k hk r (by omega)]
    unfold cellK
    rw [if_pos hr]
  | false =>
    simp only [Bool.false_eq_true, if_false]
    rw [putA_in (by omega) (by rw [bys_len, oldL_len]; omega) (by rw [bys_len, oldL_len]; omega), Nat.add_sub_cancel_left, bys_oldL hr]
theorem csA_out {i : Nat} (hi : i < k * 129 ∨ k * 129 + 64 ≤ i) : (csA cs x kept k)[i]? = cs[i]? := by
  unfold csA
  split
  · rfl
  · exact putA_out (by rw [bys_len, oldL_len]; omega)
include hc hk hsz in
theorem csB_now (hr0 : r0 = min (x.B.length - 64 * k) 64) {r : Nat} (hr : r < 64) : (csB cs x kept k r0)[k * 129 + r]? = some (.int .u8 ((lastV x kept k r).toNat : Int)) := by
  have hsA : (csA cs x kept k).size = cs.size := csA_size
  unfold csB lastV
  by_cases h : r < r0
  · rw [putA_out (by omega), csA_now hc hk hsz hr, if_pos (show 64 * k + r < x.B.length by omega)]
  · rw [putA_in (by omega) (by rw [List.length_replicate]; omega) (by rw [List.length_replicate]; omega), if_neg (show ¬ 64 * k + r < x.B.length by omega), List.getElem?_replicate, if_pos (by omega)]
    rfl
theorem csB_out (hr0 : r0 ≤ 64) {i : Nat} (hi : i < k * 129 ∨ k * 129 + 64 ≤ i) : (csB cs x kept k r0)[i]? = cs[i]? := by
  unfold csB
  rw [putA_out (by rw [List.length_replicate]; omega), csA_out hi]
include hc hk hsz in
theorem csD_all (hw : x.WF) (hr0 : r0 = min (x.B.length - 64 * k) 64) (j : Nat) (hj : j < x.W.length) (r : Nat) (hr : r < 129) :
    (csD cs x kept k r0)[j * 129 + r]? = some (cellK (lastP (if kept then x else backP x k) k) j r) := by
  rw [cell_last hw kept hk j r hj hr]
  unfold csD
  by_cases hjk : j = k
  · subst hjk
    rw [if_pos rfl]
    by_cases h1 : r < 64
    · rw [if_pos h1, Array.getElem?_setIfInBounds_ne (by omega)]
      unfold csC
      rw [putA_out (by omega), csB_now hc hk hsz hr0 h1]
    · by_cases h2 : r < 128
      · rw [if_neg h1, if_pos h2, Array.getElem?_setIfInBounds_ne (by omega)]
        unfold csC
        rw [putA_in (by omega) (by rw [bys_len, nowL_len]; omega) (by rw [bys_len, nowL_len, csB_size]; omega), show j * 129 + r - (j * 129 + 64) = r - 64 by omega, bys_nowL (by omega)]
      · obtain rfl : r = 128 := by omega
        rw [if_neg h1, if_neg h2, Array.getElem?_setIfInBounds_self, csC_size, if_pos (by omega)]
  · rw [if_neg hjk, Array.getElem?_setIfInBounds_ne (by omega)]
    unfold csC
    rw [putA_out (by rw [bys_len, nowL_len]; omega), csB_out (by omega) (by omega), hc j hj r hr]
end
theorem lastV_kept {x : FlP} {k r : Nat} : lastV x true k r = byP x.B (64 * k + r) := by
  unfold lastV
  by_cases h : 64 * k + r < x.B.length
  · rw [if_pos h]; rfl
  · rw [if_neg h, byP_end (by omega)]
end Go.Proofs.YtknjopefbbldfaaGreatDoor
