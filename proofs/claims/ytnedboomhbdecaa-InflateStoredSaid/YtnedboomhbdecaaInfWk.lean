/- Package inflate: the six bytes of wakes. -/
import Derived.Test.YtnedboomhbdecaaInfZ
namespace Go.Proofs.Ytnedboomhbdecaa
open Go.RowKit

def wkL : List UInt8 := [1, 1, 0, 254, 255, 97]
theorem wk_hd : hdP (bitsB wkL) 0 = some ((true, .st 1), 40) := by
  have h1 : ndP 1 (bitsB wkL) 0 = some (1, 1) := by decide +kernel
  have h2 : ndP 2 (bitsB wkL) 1 = some (0, 3) := by decide +kernel
  have h3 : alP (bitsB wkL) 3 = some ((), 8) := by decide +kernel
  have h4 : ndP 16 (bitsB wkL) 8 = some (1, 24) := by decide +kernel
  have h5 : ndP 16 (bitsB wkL) 24 = some (65534, 40) := by decide +kernel
  rw [hd_k h1 h2, if_pos rfl, bndP_of h3, bndP_of h4, bndP_of h5, if_pos (by decide)]
  rfl
theorem wk_rn : ∃ c, Rn (bitsB wkL) cf0 c ∧ c.st = 4 ∧ c.out = [97] ∧ c.a = 48 := by
  have s1 := stC_hs (c := cf0) rfl (by decide) wk_hd
  have h8 : ndP 8 (bitsB wkL) 40 = some (97, 48) := by decide +kernel
  have s2 := stC_b1 (B := bitsB wkL) (c := { cf0 with a := 40, st := 1, last := true, left := 1 }) rfl (by decide) h8
  have s3 := stC_z1 (B := bitsB wkL) (c := { cf0 with a := 48, out := [97], st := 1, last := true, left := 0 }) rfl rfl
  have s4 := stC_end (B := bitsB wkL) (c := { cf0 with a := 48, out := [97], st := 0, last := true, left := 0 }) rfl rfl
  exact ⟨_, .step (.step (.step (.step (.refl _) s1) s2) s3) s4, rfl, rfl, rfl⟩
theorem wk_oc {r : Option (List UInt8 × Nat)} {f : Bool} (h : Oc (bitsB wkL) 10 r f) : r = some ([97], 6) ∧ f = false := by
  obtain ⟨c, h1, h2, h3, h4⟩ := wk_rn
  have := Oc.one (B := bitsB wkL) (B' := bitsB wkL) h1 h2 (by rw [h4]; decide +kernel) rfl (most := 10) (by rw [h3]; decide) h
  rw [h3, h4] at this
  exact this
end Go.Proofs.Ytnedboomhbdecaa
