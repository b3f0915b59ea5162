/- Contracts for nodes: bytes.Equal, sort.Search over the cells, Find. -/
import Derived.Test.YtelaliokmmaopaaDoorNod3
import Derived.Test.YtelaliokmmaopaaDoorConv
namespace Go.Proofs.YtelaliokmmaopaaDoor
open Go.RowKit
open Go.Lib (compareBytes)
attribute [local go_sem ↓] Go.wp_at_zero Go.wp_at_succ

theorem equal_any (A A2 : Option Addr) (n c m d : Nat) (l r : List UInt8) (w : World) (hl : Rd w w.heap.size 1 A n (bys l)) (hr : Rd w w.heap.size 1 A2 m (bys r)) :
    Calls Tryd.prog 33 #[.slice A n c, .slice A2 m d] w fun e w' => e = .returned (.bool (decide (l = r))) ∧ w' = w := by
  have h1 := conv_bys (c := c) hl
  have h2 := conv_bys (c := d) hr
  clear hl hr
  go_enter Tryd.func33, Tryd.ntmps33
  go_wp2
  go_ret
  exact ⟨ret_bool (by first | rfl | (rw [Bool.eq_iff_iff]; simp)), rfl⟩
/-- Cells are in order. -/
def SortP (cs : List CellP) : Prop := ∀ i c d, cs[i]? = some c → cs[i + 1]? = some d → compareBytes c.key d.key < 0
theorem SortP.lt {cs : List CellP} (h : SortP cs) : ∀ (k i : Nat) (c d : CellP), cs[i]? = some c → cs[i + k + 1]? = some d → compareBytes c.key d.key < 0
  | 0, i, c, d, hc, hd => h i c d hc hd
  | k + 1, i, c, d, hc, hd => by
    have hl : i + k + 1 < cs.length := by have := (List.getElem?_eq_some_iff.1 hd).1; omega
    have he : cs[i + k + 1]? = some cs[i + k + 1] := List.getElem?_eq_getElem hl
    exact cmp_trans (SortP.lt h k i c _ hc he) (h (i + k + 1) _ d he hd)
theorem RightP.sorted {N : NodP} (h : RightP N) : SortP N.cells := fun i c d hc hd => h.2.1.2 i c d (List.getElem?_eq_some_iff.1 hd).1 hc hd
/-- Is the cell's key not below? -/
def geP (cs : List CellP) (key : List UInt8) (j : Nat) : Bool := match cs[j]? with
  | some c => decide (0 ≤ compareBytes c.key key)
  | none => true
theorem geP_some {cs : List CellP} {key : List UInt8} {j : Nat} {c : CellP} (h : cs[j]? = some c) : geP cs key j = decide (0 ≤ compareBytes c.key key) := by unfold geP; rw [h]
theorem geP_mono {cs : List CellP} {key : List UInt8} (h : SortP cs) {i j : Nat} (hij : i ≤ j) (hi : geP cs key i = true) : geP cs key j = true := by
  rcases Nat.lt_or_ge j cs.length with hj | hj
  · have hi2 : cs[i]? = some cs[i] := List.getElem?_eq_getElem (by omega)
    have hj2 : cs[j]? = some cs[j] := List.getElem?_eq_getElem hj
    rw [geP_some hi2] at hi
    rw [geP_some hj2]
    simp only [decide_eq_true_eq] at hi ⊢
    rcases Nat.eq_or_lt_of_le hij with e | e
    · subst e; exact hi
    · apply Classical.byContradiction
      intro hn
      have h1 := h.lt (j - i - 1) i _ cs[j] hi2 (by rw [show i + (j - i - 1) + 1 = j by omega]; exact hj2)
      have h2 := cmp_trans h1 (by omega : compareBytes cs[j].key key < 0)
      omega
  · unfold geP
    rw [List.getElem?_eq_none hj]
/-- Where a key belongs, and whether it is there. -/
def FindAt (cs : List CellP) (key : List UInt8) (k : Nat) (is : Bool) : Prop :=
  k ≤ cs.length ∧ (∀ i c, i < k → cs[i]? = some c → compareBytes c.key key < 0) ∧ (∀ i c, k ≤ i → cs[i]? = some c → 0 ≤ compareBytes c.key key) ∧ (is = true ↔ ∃ c, cs[k]? = some c ∧ c.key = key)
theorem find1_any (g2 g3 : Nat) (A : Option Addr) (n c0 : Nat) (cs : List CellP) (Ak : Option Addr) (nk ck : Nat) (key : List UInt8) (j : Nat) (w : World)
    (h2 : w.cell? ⟨g2, 1, none⟩ = some (.slice A n c0)) (h3 : w.cell? ⟨g3, 0, none⟩ = some (.slice Ak nk ck)) (hr : RdCs w w.heap.size A n cs) (hk : Rd w w.heap.size 1 Ak nk (bys key)) (hj : j < n) :
    Calls Tryd.prog 31 #[.int .i64 j, .pointer (some ⟨g2, 0, none⟩), .pointer (some ⟨g3, 0, none⟩)] w fun e w' => e = .returned (.bool (geP cs key j)) ∧ ∃ q, w' = w.drewN q := by
  obtain ⟨b, o, cc, Ac, nc, cc', Av, nv, cv, rfl, hb, hcj, k0, hrk, hnck, k1, hrv, hncv, k2, k3⟩ := hr.at_ hj
  have Hc := Lib.hid (fun q => compare_same Ac Ak nc cc' nk ck cc.key key (w.drewN q) (hrk.drewN q) (hk.drewN q))
  rw [geP_some hcj]
  clear hr hrk hrv hk hcj k1 k2 k3
  generalize compareBytes cc.key key = v at *
  go_enter Tryd.func31, Tryd.ntmps31
  go_wp2_with fail
  go_quiet ((go_at_call 32; exact Calls.quiet_of_same (Hc.out _)))
  go_wp2
  go_ret
  exact ⟨rfl, _, rfl⟩
end Go.Proofs.YtelaliokmmaopaaDoor
