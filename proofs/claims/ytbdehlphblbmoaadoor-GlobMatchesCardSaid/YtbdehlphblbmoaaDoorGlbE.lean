/- Runes of a text: as the conversion makes them, and as a range over it meets them. -/
import Derived.Test.YtbdehlphblbmoaaDoorGlbA
import Derived.Laws.IdiomStrings
namespace Go.Proofs.YtbdehlphblbmoaaDoor
open Go.RowKit

/-- The runes from a place on; at most f. -/
def rnFrom (s : ByteArray) : Nat → Nat → List Int
  | 0, _ => []
  | f + 1, i => if i < s.size then (((Utf8.decode s i).1 : Nat) : Int) :: rnFrom s f (i + (Utf8.decode s i).2) else []
def rnB (s : ByteArray) : List Int := rnFrom s s.size 0
theorem rnFrom_conv (s : ByteArray) : ∀ (f i : Nat) (acc : Array Value), (Conv.runesFrom s f i acc).toList = acc.toList ++ rns (rnFrom s f i)
  | 0, _, acc => by simp [Conv.runesFrom, rnFrom, rns]
  | f + 1, i, acc => by
    unfold Conv.runesFrom
    rw [rnFrom]
    split
    · rw [rnFrom_conv s f]
      simp [rns]
    · simp [rns]
theorem rnFrom_le (s : ByteArray) : ∀ (f i : Nat), (rnFrom s f i).length ≤ f
  | 0, _ => by simp [rnFrom]
  | f + 1, i => by
    rw [rnFrom]
    split
    · have := rnFrom_le s f (i + (Utf8.decode s i).2)
      simp only [List.length_cons]
      omega
    · simp
/-- []rune(s). -/
theorem conv_runes (s : ByteArray) (w : World) (h : s.size ≤ 1000000) :
    ∃ c cells, (convert 9 53 (.string s)).run Tryd.prog w = .ok (.slice (some ⟨w.heap.size, 0, none⟩) (rnB s).length c) (w.drew.alloc (.cells cells 21)) ∧ (rnB s).length ≤ c ∧
      Rd (w.drew.alloc (.cells cells 21)) (w.heap.size + 1) 1 (some ⟨w.heap.size, 0, none⟩) (rnB s).length (rns (rnB s)) := by
  have hl : (Conv.runesFrom s s.size 0 #[]).toList = rns (rnB s) := by
    have := rnFrom_conv s s.size 0 #[]
    unfold rnB
    simpa using this
  have hz : (Conv.runesFrom s s.size 0 #[]).size = (rnB s).length := by
    rw [← Array.length_toList, hl, rns_len]
  have hb : (rnB s).length ≤ s.size := rnFrom_le s s.size 0
  have hrun := run_runes_of_string (P := Tryd.prog) w 9 53 21 s Tryd.underlying9 Tryd.underlying53 Tryd.underlying21 (by rw [hz]; omega)
  have hc := grownCap_ge w (Conv.runesFrom s s.size 0 #[]).size 0 21
  rw [hz] at hrun hc
  refine ⟨_, _, hrun, hc, by rw [rns_len]; omega, fun _ => ⟨w.heap.size, 0, rfl, by omega, fun j v hj => ?_⟩⟩
  have h1 : ∀ cs : Array Value, (w.drew.alloc (.cells cs 21)).cell? ⟨w.heap.size, j, none⟩ = cs[j]? := fun cs => World.cell?_alloc_mark w.drew cs 21 (0, 0) j
  rw [Nat.zero_add, h1]
  have hj2 : j < (rnB s).length := by
    rcases Nat.lt_or_ge j (rns (rnB s)).length with h | h
    · rwa [rns_len] at h
    · rw [List.getElem?_eq_none h] at hj; cases hj
  rw [Array.getElem?_append_left (by rw [hz]; exact hj2), ← hj, ← hl]
  simp
end Go.Proofs.YtbdehlphblbmoaaDoor
