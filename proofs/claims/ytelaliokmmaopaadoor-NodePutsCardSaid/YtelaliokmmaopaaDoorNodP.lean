/- Plain facts on nodes. No program in sight. -/
import Derived.Test.YtelaliokmmaopaaDoorWordP
import Derived.Lib.Bytealg
namespace Go.Proofs.YtelaliokmmaopaaDoor
open Go.Lib (compareBytes)

structure CellP where
  key : List UInt8
  val : List UInt8
  over : Int
  long : Int
structure NodP where
  leaf : Bool
  cells : List CellP
  kids : List Int
/-- Is a text of bytes below another one? -/
def ltL (a b : List UInt8) : Bool := decide (compareBytes a b < 0)
theorem cmp_self : ∀ a : List UInt8, compareBytes a a = 0
  | [] => rfl
  | x :: a => by
    rw [compareBytes, if_neg (UInt8.lt_irrefl x), if_neg (UInt8.lt_irrefl x)]
    exact cmp_self a
theorem cmp_bd : ∀ a b : List UInt8, compareBytes a b = -1 ∨ compareBytes a b = 0 ∨ compareBytes a b = 1
  | [], [] => by simp [compareBytes]
  | [], _ :: _ => by simp [compareBytes]
  | _ :: _, [] => by simp [compareBytes]
  | x :: a, y :: b => by
    rw [compareBytes]
    split
    · exact .inl rfl
    · split
      · exact .inr (.inr rfl)
      · exact cmp_bd a b
theorem u8_lt {x y : UInt8} : x < y ↔ x.toNat < y.toNat := UInt8.lt_iff_toNat_lt
theorem cmp_eq0 : ∀ {a b : List UInt8}, compareBytes a b = 0 ↔ a = b
  | [], [] => by simp [compareBytes]
  | [], _ :: _ => by simp [compareBytes]
  | _ :: _, [] => by simp [compareBytes]
  | x :: a, y :: b => by
    rw [compareBytes]
    by_cases h1 : x < y
    · rw [if_pos h1]
      have : x ≠ y := by rintro rfl; exact UInt8.lt_irrefl x h1
      simp [this]
    · rw [if_neg h1]
      by_cases h2 : y < x
      · rw [if_pos h2]
        have : x ≠ y := by rintro rfl; exact UInt8.lt_irrefl x h2
        simp [this]
      · rw [if_neg h2]
        have : x = y := by
          apply UInt8.toNat_inj.1
          rw [u8_lt] at h1 h2
          omega
        subst this
        rw [cmp_eq0]
        simp
theorem cmp_anti : ∀ a b : List UInt8, compareBytes a b = - compareBytes b a
  | [], [] => by simp [compareBytes]
  | [], _ :: _ => by simp [compareBytes]
  | _ :: _, [] => by simp [compareBytes]
  | x :: a, y :: b => by
    rw [compareBytes, compareBytes]
    by_cases h1 : x < y
    · have h2 : ¬ y < x := by rw [u8_lt] at *; omega
      rw [if_pos h1, if_neg h2, if_pos h1]
    · rw [if_neg h1]
      by_cases h2 : y < x
      · rw [if_pos h2, if_pos h2]; rfl
      · rw [if_neg h2, if_neg h2, if_neg h1]
        exact cmp_anti a b
theorem cmp_trans : ∀ {a b c : List UInt8}, compareBytes a b < 0 → compareBytes b c < 0 → compareBytes a c < 0
  | [], [], _, h, _ => by simp [compareBytes] at h
  | [], _ :: _, [], _, h => by simp [compareBytes] at h
  | [], _ :: _, _ :: _, _, _ => by simp [compareBytes]
  | _ :: _, [], _, h, _ => by simp [compareBytes] at h
  | _ :: _, _ :: _, [], _, h => by simp [compareBytes] at h
  | x :: a, y :: b, z :: c, h1, h2 => by
    rw [compareBytes] at h1 h2 ⊢
    by_cases g1 : x < y
    · by_cases g2 : y < z
      · rw [if_pos (by rw [u8_lt] at *; omega)]; decide
      · rw [if_neg g2] at h2
        by_cases g3 : z < y
        · rw [if_pos g3] at h2; omega
        · rw [if_pos (by rw [u8_lt] at *; omega)]; decide
    · rw [if_neg g1] at h1
      by_cases g3 : y < x
      · rw [if_pos g3] at h1; omega
      · rw [if_neg g3] at h1
        have hxy : x = y := by
          apply UInt8.toNat_inj.1
          rw [u8_lt] at g1 g3
          omega
        subst hxy
        by_cases g4 : x < z
        · rw [if_pos g4]; decide
        · rw [if_neg g4] at h2 ⊢
          by_cases g5 : z < x
          · rw [if_pos g5] at h2; omega
          · rw [if_neg g5] at h2 ⊢
            exact cmp_trans h1 h2
def childP (n : Int) : Prop := 1 ≤ n ∧ n < 16777216
def cellP (c : CellP) : Prop := if c.over = 0 then c.long = 0 ∧ c.val.length ≤ 64 else childP c.over ∧ 64 < c.long ∧ c.long ≤ 20000 ∧ c.val.length = 0
def okC (leaf : Bool) (c : CellP) : Prop := (1 ≤ c.key.length ∧ c.key.length ≤ 120) ∧ if leaf then cellP c else c.over = 0 ∧ c.long = 0 ∧ c.val.length = 0
/-- Up to the j-th cell all is right. -/
def CellsTo (leaf : Bool) (cs : List CellP) (j : Nat) : Prop :=
  (∀ i c, i < j → cs[i]? = some c → okC leaf c) ∧ ∀ i c d, i + 1 < j → cs[i]? = some c → cs[i + 1]? = some d → compareBytes c.key d.key < 0
def RightP (n : NodP) : Prop :=
  ((n.leaf = true → n.kids.length = 0) ∧ (n.leaf = false → n.kids.length = n.cells.length + 1) ∧ n.cells.length < 65536) ∧ CellsTo n.leaf n.cells n.cells.length ∧ ∀ k ∈ n.kids, childP k
noncomputable def rightB (n : NodP) : Bool := @decide (RightP n) (Classical.propDecidable _)
theorem rightB_true {n : NodP} (h : RightP n) : rightB n = true := by unfold rightB; exact @decide_eq_true _ (Classical.propDecidable _) h
theorem rightB_false {n : NodP} (h : ¬ RightP n) : rightB n = false := by unfold rightB; exact @decide_eq_false _ (Classical.propDecidable _) h
theorem rightB_iff {n : NodP} : rightB n = true ↔ RightP n := by unfold rightB; exact @decide_eq_true_iff _ (Classical.propDecidable _)
theorem CellsTo.zero (leaf : Bool) (cs : List CellP) : CellsTo leaf cs 0 := ⟨fun i c h => by omega, fun i c d h => by omega⟩
theorem CellsTo.succ {leaf : Bool} {cs : List CellP} {j : Nat} {c : CellP} (h : CellsTo leaf cs j) (hc : cs[j]? = some c) (ho : okC leaf c) (hl : ∀ p, 0 < j → cs[j - 1]? = some p → compareBytes p.key c.key < 0) : CellsTo leaf cs (j + 1) := by
  refine ⟨fun i d hi hd => ?_, fun i d e hi hd he => ?_⟩
  · by_cases h1 : i = j
    · subst h1; rw [hc] at hd; injection hd with hd; subst hd; exact ho
    · exact h.1 i d (by omega) hd
  · by_cases h1 : i + 1 = j
    · subst h1
      rw [hc] at he; injection he with he; subst he
      exact hl d (by omega) (by simpa using hd)
    · exact h.2 i d e (by omega) hd he
theorem CellsTo.bad {leaf : Bool} {cs : List CellP} {j : Nat} {c : CellP} (hc : cs[j]? = some c) (h : ¬ okC leaf c) : ¬ CellsTo leaf cs cs.length := fun k => h (k.1 j c (List.getElem?_eq_some_iff.1 hc).1 hc)
theorem CellsTo.bad2 {leaf : Bool} {cs : List CellP} {j : Nat} {c p : CellP} (hc : cs[j]? = some c) (hj : 0 < j) (hp : cs[j - 1]? = some p) (h : ¬ compareBytes p.key c.key < 0) : ¬ CellsTo leaf cs cs.length := fun k =>
  h (k.2 (j - 1) p c (by rw [show j - 1 + 1 = j by omega]; exact (List.getElem?_eq_some_iff.1 hc).1) hp (by rw [show j - 1 + 1 = j by omega]; exact hc))
end Go.Proofs.YtelaliokmmaopaaDoor
