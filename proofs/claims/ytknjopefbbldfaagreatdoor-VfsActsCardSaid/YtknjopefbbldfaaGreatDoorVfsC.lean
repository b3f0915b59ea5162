/- Crashes, in plain words. -/
import Derived.Test.YtknjopefbbldfaaGreatDoorVfsB
namespace Go.Proofs.YtknjopefbbldfaaGreatDoor
open Go.RowKit

theorem lookup_split {n : List UInt8} {x y : FlP} {l2 : List (List UInt8 × FlP)} (s : List UInt8) : ∀ {l1 : List (List UInt8 × FlP)}, (∀ p ∈ l1, p.1 ≠ n) → (l1 ++ (n, y) :: l2).lookup s = if s = n then some y else (l1 ++ (n, x) :: l2).lookup s
  | [], _ => by
    simp only [List.nil_append, List.lookup_cons]
    by_cases h : s = n
    · subst h; simp
    · rw [if_neg h, show (s == n) = false by simpa using h]
  | (m, z) :: r, h => by
    have hm : m ≠ n := h (m, z) (List.mem_cons_self ..)
    simp only [List.cons_append, List.lookup_cons]
    by_cases e : s = m
    · subst e; simp [hm]
    · rw [show (s == m) = false by simpa using e]
      exact lookup_split s (fun p hp => h p (List.mem_cons_of_mem _ hp))
theorem crashL_use (keep : UInt64) : ∀ (l : List (List UInt8 × FlP)) (i : Nat), (∀ p ∈ l, p.2.WF) → useP (crashL keep i l) = useP l
  | [], _, _ => rfl
  | (n, x) :: r, i, h => by
    have h1 := crashL_use keep r (crF keep i x).1 (fun p hp => h p (List.mem_cons_of_mem _ hp))
    have h2 := (crF_same (h _ (List.mem_cons_self ..)) keep i).w
    unfold useP at h1 ⊢
    unfold crashL
    simp only [List.map_cons, List.sum_cons] at h1 h2 ⊢
    omega
theorem crashL_wf (keep : UInt64) : ∀ (l : List (List UInt8 × FlP)) (i : Nat), (∀ p ∈ l, p.2.WF) → ∀ p ∈ crashL keep i l, p.2.WF
  | [], _, _, p, hp => by cases hp
  | (n, x) :: r, i, h, p, hp => by
    unfold crashL at hp
    rcases List.mem_cons.1 hp with rfl | hp
    · exact (crF_same (h _ (List.mem_cons_self ..)) keep i).wf
    · exact crashL_wf keep r _ (fun p hp => h p (List.mem_cons_of_mem _ hp)) p hp
theorem use_app (a b : List (List UInt8 × FlP)) : useP (a ++ b) = useP a + useP b := by simp [useP]
/-- What is there when so many files have been gone through. -/
def crT (keep : UInt64) (S : FsP) (j : Nat) : FsP := { S with fs := crashL keep 0 (S.fs.take j) ++ S.fs.drop j }
theorem crT_zero (keep : UInt64) (S : FsP) : crT keep S 0 = S := by cases S; rfl
theorem crT_names (keep : UInt64) (S : FsP) (j : Nat) : (crT keep S j).fs.map (·.1) = S.fs.map (·.1) := by
  unfold crT
  simp only [List.map_append, crashL_names]
  rw [← List.map_append, List.take_append_drop]
theorem crT_wf {S : FsP} (h : S.WF) (keep : UInt64) (j : Nat) : (crT keep S j).WF := by
  have hw : ∀ p ∈ S.fs.take j, p.2.WF := fun p hp => h.files p (List.mem_of_mem_take hp)
  refine ⟨h.most1, h.most2, h.fuse1, h.fuse2, fun p hp => ?_, ?_, ?_, fun p hp => ?_⟩
  · unfold crT at hp
    rcases List.mem_append.1 hp with hp | hp
    · exact crashL_wf keep _ _ hw p hp
    · exact h.files p (List.mem_of_mem_drop hp)
  · rw [sorted_names, crT_names, ← sorted_names]; exact h.order
  · show useP (crashL keep 0 (S.fs.take j) ++ S.fs.drop j) ≤ S.most
    rw [use_app, crashL_use _ _ _ hw, ← use_app, List.take_append_drop]
    exact h.room
  · have hm : p.1 ∈ (crT keep S j).fs.map (·.1) := List.mem_map_of_mem hp
    rw [crT_names] at hm
    obtain ⟨q, hq, e⟩ := List.mem_map.1 hm
    rw [← e]; exact h.names q hq
theorem crT_split {S : FsP} {j : Nat} {n : List UInt8} {x : FlP} (keep : UInt64) (hj : S.fs[j]? = some (n, x)) :
    (crT keep S j).fs = crashL keep 0 (S.fs.take j) ++ (n, x) :: S.fs.drop (j + 1) ∧ (crT keep S (j + 1)).fs = crashL keep 0 (S.fs.take j) ++ (n, (crF keep (crI keep 0 (S.fs.take j)) x).2) :: S.fs.drop (j + 1) := by
  obtain ⟨hlt, he⟩ := List.getElem?_eq_some_iff.1 hj
  unfold crT
  simp only
  constructor
  · rw [List.drop_eq_getElem_cons hlt, he]
  · rw [take_step hj, crashL_app, List.append_assoc]; rfl
theorem crT_find {S : FsP} {j : Nat} {n : List UInt8} {x : FlP} (h : S.WF) (keep : UInt64) (hj : S.fs[j]? = some (n, x)) (s : List UInt8) :
    findP (crT keep S (j + 1)) s = if s = n then some (crF keep (crI keep 0 (S.fs.take j)) x).2 else findP (crT keep S j) s := by
  obtain ⟨e1, e2⟩ := crT_split keep hj
  unfold findP
  rw [e1, e2]
  refine lookup_split s (fun p hp e => ?_)
  have ho := (crT_wf h keep j).order
  rw [e1] at ho
  have := (List.pairwise_append.1 ho).2.2 p hp (n, x) (List.mem_cons_self ..)
  simp only at this
  exact lt_irr _ (e ▸ this)
theorem crT_at {S : FsP} {j : Nat} {n : List UInt8} {x : FlP} (h : S.WF) (keep : UInt64) (hj : S.fs[j]? = some (n, x)) : findP (crT keep S j) n = some x := by
  obtain ⟨e1, e2⟩ := crT_split keep hj
  exact find_mem (crT_wf h keep j) (p := (n, x)) (by rw [e1]; simp)
theorem crT_all (keep : UInt64) (S : FsP) : crT keep S S.fs.length = { S with fs := crashL keep 0 S.fs } := by
  unfold crT
  rw [List.take_length, List.drop_length, List.append_nil]
theorem crashP_wf {S : FsP} (h : S.WF) (keep : UInt64) : (crashP S keep).WF := by
  have := crT_wf h keep S.fs.length
  rw [crT_all] at this
  exact ⟨this.most1, this.most2, by simp [crashP], by simp [crashP], this.files, this.order, this.room, this.names⟩
theorem crT_inv {S : FsP} (h : S.WF) (keep : UInt64) : ∀ (j : Nat) {n : List UInt8} {z : FlP}, findP (crT keep S j) n = some z → ∃ x, findP S n = some x ∧ SameF x z
  | 0, n, z, hz => by
    rw [crT_zero] at hz
    exact ⟨z, hz, SameF.refl (h.files _ (lookup_mem hz))⟩
  | j + 1, n, z, hz => by
    by_cases hj : j < S.fs.length
    · obtain ⟨n0, x, hjx⟩ : ∃ n x, S.fs[j]? = some (n, x) := ⟨_, _, List.getElem?_eq_getElem hj⟩
      rw [crT_find h keep hjx] at hz
      by_cases e : n = n0
      · rw [if_pos e] at hz
        have hx : findP S n0 = some x := find_mem h (p := (n0, x)) (List.mem_of_getElem? hjx)
        have hw := h.files _ (lookup_mem hx)
        rw [e, ← Option.some.inj hz]
        exact ⟨x, hx, crF_same hw keep _⟩
      · rw [if_neg e] at hz
        exact crT_inv h keep j hz
    · have e : crT keep S (j + 1) = crT keep S j := by
        unfold crT
        rw [List.take_of_length_le (by omega), List.take_of_length_le (by omega), List.drop_of_length_le (by omega), List.drop_of_length_le (by omega)]
      rw [e] at hz
      exact crT_inv h keep j hz
theorem crI_use {S : FsP} (h : S.WF) (keep : UInt64) (j : Nat) : crI keep 0 (S.fs.take j) ≤ 65536 := by
  have h1 := crI_le keep (S.fs.take j) 0
  have h2 : useP (S.fs.take j) ≤ useP S.fs := by
    rw [← List.take_append_drop j S.fs, use_app, List.take_append_drop]; exact Nat.le_add_right _ _
  have := h.room
  have := h.most2
  omega
end Go.Proofs.YtknjopefbbldfaaGreatDoor
