/- Lists of files: what inserting, dropping, setting make of them. -/
import Derived.Test.YtknjopefbbldfaaGreatDoorVfsP
namespace Go.Proofs.YtknjopefbbldfaaGreatDoor

theorem lt_tri {a b : List UInt8} (h1 : ¬ a < b) (h2 : a ≠ b) : b < a := by
  rcases List.le_iff_lt_or_eq.1 (List.not_lt.1 h1) with h | h
  · exact h
  · exact absurd h.symm h2
theorem lt_irr (a : List UInt8) : ¬ a < a := List.lt_irrefl a
theorem lt_tr {a b c : List UInt8} (h : a < b) (k : b < c) : a < c := List.lt_trans h k
section
variable {n : List UInt8} {x : FlP} {l : List (List UInt8 × FlP)}
theorem ins_mem {p : List UInt8 × FlP} : p ∈ insP n x l ↔ p = (n, x) ∨ p ∈ l := by
  induction l with
  | nil => simp [insP]
  | cons q r ih =>
    obtain ⟨m, y⟩ := q
    unfold insP
    split
    · simp
    · simp only [List.mem_cons, ih]
      constructor
      · rintro (h | h | h)
        · exact .inr (.inl h)
        · exact .inl h
        · exact .inr (.inr h)
      · rintro (h | h | h)
        · exact .inr (.inl h)
        · exact .inl h
        · exact .inr (.inr h)
theorem ins_sorted (h : l.Pairwise fun p q => p.1 < q.1) (hn : ∀ p ∈ l, p.1 ≠ n) : (insP n x l).Pairwise fun p q => p.1 < q.1 := by
  induction l with
  | nil => simp [insP]
  | cons q r ih =>
    obtain ⟨m, y⟩ := q
    obtain ⟨h1, h2⟩ := List.pairwise_cons.1 h
    unfold insP
    split
    · rename_i hlt
      refine List.pairwise_cons.2 ⟨fun p hp => ?_, h⟩
      rcases List.mem_cons.1 hp with rfl | hp
      · exact hlt
      · exact lt_tr hlt (h1 p hp)
    · rename_i hlt
      refine List.pairwise_cons.2 ⟨fun p hp => ?_, ih h2 (fun p hp => hn p (List.mem_cons_of_mem _ hp))⟩
      rcases ins_mem.1 hp with rfl | hp
      · exact lt_tri hlt (Ne.symm (hn (m, y) (List.mem_cons_self ..)))
      · exact h1 p hp
theorem lookup_ins (hn : ∀ p ∈ l, p.1 ≠ n) (s : List UInt8) : (insP n x l).lookup s = if s = n then some x else l.lookup s := by
  induction l with
  | nil =>
    unfold insP
    rw [List.lookup_cons]
    by_cases h : s = n
    · subst h; simp
    · rw [if_neg h, show (s == n) = false by simpa using h]
  | cons q r ih =>
    obtain ⟨m, y⟩ := q
    unfold insP
    have hm : m ≠ n := hn (m, y) (List.mem_cons_self ..)
    split
    · rw [List.lookup_cons]
      by_cases h : s = n
      · subst h; simp
      · rw [if_neg h, show (s == n) = false by simpa using h]
    · rw [List.lookup_cons, List.lookup_cons, ih (fun p hp => hn p (List.mem_cons_of_mem _ hp))]
      by_cases h : s = m
      · subst h
        simp [hm]
      · rw [show (s == m) = false by simpa using h]
theorem use_ins : useP (insP n x l) = useP l + x.W.length := by
  induction l with
  | nil => simp [insP, useP]
  | cons q r ih =>
    obtain ⟨m, y⟩ := q
    unfold insP
    split
    · simp only [useP, List.map_cons, List.sum_cons]; omega
    · simp only [useP, List.map_cons, List.sum_cons] at ih ⊢; omega
theorem lookup_drop (s : List UInt8) : (dropP n l).lookup s = if s = n then none else l.lookup s := by
  unfold dropP
  induction l with
  | nil => simp
  | cons q r ih =>
    obtain ⟨m, y⟩ := q
    by_cases hm : m = n
    · subst hm
      rw [List.filter_cons_of_neg (by simp), ih]
      by_cases h : s = m
      · rw [if_pos h, if_pos h]
      · rw [if_neg h, if_neg h, List.lookup_cons, show (s == m) = false by simpa using h]
    · rw [List.filter_cons_of_pos (by simpa using hm), List.lookup_cons, List.lookup_cons, ih]
      by_cases h : s = m
      · subst h; simp [hm]
      · rw [show (s == m) = false by simpa using h]
theorem drop_mem {p : List UInt8 × FlP} : p ∈ dropP n l ↔ p ∈ l ∧ p.1 ≠ n := by simp [dropP]
theorem drop_sorted (h : l.Pairwise fun p q => p.1 < q.1) : (dropP n l).Pairwise fun p q => p.1 < q.1 := h.filter _
theorem use_drop : useP (dropP n l) ≤ useP l := by
  unfold dropP
  induction l with
  | nil => exact Nat.le_refl _
  | cons q r ih =>
    cases h : (q.1 != n) with
    | true => rw [List.filter_cons_of_pos (by simpa using h)]; simp only [useP, List.map_cons, List.sum_cons] at ih ⊢; omega
    | false => rw [List.filter_cons_of_neg (by simp [h])]; simp only [useP, List.map_cons, List.sum_cons] at ih ⊢; omega
theorem lookup_set (s : List UInt8) : (setP n x l).lookup s = if s = n then (l.lookup n).map (fun _ => x) else l.lookup s := by
  unfold setP
  induction l with
  | nil => by_cases h : s = n <;> simp [h]
  | cons q r ih =>
    obtain ⟨m, y⟩ := q
    rw [List.map_cons]
    by_cases hm : m = n
    · subst hm
      rw [if_pos rfl, List.lookup_cons, List.lookup_cons, List.lookup_cons, ih]
      by_cases h : s = m
      · subst h; simp
      · rw [show (s == m) = false by simpa using h, if_neg h, if_neg h]
    · rw [if_neg hm, List.lookup_cons, List.lookup_cons, List.lookup_cons, ih, show (n == m) = false by simpa using Ne.symm hm]
      by_cases h : s = m
      · subst h; simp [hm]
      · rw [show (s == m) = false by simpa using h]
theorem set_mem {p : List UInt8 × FlP} (h : p ∈ setP n x l) : p = (n, x) ∨ p ∈ l := by
  unfold setP at h
  obtain ⟨q, hq, rfl⟩ := List.mem_map.1 h
  by_cases e : q.1 = n
  · rw [if_pos e]; exact .inl rfl
  · rw [if_neg e]; exact .inr hq
theorem set_names : (setP n x l).map (·.1) = l.map (·.1) := by
  unfold setP
  rw [List.map_map]
  refine List.map_congr_left fun p _ => ?_
  by_cases e : p.1 = n
  · simp [e]
  · simp [e]
theorem sorted_names {l : List (List UInt8 × FlP)} : (l.Pairwise fun p q => p.1 < q.1) ↔ (l.map (·.1)).Pairwise (· < ·) := by rw [List.pairwise_map]
theorem set_sorted (h : l.Pairwise fun p q => p.1 < q.1) : (setP n x l).Pairwise fun p q => p.1 < q.1 := by
  rw [sorted_names] at h ⊢; rwa [set_names]
theorem use_set {y : FlP} (h : l.Pairwise fun p q => p.1 < q.1) (hy : l.lookup n = some y) : useP (setP n x l) + y.W.length = useP l + x.W.length := by
  unfold setP
  induction l with
  | nil => cases hy
  | cons q r ih =>
    obtain ⟨m, z⟩ := q
    obtain ⟨h1, h2⟩ := List.pairwise_cons.1 h
    rw [List.map_cons]
    rw [List.lookup_cons] at hy
    by_cases hm : m = n
    · subst hm
      simp only [beq_self_eq_true, Option.some.injEq] at hy
      subst hy
      have e : r.map (fun p => if p.1 = m then (m, x) else p) = r := by
        have : ∀ p ∈ r, (if p.1 = m then (m, x) else p) = p := fun p hp => by
          rw [if_neg]
          rintro e
          exact lt_irr _ (e ▸ h1 p hp)
        rw [List.map_congr_left this, List.map_id']
      rw [if_pos rfl, e]
      simp only [useP, List.map_cons, List.sum_cons]
      omega
    · rw [show (n == m) = false by simpa using Ne.symm hm] at hy
      have := ih h2 hy
      rw [if_neg hm]
      simp only [useP, List.map_cons, List.sum_cons] at this ⊢
      omega
end
theorem find_none {S : FsP} {n : List UInt8} (h : findP S n = none) : ∀ p ∈ S.fs, p.1 ≠ n := by
  intro p hp e
  unfold findP at h
  rw [List.lookup_eq_none_iff] at h
  have := h p hp
  simp [e] at this
end Go.Proofs.YtknjopefbbldfaaGreatDoor
