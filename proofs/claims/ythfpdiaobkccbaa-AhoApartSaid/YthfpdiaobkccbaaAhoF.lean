/- Plain facts on where words end first. No program in sight. -/
import Derived.Test.YthfpdiaobkccbaaAhoP
namespace Go.Proofs.Ythfpdiaobkccbaa

theorem fe_some {x t : List UInt8} {e : Nat} (he : e ≤ t.length) (h : x <:+ t.take e) (hb : ∀ k, k < e → ¬ x <:+ t.take k) : fe x t = e := by
  have : (List.range (t.length + 1)).find? (fun e => x.isSuffixOf (t.take e)) = some e := by
    rw [List.find?_range_eq_some]
    exact ⟨by simpa using h, by simp; omega, fun k hk => by
      cases hs : x.isSuffixOf (t.take k) with
      | false => rfl
      | true => exact absurd (List.isSuffixOf_iff_suffix.1 hs) (hb k hk)⟩
  unfold fe; rw [this]
theorem fe_none {x t : List UInt8} (hb : ∀ k, k ≤ t.length → ¬ x <:+ t.take k) : fe x t = -1 := by
  have : (List.range (t.length + 1)).find? (fun e => x.isSuffixOf (t.take e)) = none := by
    rw [List.find?_eq_none]
    intro k hk
    simp only [List.mem_range] at hk
    simpa using hb k (by omega)
  unfold fe; rw [this]
theorem fe_cases (x t : List UInt8) : (∃ e : Nat, e ≤ t.length ∧ fe x t = e ∧ x <:+ t.take e ∧ ∀ k, k < e → ¬ x <:+ t.take k) ∨ (fe x t = -1 ∧ ∀ k, k ≤ t.length → ¬ x <:+ t.take k) := by
  cases h : (List.range (t.length + 1)).find? (fun e => x.isSuffixOf (t.take e)) with
  | none =>
    right
    refine ⟨by unfold fe; rw [h], fun k hk => ?_⟩
    have := (List.find?_eq_none.1 h) k (by simp; omega)
    simpa using this
  | some e =>
    left
    rw [List.find?_range_eq_some] at h
    obtain ⟨h1, h2, h3⟩ := h
    simp only [List.mem_range] at h2
    have hs : x <:+ t.take e := by simpa using h1
    have hb : ∀ k, k < e → ¬ x <:+ t.take k := fun k hk hs2 => by have := h3 k hk; rw [List.isSuffixOf_iff_suffix.2 hs2] at this; simp at this
    exact ⟨e, by omega, fe_some (by omega) hs hb, hs, hb⟩
theorem fe_lo (x t : List UInt8) : -1 ≤ fe x t ∧ fe x t ≤ t.length := by
  rcases fe_cases x t with ⟨e, h1, h2, _⟩ | ⟨h1, _⟩
  · rw [h2]; omega
  · rw [h1]; omega
theorem fe_snoc (x t : List UInt8) (c : UInt8) : fe x (t ++ [c]) = if fe x t < 0 then (if x <:+ t ++ [c] then ((t.length + 1 : Nat) : Int) else -1) else fe x t := by
  have hlen : (t ++ [c]).length = t.length + 1 := by simp
  have htk : ∀ k, k ≤ t.length → (t ++ [c]).take k = t.take k := fun k hk => by rw [List.take_append_of_le_length hk]
  rcases fe_cases x t with ⟨e, h1, h2, h3, h4⟩ | ⟨h1, h2⟩
  · rw [h2, if_neg (by omega)]
    exact fe_some (by omega) (by rw [htk e h1]; exact h3) (fun k hk => by rw [htk k (by omega)]; exact h4 k hk)
  · rw [h1, if_pos (by omega)]
    by_cases hs : x <:+ t ++ [c]
    · rw [if_pos hs]
      exact fe_some (by omega) (by rw [List.take_of_length_le (by omega)]; exact hs) (fun k hk => by rw [htk k (by omega)]; exact h2 k (by omega))
    · rw [if_neg hs]
      refine fe_none fun k hk => ?_
      by_cases hk2 : k ≤ t.length
      · rw [htk k hk2]; exact h2 k hk2
      · rw [List.take_of_length_le (by omega)]; exact hs
theorem fe_nil {x : List UInt8} (h : x ≠ []) : fe x [] = -1 := fe_none fun k _ => by simpa using h
/-- Where all words end first. -/
def firsts (ws : List (List UInt8)) (t : List UInt8) : List Int := ws.map fun x => fe x t
def cntF (l : List Int) : Nat := l.countP fun y => decide (0 ≤ y)
def up1 (v : Int) (l : List Int) (k : Nat) : List Int := if l[k]?.getD 0 < 0 then l.set k v else l
def ups (v : Int) (l : List Int) (es : List Nat) : List Int := es.foldl (up1 v) l
theorem up1_len (v : Int) (l : List Int) (k : Nat) : (up1 v l k).length = l.length := by unfold up1; split <;> simp
theorem ups_len (v : Int) : ∀ (es : List Nat) (l : List Int), (ups v l es).length = l.length
  | [], _ => rfl
  | k :: es, l => by
    have := ups_len v es (up1 v l k)
    unfold ups at this ⊢
    rw [List.foldl_cons, this, up1_len]
theorem ups_snoc (v : Int) (l : List Int) (es : List Nat) (k : Nat) : ups v l (es ++ [k]) = up1 v (ups v l es) k := by simp [ups, List.foldl_append]
theorem up1_get (v : Int) (l : List Int) (k j : Nat) : (up1 v l k)[j]? = (l[j]?).map fun y => if y < 0 ∧ j = k then v else y := by
  unfold up1
  split
  · rename_i h
    by_cases hj : j = k
    · subst hj
      rcases Nat.lt_or_ge j l.length with hl | hl
      · rw [List.getElem?_eq_getElem hl] at h
        rw [List.getElem?_set_self hl, List.getElem?_eq_getElem hl]
        simp at h
        simp [h]
      · rw [List.getElem?_eq_none (by simpa using hl), List.getElem?_eq_none hl]; rfl
    · rw [List.getElem?_set_ne (fun e => hj e.symm)]
      simp [hj]
  · rename_i h
    by_cases hj : j = k
    · subst hj
      rcases Nat.lt_or_ge j l.length with hl | hl
      · rw [List.getElem?_eq_getElem hl] at h ⊢
        simp at h
        simp; omega
      · rw [List.getElem?_eq_none hl]; rfl
    · simp [hj]
theorem ups_get {v : Int} (hv : 0 ≤ v) (j : Nat) : ∀ (es : List Nat) (l : List Int), (ups v l es)[j]? = (l[j]?).map fun y => if y < 0 ∧ j ∈ es then v else y
  | [], l => by
    have : ∀ o : Option Int, o = o.map fun y => if y < 0 ∧ j ∈ ([] : List Nat) then v else y := fun o => by cases o <;> simp
    exact this _
  | k :: es, l => by
    have ih := ups_get hv j es (up1 v l k)
    have e : ups v l (k :: es) = ups v (up1 v l k) es := rfl
    rw [e, ih, up1_get, Option.map_map]
    congr 1
    funext y
    simp only [Function.comp, List.mem_cons]
    by_cases h1 : y < 0 <;> by_cases h2 : j = k <;> by_cases h3 : j ∈ es <;> simp [h1, h2, h3] <;> omega
theorem firsts_snoc (ws : List (List UInt8)) (t : List UInt8) (c : UInt8) (es : List Nat) (h : ∀ j, j < ws.length → (j ∈ es ↔ (ws[j]?.getD []) <:+ t ++ [c])) :
    ups ((t.length + 1 : Nat) : Int) (firsts ws t) es = firsts ws (t ++ [c]) := by
  apply List.ext_getElem?
  intro j
  rw [ups_get (by omega)]
  unfold firsts
  rw [List.getElem?_map, List.getElem?_map, Option.map_map]
  rcases Nat.lt_or_ge j ws.length with hl | hl
  · have hj := h j hl
    rw [List.getElem?_eq_getElem hl] at hj ⊢
    simp only [Option.getD_some] at hj
    simp only [Option.map_some, Function.comp]
    rw [fe_snoc]
    congr 1
    by_cases h1 : fe ws[j] t < 0
    · rw [if_pos h1]
      by_cases h2 : j ∈ es
      · rw [if_pos ⟨h1, h2⟩, if_pos (hj.1 h2)]
      · rw [if_neg (fun h => h2 h.2), if_neg (fun h => h2 (hj.2 h))]
        have := (fe_lo ws[j] t).1
        omega
    · rw [if_neg h1, if_neg (fun h => h1 h.1)]
  · rw [List.getElem?_eq_none hl]; rfl
theorem cnt_up1 {v : Int} (hv : 0 ≤ v) {l : List Int} {k : Nat} {y : Int} (hy : l[k]? = some y) : cntF (up1 v l k) = if y < 0 then cntF l + 1 else cntF l := by
  unfold up1
  rw [hy, Option.getD_some]
  have hk : k < l.length := by
    rcases Nat.lt_or_ge k l.length with h | h
    · exact h
    · rw [List.getElem?_eq_none h] at hy; cases hy
  split
  · rename_i h
    unfold cntF
    rw [List.countP_set hk]
    have e : l[k] = y := by rw [List.getElem?_eq_getElem hk] at hy; injection hy
    rw [e, if_neg (by simp; omega), if_pos (by simpa using hv)]
    omega
  · rfl
theorem cnt_le (l : List Int) : cntF l ≤ l.length := List.countP_le_length
end Go.Proofs.Ythfpdiaobkccbaa
