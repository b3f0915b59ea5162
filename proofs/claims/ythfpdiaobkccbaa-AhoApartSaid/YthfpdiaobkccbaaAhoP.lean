/- Plain facts on words that are looked for at once: strings, their longest suffixes among some, where they end first. No program in sight. -/
import Derived.IntWalk
import Derived.WalkKit
namespace Go.Proofs.Ythfpdiaobkccbaa

/-- The longest suffix that is one of some strings. -/
def ls (S : List (List UInt8)) : List UInt8 → List UInt8
  | [] => []
  | c :: t => if (c :: t) ∈ S then c :: t else ls S t
/-- Strings with all their beginnings, each once, the empty one first. -/
structure Trie (S : List (List UInt8)) : Prop where
  zero : S[0]? = some []
  nd : S.Nodup
  pc : ∀ s c, s ++ [c] ∈ S → s ∈ S
section
variable {S : List (List UInt8)}
theorem Trie.mem0 (h : Trie S) : [] ∈ S := List.mem_of_getElem? h.zero
theorem ls_mem (h : [] ∈ S) : ∀ t, ls S t ∈ S
  | [] => h
  | c :: t => by
    unfold ls
    split
    · assumption
    · exact ls_mem h t
theorem ls_len : ∀ t, (ls S t).length ≤ t.length
  | [] => Nat.le_refl _
  | c :: t => by
    unfold ls
    split
    · exact Nat.le_refl _
    · have := ls_len t; simp only [List.length_cons]; omega
theorem ls_self {t : List UInt8} (h : t ∈ S) : ls S t = t := by
  cases t with
  | nil => rfl
  | cons c t => unfold ls; rw [if_pos h]
theorem ls_step (h : Trie S) (c : UInt8) : ∀ t, ls S (t ++ [c]) = ls S (ls S t ++ [c])
  | [] => rfl
  | b :: u => by
    by_cases hb : (b :: u) ∈ S
    · rw [ls_self hb]
    · have hn : ¬ (b :: (u ++ [c])) ∈ S := fun hm => hb (h.pc (b :: u) c hm)
      have e1 : ls S (b :: u ++ [c]) = ls S (u ++ [c]) := by rw [List.cons_append, ls, if_neg hn]
      have e2 : ls S (b :: u) = ls S u := by rw [ls, if_neg hb]
      rw [e1, e2]
      exact ls_step h c u
theorem suffix_cons_iff' (x : List UInt8) (a : UInt8) (u : List UInt8) : x <:+ a :: u ↔ x = a :: u ∨ x <:+ u := by
  rw [List.suffix_cons_iff]
theorem suf_ls {x : List UInt8} (hx : x ∈ S) : ∀ t, x <:+ t ↔ x <:+ ls S t
  | [] => Iff.rfl
  | a :: u => by
    by_cases hb : (a :: u) ∈ S
    · rw [ls_self hb]
    · have e2 : ls S (a :: u) = ls S u := by rw [ls, if_neg hb]
      rw [e2, ← suf_ls hx u, suffix_cons_iff']
      exact ⟨fun h => h.elim (fun e => absurd (e ▸ hx) hb) id, .inr⟩

/-- A string's number. -/
def ix (S : List (List UInt8)) (s : List UInt8) : Nat := S.idxOf s
/-- The string of a number. -/
def str (S : List (List UInt8)) (i : Nat) : List UInt8 := S[i]?.getD []
theorem ix_lt {s : List UInt8} (h : s ∈ S) : ix S s < S.length := List.idxOf_lt_length_iff.2 h
theorem str_ix {s : List UInt8} (h : s ∈ S) : str S (ix S s) = s := by
  unfold str ix
  rw [List.getElem?_eq_getElem (List.idxOf_lt_length_iff.2 h), List.getElem_idxOf]; rfl
theorem str_mem {i : Nat} (h : i < S.length) : str S i ∈ S := by
  unfold str; rw [List.getElem?_eq_getElem h]; exact List.getElem_mem h
theorem str_inj (hn : S.Nodup) {i j : Nat} (hi : i < S.length) (hj : j < S.length) (h : str S i = str S j) : i = j := by
  unfold str at h
  rw [List.getElem?_eq_getElem hi, List.getElem?_eq_getElem hj] at h
  exact (List.getElem_inj hn).1 h
theorem ix_str (hn : S.Nodup) {i : Nat} (h : i < S.length) : ix S (str S i) = i := str_inj hn (ix_lt (str_mem h)) h (str_ix (str_mem h))
theorem ix_zero (h : Trie S) : ix S [] = 0 := by
  have h0 : 0 < S.length := by
    rcases Nat.eq_zero_or_pos S.length with e | e
    · have := h.zero; rw [List.eq_nil_of_length_eq_zero e] at this; simp at this
    · exact e
  have : str S 0 = [] := by unfold str; rw [h.zero]; rfl
  rw [← this]; exact ix_str h.nd h0
theorem str_zero (h : Trie S) : str S 0 = [] := by unfold str; rw [h.zero]; rfl
/-- Where a byte leads. -/
def nx (S : List (List UInt8)) (i : Nat) (c : UInt8) : Option Nat := if (str S i ++ [c]) ∈ S then some (ix S (str S i ++ [c])) else none
theorem nx_some {i v : Nat} {c : UInt8} (h : nx S i c = some v) : str S i ++ [c] ∈ S ∧ v = ix S (str S i ++ [c]) ∧ v < S.length ∧ str S v = str S i ++ [c] := by
  unfold nx at h
  split at h
  · rename_i hm
    injection h with h
    subst h
    exact ⟨hm, rfl, ix_lt hm, str_ix hm⟩
  · cases h
theorem nx_none {i : Nat} {c : UInt8} (h : nx S i c = none) : ¬ str S i ++ [c] ∈ S := by
  unfold nx at h
  split at h
  · cases h
  · assumption
theorem str_app {s : List UInt8} {i : Nat} (h : i < S.length) : str (S ++ [s]) i = str S i := by
  unfold str; rw [List.getElem?_append_left h]
theorem str_new (s : List UInt8) : str (S ++ [s]) S.length = s := by
  unfold str; rw [List.getElem?_append_right (Nat.le_refl _)]; simp
theorem ix_app {s t : List UInt8} (h : t ∈ S) : ix (S ++ [s]) t = ix S t := by
  unfold ix; rw [List.idxOf_append, if_pos h]
/-- One string more. -/
theorem Trie.add (h : Trie S) {j : Nat} {c : UInt8} (hj : j < S.length) (hn : ¬ str S j ++ [c] ∈ S) : Trie (S ++ [str S j ++ [c]]) := by
  refine ⟨?_, ?_, ?_⟩
  · rw [List.getElem?_append_left (by omega)]; exact h.zero
  · rw [List.nodup_append]
    exact ⟨h.nd, by simp, fun a ha b hb => by simp at hb; rintro rfl; exact hn (hb ▸ ha)⟩
  · intro s d hm
    rcases List.mem_append.1 hm with hm | hm
    · exact List.mem_append_left _ (h.pc s d hm)
    · simp only [List.mem_singleton] at hm
      have := (List.append_inj' hm rfl).1
      rw [this]
      exact List.mem_append_left _ (str_mem hj)
theorem nx_add (h : Trie S) {j : Nat} {c : UInt8} (hj : j < S.length) (hn : ¬ str S j ++ [c] ∈ S) {i : Nat} (hi : i < S.length) (d : UInt8) :
    nx (S ++ [str S j ++ [c]]) i d = if i = j ∧ d = c then some S.length else nx S i d := by
  have hnd := (h.add hj hn).nd
  unfold nx
  rw [str_app hi]
  by_cases he : i = j ∧ d = c
  · obtain ⟨rfl, rfl⟩ := he
    rw [if_pos (by simp), if_pos ⟨rfl, rfl⟩]
    congr 1
    have e : str (S ++ [str S i ++ [d]]) S.length = str S i ++ [d] := str_new _
    have e2 := ix_str hnd (i := S.length) (by simp)
    rw [e] at e2
    exact e2
  · rw [if_neg he]
    by_cases hm : str S i ++ [d] ∈ S
    · rw [if_pos (List.mem_append_left _ hm), if_pos hm, ix_app hm]
    · rw [if_neg hm, if_neg]
      intro hm2
      rcases List.mem_append.1 hm2 with h1 | h1
      · exact hm h1
      · simp only [List.mem_singleton] at h1
        obtain ⟨e1, e2⟩ := List.append_inj' h1 rfl
        exact he ⟨str_inj h.nd hi hj e1, by simpa using e2⟩
theorem nx_new (h : Trie S) {j : Nat} {c : UInt8} (hn : ¬ str S j ++ [c] ∈ S) (d : UInt8) : nx (S ++ [str S j ++ [c]]) S.length d = none := by
  unfold nx
  rw [str_new, if_neg]
  intro hm
  rcases List.mem_append.1 hm with h1 | h1
  · exact hn (h.pc _ _ h1)
  · simp only [List.mem_singleton] at h1
    have := congrArg List.length h1
    simp at this
/-- Where the way back leads. -/
def bk (S : List (List UInt8)) (i : Nat) : Nat := ix S (ls S (str S i).tail)
/-- Where a step leads. -/
def go (S : List (List UInt8)) (i : Nat) (c : UInt8) : Nat := ix S (ls S (str S i ++ [c]))
theorem go_lt (h : Trie S) (i : Nat) (c : UInt8) : go S i c < S.length := ix_lt (ls_mem h.mem0 _)
theorem str_go (h : Trie S) (i : Nat) (c : UInt8) : str S (go S i c) = ls S (str S i ++ [c]) := str_ix (ls_mem h.mem0 _)
theorem bk_lt (h : Trie S) (i : Nat) : bk S i < S.length := ix_lt (ls_mem h.mem0 _)
theorem str_bk (h : Trie S) (i : Nat) : str S (bk S i) = ls S (str S i).tail := str_ix (ls_mem h.mem0 _)
theorem bk_len (h : Trie S) {i : Nat} (hi : i < S.length) (h0 : i ≠ 0) : (str S (bk S i)).length < (str S i).length := by
  rw [str_bk h]
  have h1 := ls_len (S := S) (str S i).tail
  have h2 : str S i ≠ [] := fun e => h0 (by
    have := str_inj h.nd hi (by omega : 0 < S.length) (by rw [e, str_zero h]); exact this)
  have h3 : 0 < (str S i).length := List.length_pos_iff.2 h2
  rw [List.length_tail] at h1
  omega
theorem go_some {i v : Nat} {c : UInt8} (h : nx S i c = some v) : go S i c = v := by
  obtain ⟨h1, h2, _⟩ := nx_some h
  unfold go; rw [ls_self h1, h2]
theorem go_zero (h : Trie S) {c : UInt8} (hn : nx S 0 c = none) : go S 0 c = 0 := by
  have := nx_none hn
  unfold go
  rw [str_zero h] at this ⊢
  rw [List.nil_append] at this ⊢
  rw [ls, if_neg this]
  exact ix_zero h
theorem go_back (h : Trie S) {i : Nat} (hi : i < S.length) (h0 : i ≠ 0) {c : UInt8} (hn : nx S i c = none) : go S i c = go S (bk S i) c := by
  have hm := nx_none hn
  unfold go
  rw [str_bk h]
  have h2 : str S i ≠ [] := fun e => h0 (str_inj h.nd hi (by omega : 0 < S.length) (by rw [e, str_zero h]))
  match hs : str S i, h2 with
  | a :: u, _ =>
    rw [hs] at hm
    rw [List.cons_append] at hm
    rw [List.tail_cons, ← ls_step h c u, List.cons_append, ls, if_neg hm]
/-- A child's way back: where its parent's way back goes on. -/
theorem bk_child (h : Trie S) {i v : Nat} {c : UInt8} (hi : i < S.length) (h0 : i ≠ 0) (hv : nx S i c = some v) : bk S v = go S (bk S i) c := by
  obtain ⟨_, _, _, h4⟩ := nx_some hv
  have h2 : str S i ≠ [] := fun e => h0 (str_inj h.nd hi (by omega : 0 < S.length) (by rw [e, str_zero h]))
  unfold bk go
  rw [h4, str_ix (ls_mem h.mem0 _)]
  match hs : str S i, h2 with
  | a :: u, _ => rw [List.cons_append, List.tail_cons, List.tail_cons, ls_step h c u]
theorem bk_child0 (h : Trie S) {v : Nat} {c : UInt8} (hv : nx S 0 c = some v) : bk S v = 0 := by
  obtain ⟨_, _, _, h4⟩ := nx_some hv
  unfold bk
  rw [h4, str_zero h]
  exact ix_zero h
/-- The words that end at a string: its own, and those of its way back. -/
theorem ends_iff (h : Trie S) {i : Nat} (hi : i < S.length) (h0 : i ≠ 0) {x : List UInt8} (hx : x ∈ S) : x <:+ str S i ↔ x = str S i ∨ x <:+ str S (bk S i) := by
  have h2 : str S i ≠ [] := fun e => h0 (str_inj h.nd hi (by omega : 0 < S.length) (by rw [e, str_zero h]))
  rw [str_bk h]
  match hs : str S i, h2 with
  | a :: u, _ => rw [List.tail_cons, ← suf_ls hx u, suffix_cons_iff']
end

/-- Where a word ends first; -1: nowhere. -/
def fe (x t : List UInt8) : Int := match (List.range (t.length + 1)).find? (fun e => x.isSuffixOf (t.take e)) with | some e => (e : Int) | none => -1
end Go.Proofs.Ythfpdiaobkccbaa
