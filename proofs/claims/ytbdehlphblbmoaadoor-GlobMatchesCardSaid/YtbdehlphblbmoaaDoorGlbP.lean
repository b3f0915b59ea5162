/- Patterns of names. No program in sight. -/
import Derived.Test.YtbdehlphblbmoaaDoorBase
namespace Go.Proofs.YtbdehlphblbmoaaDoor

/-- A part of a pattern. -/
inductive PtP where
  | lit (r : Int)
  | one
  | stars (deep : Bool)
  | cls (not : Bool) (rs : List (Int × Int))
def inCls (rs : List (Int × Int)) (r : Int) : Bool := rs.any (fun p => decide (p.1 ≤ r) && decide (r ≤ p.2))
/-- Does a rune fit a part? -/
def fitsB : PtP → Int → Bool
  | .lit c, r => c == r
  | .one, r => r != 47
  | .stars d, r => d || r != 47
  | .cls n rs, r => (inCls rs r != n) && r != 47
def isStar : PtP → Bool
  | .stars _ => true
  | _ => false
/-- Do runes match a pattern? -/
def mt : List PtP → List Int → Bool
  | [], [] => true
  | [], _ :: _ => false
  | p :: g, [] => isStar p && mt g []
  | p :: g, r :: l => if isStar p then mt g (r :: l) || (fitsB p r && mt (p :: g) l) else fitsB p r && mt g l
termination_by g l => g.length + l.length
/-- The places that are reached: from one of them on what is behind matches. -/
def acc (g : List PtP) (at_ : List Bool) (l : List Int) : Prop := ∃ i, at_[i]? = some true ∧ i ≤ g.length ∧ mt (g.drop i) l = true
/-- Behind stars that are reached the next place is reached. -/
def closed (g : List PtP) (at_ : List Bool) : Prop := ∀ i p, g[i]? = some p → isStar p = true → at_[i]? = some true → at_[i + 1]? = some true
theorem mt_nil_star {p : PtP} {g : List PtP} {l : List Int} (hp : isStar p = true) (h : mt g l = true) : mt (p :: g) l = true := by
  cases l with
  | nil => rw [mt, hp, h]; rfl
  | cons r l => rw [mt, if_pos hp, h]; rfl
theorem acc_end {g : List PtP} {at_ : List Bool} (hc : closed g at_) : acc g at_ [] ↔ at_[g.length]? = some true := by
  constructor
  · rintro ⟨i, h1, h2, h3⟩
    have : ∀ d i, i + d = g.length → at_[i]? = some true → mt (g.drop i) [] = true → at_[g.length]? = some true := by
      intro d
      induction d with
      | zero => intro i hi h _; rw [Nat.add_zero] at hi; rw [← hi]; exact h
      | succ d ih =>
        intro i hi h1 h3
        have hlt : i < g.length := by omega
        rw [List.drop_eq_getElem_cons hlt, mt, Bool.and_eq_true] at h3
        exact ih (i + 1) (by omega) (hc i _ (List.getElem?_eq_getElem hlt) h3.1 h1) h3.2
    exact this (g.length - i) i (by omega) h1 h3
  · intro h
    exact ⟨g.length, h, Nat.le_refl _, by rw [List.drop_length, mt]⟩
/-- One rune on: the places that come of it. -/
def nextOf (g : List PtP) (at_ : List Bool) (r : Int) (j : Nat) : Prop := ∃ i p, g[i]? = some p ∧ at_[i]? = some true ∧ fitsB p r = true ∧ j = if isStar p then i else i + 1
theorem acc_step {g : List PtP} {at_ nx : List Bool} {r : Int} {l : List Int} (hc : closed g at_) (hn : ∀ j, nx[j]? = some true ↔ nextOf g at_ r j) : acc g at_ (r :: l) ↔ acc g nx l := by
  constructor
  · rintro ⟨i, h1, h2, h3⟩
    have key : ∀ d i, i + d = g.length → at_[i]? = some true → mt (g.drop i) (r :: l) = true → acc g nx l := by
      intro d
      induction d with
      | zero =>
        intro i hi _ h
        rw [Nat.add_zero] at hi
        rw [hi, List.drop_length, mt] at h
        cases h
      | succ d ih =>
        intro i hi h1 h3
        have hlt : i < g.length := by omega
        have hg : g[i]? = some g[i] := List.getElem?_eq_getElem hlt
        rw [List.drop_eq_getElem_cons hlt, mt] at h3
        by_cases hs : isStar g[i] = true
        · rw [if_pos hs, Bool.or_eq_true, Bool.and_eq_true] at h3
          rcases h3 with h3 | ⟨h3, h4⟩
          · exact ih (i + 1) (by omega) (hc i _ hg hs h1) h3
          · exact ⟨i, (hn i).2 ⟨i, _, hg, h1, h3, by rw [if_pos hs]⟩, by omega, by rw [List.drop_eq_getElem_cons hlt]; exact h4⟩
        · rw [if_neg hs, Bool.and_eq_true] at h3
          exact ⟨i + 1, (hn (i + 1)).2 ⟨i, _, hg, h1, h3.1, by rw [if_neg hs]⟩, by omega, h3.2⟩
    exact key (g.length - i) i (by omega) h1 h3
  · rintro ⟨j, h1, h2, h3⟩
    obtain ⟨i, p, hg, ha, hf, rfl⟩ := (hn j).1 h1
    have hlt : i < g.length := (List.getElem?_eq_some_iff.1 hg).1
    have hp : g[i] = p := (List.getElem?_eq_some_iff.1 hg).2
    refine ⟨i, ha, by omega, ?_⟩
    rw [List.drop_eq_getElem_cons hlt, hp, mt]
    by_cases hs : isStar p = true
    · rw [if_pos hs] at h3 ⊢
      rw [List.drop_eq_getElem_cons hlt, hp] at h3
      rw [hf, h3]; simp
    · rw [if_neg hs] at h3 ⊢
      rw [hf, h3]; rfl
/-- Marking the places behind stars changes nothing of what matches. -/
theorem acc_more {g : List PtP} {at_ nx : List Bool} {l : List Int} (h1 : ∀ i : Nat, at_[i]? = some true → nx[i]? = some true) (h2 : ∀ i : Nat, nx[i]? = some true → at_[i]? = some true ∨ ∃ k p, i = k + 1 ∧ g[k]? = some p ∧ isStar p = true ∧ nx[k]? = some true) : acc g nx l ↔ acc g at_ l := by
  constructor
  · rintro ⟨i, a1, a2, a3⟩
    have key : ∀ i, nx[i]? = some true → mt (g.drop i) l = true → i ≤ g.length → acc g at_ l := by
      intro i
      induction i with
      | zero =>
        intro b1 b2 b3
        rcases h2 0 b1 with h | ⟨k, _, h, _⟩
        · exact ⟨0, h, b3, b2⟩
        · omega
      | succ i ih =>
        intro b1 b2 b3
        rcases h2 (i + 1) b1 with h | ⟨k, p, h, hg, hs, hk⟩
        · exact ⟨i + 1, h, b3, b2⟩
        · obtain rfl : i = k := by omega
          have hlt : i < g.length := (List.getElem?_eq_some_iff.1 hg).1
          have hp : g[i] = p := (List.getElem?_eq_some_iff.1 hg).2
          exact ih hk (by rw [List.drop_eq_getElem_cons hlt, hp]; exact mt_nil_star hs b2) (by omega)
    exact key i a1 a3 a2
  · rintro ⟨i, a1, a2, a3⟩
    exact ⟨i, h1 i a1, a2, a3⟩
/-- The rune that a text of a pattern tells, and what is behind. -/
def plainR : List Int → Option (Int × List Int)
  | [] => none
  | [c] => if c = 92 then none else some (c, [])
  | c :: d :: m => if c = 92 then some (d, m) else some (c, d :: m)
theorem plainR_less : ∀ {l m : List Int} {c : Int}, plainR l = some (c, m) → m.length < l.length
  | [], _, _, h => by cases h
  | [a], m, c, h => by
    rw [plainR] at h
    split at h
    · cases h
    · injection h with h; injection h with _ h; subst h; simp
  | a :: b :: l, m, c, h => by
    rw [plainR] at h
    split at h <;> (injection h with h; injection h with _ h; subst h; simp only [List.length_cons]; omega)
/-- What is between two brackets; n: more than there are runes. -/
def clsR : Nat → List (Int × Int) → List Int → Option (List (Int × Int) × List Int)
  | 0, _, _ => none
  | n + 1, rs, l =>
    if rs ≠ [] ∧ l.head? = some 93 then some (rs, l.tail)
    else match plainR l with
      | none => none
      | some (a, m) =>
        if 1 < m.length ∧ m.head? = some 45 ∧ m[1]? ≠ some 93 then match plainR m.tail with
          | none => none
          | some (b, k) => if b < a then none else clsR n (rs ++ [(a, b)]) k
        else clsR n (rs ++ [(a, a)]) m
/-- Is it that rune? What is behind it. -/
def isR (c : Int) : List Int → Bool × List Int
  | [] => (false, [])
  | x :: m => if x = c then (true, m) else (false, x :: m)
/-- A part. -/
def partR (l : List Int) : Option (PtP × List Int) :=
  if (isR 63 l).1 then some (.one, (isR 63 l).2)
  else if (isR 42 l).1 then some (.stars (isR 42 (isR 42 l).2).1, (isR 42 (isR 42 l).2).2)
  else if (isR 91 l).1 then match clsR ((isR 91 l).2.length + 1) [] (isR 33 (isR 91 l).2).2 with
    | none => none
    | some (rs, k) => some (.cls (isR 33 (isR 91 l).2).1 rs, k)
  else match plainR l with
    | none => none
    | some (c, m) => some (.lit c, m)
/-- A pattern; n: as many as there are runes. -/
def newR : Nat → List PtP → List Int → Option (List PtP)
  | _, g, [] => some g
  | 0, _, _ :: _ => none
  | n + 1, g, c :: l => match partR (c :: l) with
    | none => none
    | some (p, m) => newR n (g ++ [p]) m
end Go.Proofs.YtbdehlphblbmoaaDoor
