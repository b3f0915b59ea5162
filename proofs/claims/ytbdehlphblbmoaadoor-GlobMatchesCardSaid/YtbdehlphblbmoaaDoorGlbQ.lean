/- Quoted names, heads, and stars: what the patterns that are made of them match. No program in sight. -/
import Derived.Test.YtbdehlphblbmoaaDoorGlbU
namespace Go.Proofs.YtbdehlphblbmoaaDoor

/-- A rune that has a meaning of its own in a pattern. -/
def special (r : Int) : Bool := r == 63 || r == 42 || r == 91 || r == 92
def quoteR (rs : List Int) : List Int := rs.flatMap fun r => if special r then [92, r] else [r]
theorem quoteR_app (a b : List Int) : quoteR (a ++ b) = quoteR a ++ quoteR b := by unfold quoteR; rw [List.flatMap_append]
theorem quoteR_len : ∀ rs : List Int, rs.length ≤ (quoteR rs).length ∧ (quoteR rs).length ≤ 2 * rs.length
  | [] => by simp [quoteR]
  | r :: rs => by
    have ih := quoteR_len rs
    unfold quoteR at ih ⊢
    rw [List.flatMap_cons, List.length_append, List.length_cons]
    split <;> simp only [List.length_cons, List.length_nil] <;> omega
theorem quoteR_ok {rs : List Int} (h : ∀ r ∈ rs, okR r) : ∀ r ∈ quoteR rs, okR r := by
  intro r hr
  unfold quoteR at hr
  rw [List.mem_flatMap] at hr
  obtain ⟨x, hx, hr⟩ := hr
  split at hr
  · rcases List.mem_cons.1 hr with rfl | hr
    · unfold okR; omega
    · rw [List.mem_singleton.1 hr]; exact h x hx
  · rw [List.mem_singleton.1 hr]; exact h x hx
theorem isR_ne {c x : Int} {m : List Int} (h : x ≠ c) : isR c (x :: m) = (false, x :: m) := by rw [isR, if_neg h]
theorem isR_eq {c : Int} {m : List Int} : isR c (c :: m) = (true, m) := by rw [isR, if_pos rfl]
/-- One rune, quoted, is a part. -/
theorem part_quote (r : Int) (t : List Int) : partR (quoteR [r] ++ t) = some (.lit r, t) := by
  unfold quoteR
  rw [List.flatMap_cons, List.flatMap_nil, List.append_nil]
  by_cases h : special r = true
  · rw [if_pos h]
    show partR (92 :: r :: t) = _
    unfold partR
    rw [isR_ne (show (92 : Int) ≠ 63 by decide), isR_ne (show (92 : Int) ≠ 42 by decide), isR_ne (show (92 : Int) ≠ 91 by decide)]
    simp only [Bool.false_eq_true, if_false]
    rw [plainR, if_pos rfl]
  · rw [if_neg h]
    show partR (r :: t) = _
    have h' : r ≠ 63 ∧ r ≠ 42 ∧ r ≠ 91 ∧ r ≠ 92 := by
      unfold special at h
      simp at h
      omega
    unfold partR
    rw [isR_ne h'.1, isR_ne h'.2.1, isR_ne h'.2.2.1]
    simp only [Bool.false_eq_true, if_false]
    have e : plainR (r :: t) = some (r, t) := by cases t <;> rw [plainR, if_neg h'.2.2.2]
    rw [e]
theorem quoteR_cons_ne (r : Int) (t : List Int) : ∃ c l, quoteR [r] ++ t = c :: l := by
  unfold quoteR
  rw [List.flatMap_cons, List.flatMap_nil, List.append_nil]
  split
  · exact ⟨92, r :: t, rfl⟩
  · exact ⟨r, t, rfl⟩
theorem newR_nil (n : Nat) (g : List PtP) : newR n g [] = some g := by cases n <;> rfl
theorem new_quote : ∀ (rs : List Int) (g : List PtP) (n : Nat) (t : List Int), (quoteR rs).length + t.length ≤ n → ∃ k, t.length ≤ k ∧ newR n g (quoteR rs ++ t) = newR k (g ++ rs.map .lit) t
  | [], g, n, t, h => ⟨n, by simp [quoteR] at h; exact h, by simp [quoteR]⟩
  | r :: rs, g, n, t, h => by
    have e : quoteR (r :: rs) = quoteR [r] ++ quoteR rs := quoteR_app [r] rs
    have hl := quoteR_len [r]
    rw [e, List.length_append] at h
    rw [e, List.append_assoc]
    obtain ⟨c, l, hc⟩ := quoteR_cons_ne r (quoteR rs ++ t)
    obtain ⟨m, rfl⟩ : ∃ m, n = m + 1 := ⟨n - 1, by simp at hl; omega⟩
    have hp := part_quote r (quoteR rs ++ t)
    rw [hc] at hp ⊢
    rw [newR, hp]
    simp only
    obtain ⟨k, hk, ih⟩ := new_quote rs (g ++ [.lit r]) m t (by simp at hl; omega)
    exact ⟨k, hk, by rw [ih]; simp⟩
theorem new_quoted (rs : List Int) (n : Nat) (h : (quoteR rs).length ≤ n) : newR n [] (quoteR rs) = some (rs.map .lit) := by
  obtain ⟨k, _, e⟩ := new_quote rs [] n [] (by simpa using h)
  rw [List.append_nil] at e
  rw [e, newR_nil, List.nil_append]
theorem new_stars2 (g : List PtP) (k : Nat) (h : 2 ≤ k) : newR k g [42, 42] = some (g ++ [.stars true]) := by
  obtain ⟨m, rfl⟩ : ∃ m, k = m + 1 := ⟨k - 1, by omega⟩
  have e : partR [42, 42] = some (.stars true, []) := by rfl
  rw [newR, e]
  simp only
  rw [newR_nil]
theorem new_stars1 (g : List PtP) (k : Nat) (h : 1 ≤ k) : newR k g [42] = some (g ++ [.stars false]) := by
  obtain ⟨m, rfl⟩ : ∃ m, k = m + 1 := ⟨k - 1, by omega⟩
  have e : partR [42] = some (.stars false, []) := by rfl
  rw [newR, e]
  simp only
  rw [newR_nil]
theorem new_quoted2 (rs : List Int) (n : Nat) (h : (quoteR rs).length + 2 ≤ n) : newR n [] (quoteR rs ++ [42, 42]) = some (rs.map .lit ++ [.stars true]) := by
  obtain ⟨k, hk, e⟩ := new_quote rs [] n [42, 42] (by simpa using h)
  rw [e, new_stars2 _ k (by simpa using hk), List.nil_append]
theorem mt_lit (r : Int) (g : List PtP) (x : Int) (l : List Int) : mt (.lit r :: g) (x :: l) = (r == x && mt g l) := by
  rw [mt]
  simp [isStar, fitsB]
theorem mt_lit_nil (r : Int) (g : List PtP) : mt (.lit r :: g) [] = false := by
  rw [mt]
  simp [isStar]
theorem mt_lits : ∀ (rs : List Int) (l : List Int), mt (rs.map .lit) l = decide (l = rs)
  | [], [] => by simp [mt]
  | [], x :: l => by simp [mt]
  | r :: rs, [] => by rw [List.map_cons, mt_lit_nil]; simp
  | r :: rs, x :: l => by
    rw [List.map_cons, mt_lit, mt_lits rs l]
    rw [Bool.eq_iff_iff]
    simp only [Bool.and_eq_true, beq_iff_eq, decide_eq_true_eq, List.cons.injEq]
    exact ⟨fun h => ⟨h.1.symm, h.2⟩, fun h => ⟨h.1.symm, h.2⟩⟩
theorem mt_stars2 : ∀ l : List Int, mt [.stars true] l = true
  | [] => by simp [mt, isStar]
  | x :: l => by
    rw [mt, mt_stars2 l]
    simp [isStar, fitsB]
theorem mt_stars1 : ∀ l : List Int, mt [.stars false] l = l.all (fun x => x != 47)
  | [] => by simp [mt, isStar]
  | x :: l => by
    rw [mt, mt_stars1 l]
    simp [isStar, fitsB, mt]
theorem mt_lits_stars : ∀ (rs x : List Int), mt (rs.map .lit ++ [.stars true]) (rs ++ x) = true
  | [], x => mt_stars2 x
  | r :: rs, x => by
    rw [List.map_cons, List.cons_append, List.cons_append, mt_lit, mt_lits_stars rs x]
    simp
/-- What a pattern begins with; and is that all of it? -/
def headR : List PtP → List Int × Bool
  | [] => ([], true)
  | .lit r :: ps => (r :: (headR ps).1, (headR ps).2)
  | _ :: _ => ([], false)
theorem head_lits : ∀ rs : List Int, headR (rs.map .lit) = (rs, true)
  | [] => rfl
  | r :: rs => by rw [List.map_cons, headR, head_lits rs]
theorem head_lits_stars (d : Bool) : ∀ rs : List Int, headR (rs.map .lit ++ [.stars d]) = (rs, false)
  | [] => rfl
  | r :: rs => by rw [List.map_cons, List.cons_append, headR, head_lits_stars d rs]
/-- What matches begins so. -/
theorem mt_head : ∀ (ps : List PtP) (l : List Int), mt ps l = true → ∃ t, l = (headR ps).1 ++ t ∧ ((headR ps).2 = true → t = [])
  | [], [], _ => ⟨[], rfl, fun _ => rfl⟩
  | [], x :: l, h => by simp [mt] at h
  | .lit r :: ps, [], h => by rw [mt_lit_nil] at h; cases h
  | .lit r :: ps, x :: l, h => by
    rw [mt_lit, Bool.and_eq_true] at h
    obtain ⟨t, h1, h2⟩ := mt_head ps l h.2
    have hr : r = x := by simpa using h.1
    exact ⟨t, by rw [headR]; simp [hr]; exact h1, fun h => h2 h⟩
  | .one :: ps, l, _ => ⟨l, rfl, fun h => by cases h⟩
  | .stars _ :: ps, l, _ => ⟨l, rfl, fun h => by cases h⟩
  | .cls _ _ :: ps, l, _ => ⟨l, rfl, fun h => by cases h⟩
theorem mt_own : ∀ (ps : List PtP), (headR ps).2 = true → mt ps (headR ps).1 = true
  | [], _ => by simp [headR, mt]
  | .lit r :: ps, h => by
    rw [headR, mt_lit, mt_own ps h]
    simp
  | .one :: ps, h => by cases h
  | .stars _ :: ps, h => by cases h
  | .cls _ _ :: ps, h => by cases h
/-- The runes of a pattern are those of its text. -/
def litsIn (S : List Int) (ps : List PtP) : Prop := ∀ r, PtP.lit r ∈ ps → r ∈ S
theorem plainR_mem : ∀ {l m : List Int} {c : Int}, plainR l = some (c, m) → c ∈ l ∧ ∀ x ∈ m, x ∈ l
  | [], m, c, h => by cases h
  | [a], m, c, h => by
    rw [plainR] at h
    split at h
    · cases h
    · injection h with h; injection h with h1 h2; subst h1 h2; simp
  | a :: b :: l, m, c, h => by
    rw [plainR] at h
    split at h
    · injection h with h; injection h with h1 h2; subst h1 h2
      exact ⟨by simp, fun x hx => by simp [hx]⟩
    · injection h with h; injection h with h1 h2; subst h1 h2
      exact ⟨by simp, fun x hx => List.mem_cons_of_mem _ hx⟩
theorem isR_mem (c : Int) : ∀ (l : List Int), ∀ x ∈ (isR c l).2, x ∈ l
  | [], x, h => h
  | a :: l, x, h => by
    rw [isR] at h
    split at h
    · exact List.mem_cons_of_mem _ h
    · exact h
theorem clsR_mem : ∀ (n : Nat) (rs : List (Int × Int)) (l : List Int) {q : List (Int × Int)} {k : List Int}, clsR n rs l = some (q, k) → ∀ x ∈ k, x ∈ l
  | 0, _, _, _, _, h => by cases h
  | n + 1, rs, l, q, k, h => by
    rw [clsR] at h
    split at h
    · injection h with h; injection h with h1 h2; subst h2
      intro x hx; exact List.mem_of_mem_tail hx
    · split at h
      · cases h
      · rename_i a m ha
        have hm := (plainR_mem ha).2
        split at h
        · split at h
          · cases h
          · rename_i b k' hb
            split at h
            · cases h
            · intro x hx
              exact hm x (List.mem_of_mem_tail ((plainR_mem hb).2 x (clsR_mem n _ _ h x hx)))
        · intro x hx
          exact hm x (clsR_mem n _ _ h x hx)
theorem partR_mem {l m : List Int} {p : PtP} (h : partR l = some (p, m)) : (∀ r, p = .lit r → r ∈ l) ∧ ∀ x ∈ m, x ∈ l := by
  unfold partR at h
  split at h
  · injection h with h; injection h with h1 h2; subst h1 h2
    exact ⟨(fun r e => by cases e), isR_mem 63 l⟩
  · split at h
    · injection h with h; injection h with h1 h2; subst h1 h2
      exact ⟨(fun r e => by cases e), fun x hx => isR_mem 42 l x (isR_mem 42 _ x hx)⟩
    · split at h
      · split at h
        · cases h
        · rename_i rs k hk
          injection h with h; injection h with h1 h2; subst h1 h2
          exact ⟨(fun r e => by cases e), fun x hx => isR_mem 91 l x (isR_mem 33 _ x (clsR_mem _ _ _ hk x hx))⟩
      · split at h
        · cases h
        · rename_i c k hk
          injection h with h; injection h with h1 h2; subst h1 h2
          exact ⟨(fun r e => by injection e with e; subst e; exact (plainR_mem hk).1), (plainR_mem hk).2⟩
theorem newR_mem : ∀ (n : Nat) (g : List PtP) (l : List Int) {q : List PtP} (S : List Int), newR n g l = some q → litsIn S g → (∀ x ∈ l, x ∈ S) → litsIn S q
  | n, g, [], q, S, h, hg, _ => by
    rw [newR_nil] at h
    injection h with h; subst h; exact hg
  | 0, g, c :: l, q, S, h, _, _ => by cases h
  | n + 1, g, c :: l, q, S, h, hg, hl => by
    rw [newR] at h
    split at h
    · cases h
    · rename_i p m hp
      have hm := partR_mem hp
      refine newR_mem n _ _ S h (fun r hr => ?_) (fun x hx => hl x (hm.2 x hx))
      rcases List.mem_append.1 hr with hr | hr
      · exact hg r hr
      · exact hl r (hm.1 r (List.mem_singleton.1 hr).symm)
theorem head_in : ∀ (ps : List PtP), ∀ r ∈ (headR ps).1, PtP.lit r ∈ ps
  | [], r, h => by cases h
  | .lit a :: ps, r, h => by
    rw [headR] at h
    rcases List.mem_cons.1 h with rfl | h
    · simp
    · exact List.mem_cons_of_mem _ (head_in ps r h)
  | .one :: ps, r, h => by cases h
  | .stars _ :: ps, r, h => by cases h
  | .cls _ _ :: ps, r, h => by cases h
end Go.Proofs.YtbdehlphblbmoaaDoor
