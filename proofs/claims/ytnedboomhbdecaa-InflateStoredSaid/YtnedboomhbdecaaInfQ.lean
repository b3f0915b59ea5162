/- Unpacking as a plain function: that it ends. No program in sight. -/
import Derived.Test.YtnedboomhbdecaaInfP
namespace Go.Proofs.Ytnedboomhbdecaa

theorem ndP_in {n : Nat} {B : List Bool} {a : Nat} {r : Nat × Nat} (h : ndP n B a = some r) : r.2 = a + n ∧ r.1 < 2 ^ n := by
  unfold ndP at h
  split at h
  · injection h with h
    subst h
    refine ⟨rfl, ?_⟩
    have h1 := natOf_lt ((B.drop a).take n)
    exact Nat.lt_of_lt_of_le h1 (Nat.pow_le_pow_right (by omega) (by rw [List.length_take]; omega))
  · cases h
theorem hdP_lt {B : List Bool} {a : Nat} {r : (Bool × Hd) × Nat} (ha : a ≤ B.length) (h : hdP B a = some r) : a < r.2 := by
  unfold hdP at h
  obtain ⟨x, a1, h1, h2⟩ := bndP_some h
  obtain ⟨e1, _⟩ := ndP_in h1
  obtain ⟨_, hl, _⟩ := Loc.nd 1 B a _ _ ha h1
  have hl2 : Loc (bndP (ndP 2) fun k => if k = 0 then bndP alP fun _ => bndP (ndP 16) fun n => bndP (ndP 16) fun t => if n ^^^ t = 65535 then retP (decide (x = 1), Hd.st n) else failP
      else if k = 1 then retP (decide (x = 1), .co fixL fixD)
      else if k = 2 then bndP codP fun p => retP (decide (x = 1), .co p.1 p.2)
      else failP) := Loc.bnd (Loc.nd 2) fun _ =>
    Loc.ite (Loc.bnd Loc.al fun _ => Loc.bnd (Loc.nd 16) fun _ => Loc.bnd (Loc.nd 16) fun _ => Loc.ite (Loc.ret _) Loc.fail) <|
    Loc.ite (Loc.ret _) <| Loc.ite (Loc.bnd Loc.cod fun _ => Loc.ret _) Loc.fail
  obtain ⟨h3, _, _⟩ := hl2 B a1 r.1 r.2 hl h2
  simp only at e1
  omega
theorem syP_lt {l d : List Int} {m : Nat} {B : List Bool} {a : Nat} {r : Sy × Nat} (ha : a ≤ B.length) (h : syP l d m B a = some r) : a < r.2 ∧ ∀ n f, r.1 = .cp n f → n ≤ 289 := by
  unfold syP at h
  obtain ⟨s, a1, h1, h2⟩ := bndP_some h
  obtain ⟨N, hm, e1⟩ := nxP_met h1
  have hN := hm.2.1
  obtain ⟨_, hl, _⟩ := Loc.nx l B a _ _ ha h1
  simp only at e1
  split at h2
  · injection h2 with h2; subst h2; exact ⟨by simp only; omega, fun n f e => by cases e⟩
  split at h2
  · injection h2 with h2; subst h2; exact ⟨by simp only; omega, fun n f e => by cases e⟩
  split at h2
  · cases h2
  rename_i h285
  have hlb : (lenB s).1 ≤ 258 ∧ (lenB s).2 ≤ 5 := (show ∀ s, s ≤ 285 → (lenB s).1 ≤ 258 ∧ (lenB s).2 ≤ 5 by decide +kernel) s (by omega)
  obtain ⟨u, a2, h3, h4⟩ := bndP_some h2
  obtain ⟨e2, hu⟩ := ndP_in h3
  obtain ⟨_, hl2, _⟩ := Loc.nd _ B a1 _ _ hl h3
  have hu5 : u < 2 ^ 5 := Nat.lt_of_lt_of_le hu (Nat.pow_le_pow_right (by omega) hlb.2)
  obtain ⟨e, a3, h5, h6⟩ := bndP_some h4
  obtain ⟨b1, hl3, _⟩ := Loc.nx d B a2 _ _ hl2 h5
  split at h6
  · cases h6
  obtain ⟨v, a4, h7, h8⟩ := bndP_some h6
  obtain ⟨b2, _, _⟩ := Loc.nd _ B a3 _ _ hl3 h7
  split at h8
  · cases h8
  injection h8 with h8
  subst h8
  simp only at e2 hu5 ⊢
  refine ⟨by omega, fun n f e => ?_⟩
  injection e with e _
  omega
/-- How much there is to do. -/
def rkC (c : Cf) : Nat := if c.st = 0 then 1 else if c.st = 1 then 2 else if c.st = 2 then 1 else if c.st = 3 then c.left + 2 else 0
def meC (B : List Bool) (c : Cf) : Nat := (B.length - c.a) * 300 + rkC c
theorem stC_less {B : List Bool} {c c' : Cf} (ha : c.a ≤ B.length) (h : stC B c = some c') : meC B c' < meC B c := by
  have hl := (stC_loc ha h).2.1
  unfold stC at h
  split at h
  · rename_i h0
    split at h
    · injection h with h; subst h; unfold meC rkC; simp only; rw [if_pos h0]; simp
    · split at h
      · cases h
      · rename_i la n a' e
        injection h with h; subst h
        have := hdP_lt ha e
        unfold meC rkC; simp only at this hl ⊢; rw [if_pos h0]; simp; omega
      · rename_i la l d a' e
        injection h with h; subst h
        have := hdP_lt ha e
        unfold meC rkC; simp only at this hl ⊢; rw [if_pos h0]; simp; omega
  · rename_i h0
    split at h
    · rename_i h1
      split at h
      · injection h with h; subst h; unfold meC rkC; simp only; rw [if_neg h0, if_pos h1]; simp
      · split at h
        · cases h
        · rename_i v a' e
          injection h with h; subst h
          obtain ⟨e1, _⟩ := ndP_in e
          unfold meC rkC; simp only at e1 hl ⊢; rw [if_neg h0, if_pos h1]; omega
    · rename_i h1
      split at h
      · rename_i h2
        split at h
        · cases h
        · rename_i v a' e
          injection h with h; subst h
          have := (syP_lt ha e).1
          unfold meC rkC; simp only at this hl ⊢; rw [if_neg h0, if_neg h1, if_pos h2]; omega
        · rename_i a' e
          injection h with h; subst h
          have := (syP_lt ha e).1
          unfold meC rkC; simp only at this hl ⊢; rw [if_neg h0, if_neg h1, if_pos h2]; simp; omega
        · rename_i n f a' e
          injection h with h; subst h
          obtain ⟨h3, h4⟩ := syP_lt ha e
          have := h4 n f rfl
          unfold meC rkC; simp only at h3 hl ⊢; rw [if_neg h0, if_neg h1, if_pos h2]; simp; omega
      · rename_i h2
        split at h
        · rename_i h3
          split at h
          · injection h with h; subst h; unfold meC rkC; simp only; rw [if_neg h0, if_neg h1, if_neg h2, if_pos h3]; simp
          · rename_i hl0; injection h with h; subst h; unfold meC rkC; simp only; simp [h3]; omega
        · cases h
end Go.Proofs.Ytnedboomhbdecaa
