/- Unpacking as a plain function of bits; that it leans on no bit behind those it took. No program in sight. -/
import Derived.Test.YtnedboomhbdecaaHufR
import Derived.Test.YtnedboomhbdecaaBitQ
namespace Go.Proofs.Ytnedboomhbdecaa

/-- What reads bits from a place on. -/
def Ps (α : Type) : Type := List Bool → Nat → Option (α × Nat)
/-- It leans on what it took alone. -/
def Loc {α : Type} (p : Ps α) : Prop := ∀ B a v a', a ≤ B.length → p B a = some (v, a') → a ≤ a' ∧ a' ≤ B.length ∧ ∀ B', a' ≤ B'.length → B'.take a' = B.take a' → p B' a = some (v, a')
def retP {α : Type} (v : α) : Ps α := fun _ a => some (v, a)
def failP {α : Type} : Ps α := fun _ _ => none
def bndP {α β : Type} (p : Ps α) (f : α → Ps β) : Ps β := fun B a => match p B a with
  | none => none
  | some (v, a1) => f v B a1
theorem bndP_some {α β : Type} {p : Ps α} {f : α → Ps β} {B : List Bool} {a : Nat} {r : β × Nat} (h : bndP p f B a = some r) : ∃ v a1, p B a = some (v, a1) ∧ f v B a1 = some r := by
  unfold bndP at h
  split at h
  · cases h
  · rename_i v a1 e
    exact ⟨v, a1, e, h⟩
theorem bndP_of {α β : Type} {p : Ps α} {f : α → Ps β} {B : List Bool} {a a1 : Nat} {v : α} (h : p B a = some (v, a1)) : bndP p f B a = f v B a1 := by
  unfold bndP; rw [h]
theorem bndP_none {α β : Type} {p : Ps α} {f : α → Ps β} {B : List Bool} {a : Nat} (h : p B a = none) : bndP p f B a = none := by
  unfold bndP; rw [h]
theorem Loc.ret {α : Type} (v : α) : Loc (retP v) := fun B a v' a' ha h => by
  unfold retP at h
  injection h with h
  injection h with h1 h2
  subst h1 h2
  exact ⟨Nat.le_refl _, ha, fun B' _ _ => rfl⟩
theorem Loc.fail {α : Type} : Loc (failP : Ps α) := fun B a v a' _ h => by cases h
theorem take_le {B B' : List Bool} {a b : Nat} (h : B'.take b = B.take b) (hab : a ≤ b) : B'.take a = B.take a := by
  have := congrArg (List.take a) h
  rwa [List.take_take, List.take_take, Nat.min_eq_left hab] at this
theorem Loc.bnd {α β : Type} {p : Ps α} {f : α → Ps β} (hp : Loc p) (hf : ∀ v, Loc (f v)) : Loc (bndP p f) := fun B a v a' ha h => by
  obtain ⟨u, a1, h1, h2⟩ := bndP_some h
  obtain ⟨b1, b2, b3⟩ := hp B a u a1 ha h1
  obtain ⟨c1, c2, c3⟩ := hf u B a1 v a' b2 h2
  exact ⟨by omega, c2, fun B' hl ht => by rw [bndP_of (b3 B' (by omega) (take_le ht c1))]; exact c3 B' hl ht⟩
theorem Loc.ite {α : Type} {p q : Ps α} {c : Prop} [Decidable c] (hp : Loc p) (hq : Loc q) : Loc (if c then p else q) := by
  split <;> assumption
/-- A number of so many bits. -/
def ndP (n : Nat) : Ps Nat := fun B a => if a + n ≤ B.length then some (natOf ((B.drop a).take n), a + n) else none
theorem Loc.nd (n : Nat) : Loc (ndP n) := fun B a v a' ha h => by
  unfold ndP at h
  split at h
  · rename_i hl
    injection h with h
    injection h with h1 h2
    subst h1 h2
    refine ⟨by omega, hl, fun B' hl' ht => ?_⟩
    unfold ndP
    rw [if_pos hl']
    have e : (B'.drop a).take n = (B.drop a).take n := by
      have h1 := congrArg (List.drop a) ht
      rwa [List.drop_take, List.drop_take, Nat.add_sub_cancel_left] at h1
    rw [e]
  · cases h
/-- Till a byte begins. -/
def alP : Ps Unit := fun B a => if a + (8 - a % 8) % 8 ≤ B.length then some ((), a + (8 - a % 8) % 8) else none
theorem Loc.al : Loc alP := fun B a v a' ha h => by
  unfold alP at h
  split at h
  · rename_i hl
    injection h with h
    injection h with h1 h2
    subst h2
    exact ⟨by omega, hl, fun B' hl' _ => by unfold alP; rw [if_pos hl']⟩
  · cases h
/-- Bits as numbers. -/
def bnn (l : List Bool) : List Int := l.map fun b => (b.toNat : Int)
theorem bnn_01 (l : List Bool) : ∀ b ∈ bnn l, b = 0 ∨ b = 1 := by
  intro b hb
  obtain ⟨x, _, rfl⟩ := List.mem_map.1 hb
  cases x <;> simp
theorem bnn_len (l : List Bool) : (bnn l).length = l.length := by simp [bnn]
/-- A symbol. -/
noncomputable def nxP (l : List Int) : Ps Nat := fun B a => open Classical in if h : ∃ s n, Met l ((bnn B).drop a) s n then some (h.choose, a + h.choose_spec.choose) else none
theorem nxP_some {l : List Int} {B : List Bool} {a s n : Nat} (h : Met l ((bnn B).drop a) s n) : nxP l B a = some (s, a + n) := by
  have hx : ∃ s n, Met l ((bnn B).drop a) s n := ⟨s, n, h⟩
  have h1 := hx.choose_spec.choose_spec
  obtain ⟨e1, e2⟩ := met_one (fun b hb => bnn_01 B b (List.mem_of_mem_drop hb)) h1 h
  unfold nxP
  rw [dif_pos hx]
  exact congrArg some (Prod.ext e1 (congrArg (a + ·) e2))
theorem nxP_met {l : List Int} {B : List Bool} {a : Nat} {r : Nat × Nat} (h : nxP l B a = some r) : ∃ n, Met l ((bnn B).drop a) r.1 n ∧ r.2 = a + n := by
  unfold nxP at h
  split at h
  · rename_i hx
    injection h with h
    subst h
    exact ⟨_, hx.choose_spec.choose_spec, rfl⟩
  · cases h
theorem nxP_none {l : List Int} {B : List Bool} {a : Nat} (h : ∀ s n, ¬ Met l ((bnn B).drop a) s n) : nxP l B a = none := by
  unfold nxP
  rw [dif_neg (fun ⟨s, n, hm⟩ => h s n hm)]
theorem Loc.nx (l : List Int) : Loc (nxP l) := fun B a v a' ha h => by
  obtain ⟨n, hm, e⟩ := nxP_met h
  simp only at hm e
  subst e
  obtain ⟨h1, h2, h3, h4⟩ := hm
  rw [List.length_drop, bnn_len] at h3
  refine ⟨by omega, by omega, fun B' hl ht => nxP_some ⟨h1, h2, by rw [List.length_drop, bnn_len]; omega, ?_⟩⟩
  rw [← h4]
  have e : ((bnn B').drop a).take n = ((bnn B).drop a).take n := by
    have h5 := congrArg (fun l => (bnn l).drop a) ht
    simp only [bnn, List.map_take] at h5
    rw [List.drop_take, List.drop_take, Nat.add_sub_cancel_left] at h5
    exact h5
  rw [e]
/-- May lengths be codes? None: they may be none at all. -/
def sumI (l : List Int) : Int := l.foldl (· + ·) 0
def okC (l : List Int) (non : Bool) : Bool := mayB l && !overTo l 15 && (fillN l == 0 || sumI l == 1 || non && sumI l == 0)
/-- So many lengths. -/
noncomputable def lenP (cl : List Int) (n : Nat) : Nat → List Int → Ps (List Int)
  | 0, _ => failP
  | f + 1, acc => if n ≤ acc.length then (if acc.length = n then retP acc else failP) else bndP (nxP cl) fun s =>
    if s = 16 then bndP (ndP 2) fun v => (if acc.length = 0 then failP else lenP cl n f (acc ++ List.replicate (3 + v) (acc[acc.length - 1]?.getD 0)))
    else if s = 17 then bndP (ndP 3) fun v => lenP cl n f (acc ++ List.replicate (3 + v) 0)
    else if s = 18 then bndP (ndP 7) fun v => lenP cl n f (acc ++ List.replicate (11 + v) 0)
    else lenP cl n f (acc ++ [(s : Int)])
theorem Loc.len (cl : List Int) (n : Nat) : ∀ f acc, Loc (lenP cl n f acc)
  | 0, _ => Loc.fail
  | f + 1, acc => by
    unfold lenP
    refine Loc.ite (Loc.ite (Loc.ret _) Loc.fail) (Loc.bnd (Loc.nx cl) fun s => ?_)
    refine Loc.ite (Loc.bnd (Loc.nd 2) fun v => Loc.ite Loc.fail (Loc.len cl n f _)) ?_
    refine Loc.ite (Loc.bnd (Loc.nd 3) fun v => Loc.len cl n f _) ?_
    exact Loc.ite (Loc.bnd (Loc.nd 7) fun v => Loc.len cl n f _) (Loc.len cl n f _)
def ordN : List Nat := [16, 17, 18, 0, 8, 7, 9, 6, 10, 5, 11, 4, 12, 3, 13, 2, 14, 1, 15]
/-- The lengths of lengths. -/
def llP : List Nat → List Int → Ps (List Int)
  | [], acc => retP acc
  | s :: r, acc => bndP (ndP 3) fun v => llP r (acc.set s (v : Int))
theorem Loc.ll : ∀ r acc, Loc (llP r acc)
  | [], _ => Loc.ret _
  | s :: r, acc => by unfold llP; exact Loc.bnd (Loc.nd 3) fun v => Loc.ll r _
def zer19 : List Int := List.replicate 19 0
/-- The codes that stand ahead, behind their three numbers. -/
noncomputable def codT (n d k : Nat) : Ps (List Int × List Int) := bndP (llP (ordN.take k) zer19) fun ll =>
  if okC ll false = false then failP else bndP (lenP ll (n + d) (n + d + 1) []) fun l =>
    if l[256]?.getD 0 = 0 then failP else if okC (l.take n) false = false then failP else if okC (l.drop n) true = false then failP else retP (l.take n, l.drop n)
noncomputable def codP : Ps (List Int × List Int) := bndP (ndP 5) fun n => bndP (ndP 5) fun d => bndP (ndP 4) fun k =>
  if 286 < 257 + n ∨ 30 < 1 + d then failP else codT (257 + n) (1 + d) (4 + k)
theorem Loc.cod : Loc codP := Loc.bnd (Loc.nd 5) fun _ => Loc.bnd (Loc.nd 5) fun _ => Loc.bnd (Loc.nd 4) fun _ => Loc.ite Loc.fail <| by
  unfold codT
  exact Loc.bnd (Loc.ll _ _) fun _ => Loc.ite Loc.fail <| Loc.bnd (Loc.len _ _ _ _) fun _ => Loc.ite Loc.fail <| Loc.ite Loc.fail <| Loc.ite Loc.fail <| Loc.ret _
def fixL : List Int := List.replicate 144 8 ++ (List.replicate 112 9 ++ (List.replicate 24 7 ++ List.replicate 8 8))
def fixD : List Int := List.replicate 32 5
/-- A block's head: what is stored, or codes. -/
inductive Hd where
  | st (n : Nat)
  | co (l d : List Int)
noncomputable def hdP : Ps (Bool × Hd) := bndP (ndP 1) fun la => bndP (ndP 2) fun k =>
  if k = 0 then bndP alP fun _ => bndP (ndP 16) fun n => bndP (ndP 16) fun t => if n ^^^ t = 65535 then retP (decide (la = 1), .st n) else failP
  else if k = 1 then retP (decide (la = 1), .co fixL fixD)
  else if k = 2 then bndP codP fun p => retP (decide (la = 1), .co p.1 p.2)
  else failP
theorem Loc.hd : Loc hdP := Loc.bnd (Loc.nd 1) fun _ => Loc.bnd (Loc.nd 2) fun _ =>
  Loc.ite (Loc.bnd Loc.al fun _ => Loc.bnd (Loc.nd 16) fun _ => Loc.bnd (Loc.nd 16) fun _ => Loc.ite (Loc.ret _) Loc.fail) <|
  Loc.ite (Loc.ret _) <| Loc.ite (Loc.bnd Loc.cod fun _ => Loc.ret _) Loc.fail
/-- A symbol's first number, and how many bits more. -/
def spn (s group first : Nat) : Nat × Nat := if s < 2 * group then (first + s, 0) else (first + (group + s % group) * 2 ^ (s / group - 1), s / group - 1)
def lenB (s : Nat) : Nat × Nat := if s = 285 then (258, 0) else spn (s - 257) 4 3
inductive Sy where
  | lit (v : Nat)
  | eob
  | cp (n far : Nat)
noncomputable def syP (l d : List Int) (m : Nat) : Ps Sy := bndP (nxP l) fun s =>
  if s < 256 then retP (.lit s) else if s = 256 then retP .eob else if 285 < s then failP else
  bndP (ndP (lenB s).2) fun u => bndP (nxP d) fun e => if 29 < e then failP else
  bndP (ndP (spn e 2 1).2) fun v => if m < (spn e 2 1).1 + v then failP else retP (.cp ((lenB s).1 + u) ((spn e 2 1).1 + v))
theorem Loc.sy (l d : List Int) (m : Nat) : Loc (syP l d m) := Loc.bnd (Loc.nx l) fun _ => Loc.ite (Loc.ret _) <| Loc.ite (Loc.ret _) <| Loc.ite Loc.fail <|
  Loc.bnd (Loc.nd _) fun _ => Loc.bnd (Loc.nx d) fun _ => Loc.ite Loc.fail <| Loc.bnd (Loc.nd _) fun _ => Loc.ite Loc.fail (Loc.ret _)
/-- An unpacker: 0 a head comes, 1 stored, 2 coded, 3 copies, 4 done. -/
structure Cf where
  a : Nat
  out : List UInt8
  st : Nat
  last : Bool
  left : Nat
  back : Nat
  lits : List Int
  dist : List Int
noncomputable def stC (B : List Bool) (c : Cf) : Option Cf :=
  if c.st = 0 then (if c.last = true then some { c with st := 4 } else match hdP B c.a with
    | none => none
    | some ((la, .st n), a') => some { c with a := a', st := 1, last := la, left := n }
    | some ((la, .co l d), a') => some { c with a := a', st := 2, last := la, lits := l, dist := d })
  else if c.st = 1 then (if c.left = 0 then some { c with st := 0 } else match ndP 8 B c.a with
    | none => none
    | some (v, a') => some { c with a := a', out := c.out ++ [UInt8.ofNat v], left := c.left - 1 })
  else if c.st = 2 then (match syP c.lits c.dist c.out.length B c.a with
    | none => none
    | some (.lit v, a') => some { c with a := a', out := c.out ++ [UInt8.ofNat v] }
    | some (.eob, a') => some { c with a := a', st := 0 }
    | some (.cp n f, a') => some { c with a := a', st := 3, left := n, back := f })
  else if c.st = 3 then (if c.left = 0 then some { c with st := 2 } else some { c with out := c.out ++ [c.out[c.out.length - c.back]?.getD 0], left := c.left - 1 })
  else none
theorem stC_loc {B : List Bool} {c c' : Cf} (ha : c.a ≤ B.length) (h : stC B c = some c') : c.a ≤ c'.a ∧ c'.a ≤ B.length ∧ (∀ B', c'.a ≤ B'.length → B'.take c'.a = B.take c'.a → stC B' c = some c') ∧ c.out.length ≤ c'.out.length ∧ c'.out.length ≤ c.out.length + 1 := by
  unfold stC at h
  split at h
  · rename_i h0
    split at h
    · rename_i hl
      injection h with h
      subst h
      exact ⟨Nat.le_refl _, ha, fun B' _ _ => by unfold stC; rw [if_pos h0, if_pos hl], Nat.le_refl _, Nat.le_succ _⟩
    · rename_i hl
      split at h
      · cases h
      · rename_i la n a' e
        injection h with h
        subst h
        obtain ⟨b1, b2, b3⟩ := Loc.hd B _ _ _ ha e
        exact ⟨b1, b2, fun B' h1 h2 => by unfold stC; rw [if_pos h0, if_neg hl, b3 B' h1 h2], Nat.le_refl _, Nat.le_succ _⟩
      · rename_i la l d a' e
        injection h with h
        subst h
        obtain ⟨b1, b2, b3⟩ := Loc.hd B _ _ _ ha e
        exact ⟨b1, b2, fun B' h1 h2 => by unfold stC; rw [if_pos h0, if_neg hl, b3 B' h1 h2], Nat.le_refl _, Nat.le_succ _⟩
  · rename_i h0
    split at h
    · rename_i h1
      split at h
      · rename_i hl
        injection h with h
        subst h
        exact ⟨Nat.le_refl _, ha, fun B' _ _ => by unfold stC; rw [if_neg h0, if_pos h1, if_pos hl], Nat.le_refl _, Nat.le_succ _⟩
      · rename_i hl
        split at h
        · cases h
        · rename_i v a' e
          injection h with h
          subst h
          obtain ⟨b1, b2, b3⟩ := Loc.nd 8 B _ _ _ ha e
          exact ⟨b1, b2, fun B' hh1 hh2 => by unfold stC; rw [if_neg h0, if_pos h1, if_neg hl, b3 B' hh1 hh2], by simp, by simp⟩
    · rename_i h1
      split at h
      · rename_i h2
        split at h
        · cases h
        · rename_i v a' e
          injection h with h
          subst h
          obtain ⟨b1, b2, b3⟩ := Loc.sy _ _ _ B _ _ _ ha e
          exact ⟨b1, b2, fun B' hh1 hh2 => by unfold stC; rw [if_neg h0, if_neg h1, if_pos h2, b3 B' hh1 hh2], by simp, by simp⟩
        · rename_i a' e
          injection h with h
          subst h
          obtain ⟨b1, b2, b3⟩ := Loc.sy _ _ _ B _ _ _ ha e
          exact ⟨b1, b2, fun B' hh1 hh2 => by unfold stC; rw [if_neg h0, if_neg h1, if_pos h2, b3 B' hh1 hh2], Nat.le_refl _, Nat.le_succ _⟩
        · rename_i n f a' e
          injection h with h
          subst h
          obtain ⟨b1, b2, b3⟩ := Loc.sy _ _ _ B _ _ _ ha e
          exact ⟨b1, b2, fun B' hh1 hh2 => by unfold stC; rw [if_neg h0, if_neg h1, if_pos h2, b3 B' hh1 hh2], Nat.le_refl _, Nat.le_succ _⟩
      · rename_i h2
        split at h
        · rename_i h3
          split at h
          · rename_i hl
            injection h with h
            subst h
            exact ⟨Nat.le_refl _, ha, fun B' _ _ => by unfold stC; rw [if_neg h0, if_neg h1, if_neg h2, if_pos h3, if_pos hl], Nat.le_refl _, Nat.le_succ _⟩
          · rename_i hl
            injection h with h
            subst h
            exact ⟨Nat.le_refl _, ha, fun B' _ _ => by unfold stC; rw [if_neg h0, if_neg h1, if_neg h2, if_pos h3, if_neg hl], by simp, by simp⟩
        · cases h
/-- From one state to another. -/
inductive Rn (B : List Bool) : Cf → Cf → Prop
  | refl (c) : Rn B c c
  | step {c c1 c2} : Rn B c c1 → stC B c1 = some c2 → Rn B c c2
theorem Rn.trans {B : List Bool} {a b c : Cf} (h : Rn B a b) (k : Rn B b c) : Rn B a c := by
  induction k with
  | refl => exact h
  | step _ e ih => exact .step ih e
theorem Rn.head {B : List Bool} {a b : Cf} (h : Rn B a b) : a = b ∨ ∃ x, stC B a = some x ∧ Rn B x b := by
  induction h with
  | refl => exact .inl rfl
  | step _ e ih =>
    rcases ih with rfl | ⟨x, h1, h2⟩
    · exact .inr ⟨_, e, .refl _⟩
    · exact .inr ⟨x, h1, .step h2 e⟩
theorem Rn.bd {B : List Bool} {a b : Cf} (h : Rn B a b) (ha : a.a ≤ B.length) : a.a ≤ b.a ∧ b.a ≤ B.length ∧ a.out.length ≤ b.out.length := by
  induction h with
  | refl => exact ⟨Nat.le_refl _, ha, Nat.le_refl _⟩
  | step _ e ih =>
    obtain ⟨i1, i2, i3⟩ := ih
    obtain ⟨h1, h2, _, h4, _⟩ := stC_loc i2 e
    exact ⟨by omega, h2, by omega⟩
/-- Where nothing follows all roads end. -/
theorem Rn.stop {B : List Bool} {a b c : Cf} (h : Rn B a b) (hc : Rn B a c) (hs : stC B c = none) : Rn B b c := by
  induction h with
  | refl => exact hc
  | step _ e ih =>
    rcases ih.head with rfl | ⟨x, h1, h2⟩
    · rw [hs] at e; cases e
    · rw [e] at h1; injection h1 with h1; subst h1; exact h2
theorem Rn.loc {B B' : List Bool} {a b : Cf} (h : Rn B a b) (ha : a.a ≤ B.length) (hl : b.a ≤ B'.length) (ht : B'.take b.a = B.take b.a) : Rn B' a b := by
  induction h with
  | refl => exact .refl _
  | step h1 e ih =>
    obtain ⟨_, i2, _⟩ := Rn.bd h1 ha
    obtain ⟨k1, k2, k3, _⟩ := stC_loc i2 e
    exact .step (ih (by omega) (take_le ht k1)) (k3 B' hl ht)
/-- It is met on the way to so many bytes. -/
theorem Rn.grow {B : List Bool} {a b : Cf} (h : Rn B a b) (ha : a.a ≤ B.length) {m : Nat} (h1 : a.out.length ≤ m) (h2 : m ≤ b.out.length) : ∃ c, Rn B a c ∧ Rn B c b ∧ c.out.length = m := by
  induction h with
  | refl => exact ⟨_, .refl _, .refl _, by omega⟩
  | @step c1 c2 h3 e ih =>
    obtain ⟨_, i2, _⟩ := Rn.bd h3 ha
    obtain ⟨_, _, _, _, k5⟩ := stC_loc i2 e
    by_cases hm : m ≤ c1.out.length
    · obtain ⟨c, j1, j2, j3⟩ := ih hm
      exact ⟨c, j1, .step j2 e, j3⟩
    · exact ⟨_, .step h3 e, .refl _, by omega⟩
def cf0 : Cf := ⟨0, [], 0, false, 0, 0, [], []⟩
/-- How it ends, at most so many bytes told. -/
inductive Oc (B : List Bool) (most : Nat) : Option (List UInt8 × Nat) → Bool → Prop
  | ok {c} : Rn B cf0 c → c.st = 4 → c.out.length ≤ most → Oc B most (some (c.out, (c.a + 7) / 8)) false
  | long {c} : Rn B cf0 c → most < c.out.length → Oc B most none true
  | err {c} : Rn B cf0 c → c.st ≠ 4 → c.out.length ≤ most → stC B c = none → Oc B most none false
theorem stC_done {B : List Bool} {c : Cf} (h : c.st = 4) : stC B c = none := by
  unfold stC; rw [if_neg (by omega), if_neg (by omega), if_neg (by omega), if_neg (by omega)]
theorem Oc.one {B B' : List Bool} {c : Cf} (h : Rn B cf0 c) (hd : c.st = 4) (hl : c.a ≤ B'.length) (ht : B'.take c.a = B.take c.a) {most : Nat} (hm : c.out.length ≤ most) {r : Option (List UInt8 × Nat)} {b : Bool} (ho : Oc B' most r b) : r = some (c.out, (c.a + 7) / 8) ∧ b = false := by
  have h' : Rn B' cf0 c := h.loc (Nat.zero_le _) hl ht
  cases ho with
  | ok k1 k2 k3 =>
    rcases (h'.stop k1 (stC_done k2)).head with rfl | ⟨x, e, _⟩
    · exact ⟨rfl, rfl⟩
    · rw [stC_done hd] at e; cases e
  | long k1 k2 =>
    have := (k1.stop h' (stC_done hd)).bd (k1.bd (Nat.zero_le _)).2.1
    omega
  | err k1 k2 k3 k4 =>
    rcases (k1.stop h' (stC_done hd)).head with e | ⟨x, e, _⟩
    · rw [e] at k2; exact absurd hd k2
    · rw [k4] at e; cases e
/-- What stands behind is nothing. -/
theorem Oc.ends {b more x : List UInt8} {n most : Nat} (h : Oc (bitsB b) most (some (x, n)) false) : n ≤ b.length ∧
    (∀ r f, Oc (bitsB (b ++ more)) most r f → r = some (x, n) ∧ f = false) ∧ ∀ r f, Oc (bitsB (b.take n)) x.length r f → r = some (x, n) ∧ f = false := by
  cases h with
  | @ok c k1 k2 k3 =>
    have hb := (k1.bd (Nat.zero_le _)).2.1
    rw [bitsB_len] at hb
    have hn : (c.a + 7) / 8 ≤ b.length := by omega
    refine ⟨hn, fun r f ho => ?_, fun r f ho => ?_⟩
    · refine Oc.one k1 k2 ?_ ?_ k3 ho
      · rw [bitsB_len, List.length_append]; omega
      · rw [bitsB_app, List.take_append_of_le_length (by rw [bitsB_len]; exact hb)]
    · refine Oc.one k1 k2 ?_ ?_ (Nat.le_refl _) ho
      · rw [bitsB_len, List.length_take]; omega
      · have e : bitsB b = bitsB (b.take ((c.a + 7) / 8)) ++ bitsB (b.drop ((c.a + 7) / 8)) := by rw [← bitsB_app, List.take_append_drop]
        rw [e, List.take_append_of_le_length]
        rw [bitsB_len, List.length_take]; omega
/-- A smaller bound. -/
theorem Oc.less {B : List Bool} {most m : Nat} (hm : m ≤ most) {r r' : Option (List UInt8 × Nat)} {f f' : Bool} (h : Oc B most r f) (k : Oc B m r' f') :
    (r = none → r' = none) ∧ ∀ x n, r = some (x, n) → (m < x.length → r' = none ∧ f' = true) ∧ (x.length ≤ m → r' = some (x, n)) := by
  cases h with
  | @ok c k1 k2 k3 =>
    refine ⟨fun e => by (try cases e), fun x n e => ?_⟩
    injection e with e
    injection e with e1 e2
    subst e1 e2
    refine ⟨fun hlt => ?_, fun hle => (Oc.one k1 k2 (k1.bd (Nat.zero_le _)).2.1 rfl hle k).1⟩
    cases k with
    | @ok c2 j1 j2 j3 =>
      rcases (k1.stop j1 (stC_done j2)).head with e | ⟨y, e, _⟩
      · subst e; omega
      · rw [stC_done k2] at e; cases e
    | long => exact ⟨rfl, rfl⟩
    | @err c2 j1 j2 j3 j4 =>
      rcases (j1.stop k1 (stC_done k2)).head with e | ⟨y, e, _⟩
      · subst e; omega
      · rw [j4] at e; cases e
  | @long c k1 k2 =>
    refine ⟨fun _ => ?_, fun x n e => by cases e⟩
    cases k with
    | @ok c2 j1 j2 j3 =>
      have := (k1.stop j1 (stC_done j2)).bd (k1.bd (Nat.zero_le _)).2.1
      omega
    | long => rfl
    | err => rfl
  | @err c k1 k2 k3 k4 =>
    refine ⟨fun _ => ?_, fun x n e => by cases e⟩
    cases k with
    | @ok c2 j1 j2 j3 =>
      rcases (j1.stop k1 k4).head with e | ⟨y, e, _⟩
      · subst e; exact absurd j2 k2
      · rw [stC_done j2] at e; cases e
    | long => rfl
    | err => rfl
end Go.Proofs.Ytnedboomhbdecaa
