/- Files in a store, in plain words: what each call makes of them. -/
import Derived.Test.YtknjopefbbldfaaGreatDoorBase
namespace Go.Proofs.YtknjopefbbldfaaGreatDoor

/-- How many sectors a length takes. -/
def needN (n : Nat) : Nat := (n + 63) / 64
/-- A byte of a row, zeros behind its end. -/
def byP (l : List UInt8) (i : Nat) : UInt8 := l[i]?.getD 0
/-- A file: its bytes, what lasts of them, which sectors wait, its stamp. -/
structure FlP where
  B : List UInt8
  O : List UInt8
  W : List Bool
  stamp : Nat
structure FlP.WF (x : FlP) : Prop where
  w : x.W.length = needN x.B.length
  o : x.O.length = 64 * x.W.length
def growP (x : FlP) (n : Nat) : FlP :=
  { x with B := x.B ++ List.replicate (n - x.B.length) 0, W := x.W ++ List.replicate (needN n - x.W.length) false, O := x.O ++ List.replicate (64 * needN n - x.O.length) 0 }
def markW (W : List Bool) (p q : Nat) : List Bool := W.mapIdx fun k v => v || (decide (64 * k < q) && decide (p < 64 * k + 64) && decide (p < q))
def putP (x : FlP) (p : Nat) (b : List UInt8) : FlP := { x with B := x.B.take p ++ (b ++ x.B.drop (p + b.length)), W := markW x.W p (p + b.length) }
def cutP (x : FlP) (n : Nat) : FlP :=
  { x with B := x.B.take n, W := if n % 64 = 0 then x.W.take (needN n) else (x.W.take (needN n)).set (n / 64) true, O := x.O.take (64 * needN n) }
def lastP (x : FlP) (k : Nat) : FlP := { x with O := x.O.mapIdx fun i o => if i / 64 = k then byP x.B i else o, W := x.W.set k false }
def backP (x : FlP) (k : Nat) : FlP := { x with B := x.B.mapIdx fun i v => if i / 64 = k then byP x.O i else v }
def syncN (x : FlP) : Nat → FlP
  | 0 => x
  | k + 1 => lastP (syncN x k) k
def syncP (x : FlP) : FlP := syncN x x.W.length
def keepB (keep : UInt64) (i : Nat) : Bool := (keep.toNat / 2 ^ (i % 64)) % 2 == 1
def crS (keep : UInt64) (k : Nat) (s : Nat × FlP) : Nat × FlP :=
  if s.2.W[k]?.getD false then (s.1 + 1, lastP (if keepB keep s.1 then s.2 else backP s.2 k) k) else s
def crN (keep : UInt64) (s : Nat × FlP) : Nat → Nat × FlP
  | 0 => s
  | k + 1 => crS keep k (crN keep s k)
def crF (keep : UInt64) (i : Nat) (x : FlP) : Nat × FlP := crN keep (i, x) x.W.length
/-- A store: its sectors, the last stamp, the fuse, whether it is down, its files in the order of their names. -/
structure FsP where
  most : Nat
  stamp : Nat
  fuse : Int
  down : Bool
  fs : List (List UInt8 × FlP)
def useP (fs : List (List UInt8 × FlP)) : Nat := (fs.map fun p => p.2.W.length).sum
def waitsP (fs : List (List UInt8 × FlP)) : Nat := (fs.map fun p => p.2.W.countP id).sum
structure FsP.WF (S : FsP) : Prop where
  most1 : 1 ≤ S.most
  most2 : S.most ≤ 65536
  fuse1 : -1 ≤ S.fuse
  fuse2 : S.fuse ≤ 9223372036854775807
  files : ∀ p ∈ S.fs, p.2.WF
  order : S.fs.Pairwise fun p q => p.1 < q.1
  room : useP S.fs ≤ S.most
  names : ∀ p ∈ S.fs, p.1.length ≤ 100
def findP (S : FsP) (n : List UInt8) : Option FlP := S.fs.lookup n
def insP (n : List UInt8) (x : FlP) : List (List UInt8 × FlP) → List (List UInt8 × FlP)
  | [] => [(n, x)]
  | (m, y) :: r => if n < m then (n, x) :: (m, y) :: r else (m, y) :: insP n x r
def dropP (n : List UInt8) (l : List (List UInt8 × FlP)) : List (List UInt8 × FlP) := l.filter fun p => p.1 != n
def setP (n : List UInt8) (x : FlP) (l : List (List UInt8 × FlP)) : List (List UInt8 × FlP) := l.map fun p => if p.1 = n then (n, x) else p
def burnP (S : FsP) : Bool := S.fuse != 0
/-- The store, when a call has burnt a bit of the fuse, or has come to its end. -/
def burntP (S : FsP) : FsP := if S.fuse = 0 then { S with down := true } else if 0 < S.fuse then { S with fuse := S.fuse - 1 } else S
def okB (c : UInt8) : Bool := (decide (97 ≤ c) && decide (c ≤ 122)) || (decide (48 ≤ c) && decide (c ≤ 57)) || c == 46 || c == 45 || c == 47
def rightP (n : List UInt8) : Bool := decide (1 ≤ n.length) && decide (n.length ≤ 24) && n.all okB
def newP (sectors : Int) : FsP := ⟨(min (max sectors 1) 65536).toNat, 0, -1, false, []⟩
/-- A file is made; one has other bytes; one another name; one is gone; one lasts. -/
def madeF (S : FsP) (n : List UInt8) : FsP := { burntP S with stamp := S.stamp + 1, fs := insP n ⟨[], [], [], S.stamp + 1⟩ S.fs }
def stampF (S : FsP) (n : List UInt8) (y : FlP) : FsP := { burntP S with stamp := S.stamp + 1, fs := setP n { y with stamp := S.stamp + 1 } S.fs }
def movedF (S : FsP) (n m : List UInt8) (x : FlP) : FsP := { burntP S with stamp := S.stamp + 1, fs := insP m { x with stamp := S.stamp + 1 } (dropP m (dropP n S.fs)) }
def goneF (S : FsP) (n : List UInt8) : FsP := { burntP S with fs := dropP n S.fs }
def keptF (S : FsP) (n : List UInt8) (y : FlP) : FsP := { burntP S with fs := setP n y S.fs }
def createP (S : FsP) (n : List UInt8) : Nat × FsP :=
  if S.down then (9, S) else if !rightP n then (1, S) else if (findP S n).isSome then (7, S) else if !burnP S then (9, burntP S)
  else (0, madeF S n)
def writeP (S : FsP) (n : List UInt8) (p : Int) (b : List UInt8) : Nat × FsP :=
  if S.down then (9, S) else match findP S n with
  | none => (6, S)
  | some x =>
    if p < 0 ∨ (x.B.length : Int) < p then (1, S)
    else if S.most < useP S.fs + (needN (max x.B.length (p.toNat + b.length)) - x.W.length) then (8, S)
    else if b = [] then (0, S)
    else if !burnP S then (9, burntP S)
    else (0, stampF S n (putP (growP x (max x.B.length (p.toNat + b.length))) p.toNat b))
def cutF (S : FsP) (n : List UInt8) (k : Int) : Nat × FsP :=
  if S.down then (9, S) else match findP S n with
  | none => (6, S)
  | some x =>
    if k < 0 ∨ (x.B.length : Int) < k then (1, S)
    else if !burnP S then (9, burntP S)
    else (0, stampF S n (cutP x k.toNat))
def renameP (S : FsP) (n m : List UInt8) : Nat × FsP :=
  if S.down then (9, S) else match findP S n with
  | none => (6, S)
  | some x =>
    if !rightP m || m == n then (1, S)
    else if !burnP S then (9, burntP S)
    else (0, movedF S n m x)
def deleteP (S : FsP) (n : List UInt8) : Nat × FsP :=
  if S.down then (9, S) else match findP S n with
  | none => (6, S)
  | some _ => if !burnP S then (9, burntP S) else (0, goneF S n)
def syncF (S : FsP) (n : List UInt8) : Nat × FsP :=
  if S.down then (9, S) else match findP S n with
  | none => (6, S)
  | some x => if !burnP S then (9, burntP S) else (0, keptF S n (syncP x))
def crashL (keep : UInt64) : Nat → List (List UInt8 × FlP) → List (List UInt8 × FlP)
  | _, [] => []
  | i, (n, x) :: r => (n, (crF keep i x).2) :: crashL keep (crF keep i x).1 r
def crI (keep : UInt64) : Nat → List (List UInt8 × FlP) → Nat
  | i, [] => i
  | i, (_, x) :: r => crI keep (crF keep i x).1 r
theorem crI_app (keep : UInt64) (n : List UInt8) (x : FlP) : ∀ (l : List (List UInt8 × FlP)) (i : Nat), crI keep i (l ++ [(n, x)]) = (crF keep (crI keep i l) x).1
  | [], _ => rfl
  | (_, y) :: r, i => crI_app keep n x r (crF keep i y).1
theorem crashL_app (keep : UInt64) (n : List UInt8) (x : FlP) : ∀ (l : List (List UInt8 × FlP)) (i : Nat), crashL keep i (l ++ [(n, x)]) = crashL keep i l ++ [(n, (crF keep (crI keep i l) x).2)]
  | [], _ => rfl
  | (m, y) :: r, i => congrArg ((m, (crF keep i y).2) :: ·) (crashL_app keep n x r (crF keep i y).1)
theorem crashL_names (keep : UInt64) : ∀ (l : List (List UInt8 × FlP)) (i : Nat), (crashL keep i l).map (·.1) = l.map (·.1)
  | [], _ => rfl
  | (m, y) :: r, i => congrArg (m :: ·) (crashL_names keep r (crF keep i y).1)
theorem crashL_len (keep : UInt64) (l : List (List UInt8 × FlP)) (i : Nat) : (crashL keep i l).length = l.length := by
  have := congrArg List.length (crashL_names keep l i); simpa using this
def crashP (S : FsP) (keep : UInt64) : FsP := { S with fuse := -1, down := false, fs := crashL keep 0 S.fs }
def fuseP (S : FsP) (n : Int) : FsP := { S with fuse := max n (-1) }
/-- What a read gives: its error, its bytes. -/
def readP (S : FsP) (n : List UInt8) (p k : Int) : Nat × List UInt8 :=
  if S.down then (9, []) else match findP S n with
  | none => (6, [])
  | some x => if p < 0 ∨ k < 0 then (1, []) else if (x.B.length : Int) < p ∨ (x.B.length : Int) - p < k then (3, []) else (0, (x.B.drop p.toNat).take k.toNat)
theorem lookup_mem {S : FsP} {n : List UInt8} {x : FlP} (h : findP S n = some x) : (n, x) ∈ S.fs := by
  unfold findP at h
  obtain ⟨l1, l2, e, _⟩ := List.lookup_eq_some_iff.1 h
  rw [e]; simp
theorem lookup_ne {l : List (List UInt8 × FlP)} {n : List UInt8} (h : ∀ p ∈ l, p.1 ≠ n) : l.lookup n = none := by
  induction l with
  | nil => rfl
  | cons p r ih =>
    have h1 : (n == p.1) = false := by simpa using Ne.symm (h p (List.mem_cons_self ..))
    rw [List.lookup_cons, h1]
    exact ih (fun q hq => h q (List.mem_cons_of_mem _ hq))
theorem find_mem {S : FsP} (h : S.WF) {p : List UInt8 × FlP} (hp : p ∈ S.fs) : findP S p.1 = some p.2 := by
  have ho := h.order
  unfold findP
  clear h
  generalize S.fs = l at hp ho
  induction l with
  | nil => cases hp
  | cons q r ih =>
    obtain ⟨h1, h2⟩ := List.pairwise_cons.1 ho
    rw [List.lookup_cons]
    rcases List.mem_cons.1 hp with rfl | hp'
    · simp
    · have hne : (p.1 == q.1) = false := by
        have := h1 p hp'
        simp only [beq_eq_false_iff_ne, ne_eq]
        rintro e
        rw [e] at this
        exact List.lt_irrefl _ this
      rw [hne]
      exact ih hp' h2
theorem use_le {fs : List (List UInt8 × FlP)} {p : List UInt8 × FlP} (h : p ∈ fs) : p.2.W.length ≤ useP fs := by
  induction fs with
  | nil => cases h
  | cons q r ih =>
    unfold useP at ih ⊢
    simp only [List.map_cons, List.sum_cons]
    rcases List.mem_cons.1 h with rfl | h
    · omega
    · have := ih h; omega
end Go.Proofs.YtknjopefbbldfaaGreatDoor
