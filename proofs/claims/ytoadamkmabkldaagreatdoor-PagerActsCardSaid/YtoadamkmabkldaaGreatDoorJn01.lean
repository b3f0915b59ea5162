/- Files in a store, in plain words: what each call makes of them. -/
import Derived.Test.YtoadamkmabkldaaGreatDoorJn00
import Derived.Test.YtoadamkmabkldaaGreatDoorRows
import Derived.Laws.CopyOwn
import Derived.Deep.MidRow
import Derived.Maps.OwnSet
import Derived.Maps.RangeWalk
import Derived.Sort.KeysCollected
import Derived.StringKeys
set_option linter.unusedVariables false
set_option linter.unusedSimpArgs false
namespace Go.Proofs.YtoadamkmabkldaaGreatDoor

/-- How many sectors a length takes. -/
def needN (n : Nat) : Nat := (n + 63) / 64
/-- A byte of a row, zeros behind its end. -/
def byP (l : List UInt8) (i : Nat) : UInt8 := l[i]?.getD 0
/-- A file: its bytes, what lasts of them, which sectors wait, its stamp. -/
structure FlP where
  B : List UInt8
  O : List UInt8
  W : List Bool
  stamp : Nat
structure FlP.WF (x : FlP) : Prop where
  w : x.W.length = needN x.B.length
  o : x.O.length = 64 * x.W.length
def growP (x : FlP) (n : Nat) : FlP :=
  { x with B := x.B ++ List.replicate (n - x.B.length) 0, W := x.W ++ List.replicate (needN n - x.W.length) false, O := x.O ++ List.replicate (64 * needN n - x.O.length) 0 }
def markW (W : List Bool) (p q : Nat) : List Bool := W.mapIdx fun k v => v || (decide (64 * k < q) && decide (p < 64 * k + 64) && decide (p < q))
def putP (x : FlP) (p : Nat) (b : List UInt8) : FlP := { x with B := x.B.take p ++ (b ++ x.B.drop (p + b.length)), W := markW x.W p (p + b.length) }
def cutP (x : FlP) (n : Nat) : FlP :=
  { x with B := x.B.take n, W := if n % 64 = 0 then x.W.take (needN n) else (x.W.take (needN n)).set (n / 64) true, O := x.O.take (64 * needN n) }
def lastP (x : FlP) (k : Nat) : FlP := { x with O := x.O.mapIdx fun i o => if i / 64 = k then byP x.B i else o, W := x.W.set k false }
def backP (x : FlP) (k : Nat) : FlP := { x with B := x.B.mapIdx fun i v => if i / 64 = k then byP x.O i else v }
def syncN (x : FlP) : Nat → FlP
  | 0 => x
  | k + 1 => lastP (syncN x k) k
def syncP (x : FlP) : FlP := syncN x x.W.length
def keepB (keep : UInt64) (i : Nat) : Bool := (keep.toNat / 2 ^ (i % 64)) % 2 == 1
def crS (keep : UInt64) (k : Nat) (s : Nat × FlP) : Nat × FlP :=
  if s.2.W[k]?.getD false then (s.1 + 1, lastP (if keepB keep s.1 then s.2 else backP s.2 k) k) else s
def crN (keep : UInt64) (s : Nat × FlP) : Nat → Nat × FlP
  | 0 => s
  | k + 1 => crS keep k (crN keep s k)
def crF (keep : UInt64) (i : Nat) (x : FlP) : Nat × FlP := crN keep (i, x) x.W.length
/-- A store: its sectors, the last stamp, the fuse, whether it is down, its files in the order of their names. -/
structure FsP where
  most : Nat
  stamp : Nat
  fuse : Int
  down : Bool
  fs : List (List UInt8 × FlP)
def useP (fs : List (List UInt8 × FlP)) : Nat := (fs.map fun p => p.2.W.length).sum
def waitsP (fs : List (List UInt8 × FlP)) : Nat := (fs.map fun p => p.2.W.countP id).sum
structure FsP.WF (S : FsP) : Prop where
  most1 : 1 ≤ S.most
  most2 : S.most ≤ 65536
  fuse1 : -1 ≤ S.fuse
  fuse2 : S.fuse ≤ 9223372036854775807
  files : ∀ p ∈ S.fs, p.2.WF
  order : S.fs.Pairwise fun p q => p.1 < q.1
  room : useP S.fs ≤ S.most
  names : ∀ p ∈ S.fs, p.1.length ≤ 100
def findP (S : FsP) (n : List UInt8) : Option FlP := S.fs.lookup n
def insP (n : List UInt8) (x : FlP) : List (List UInt8 × FlP) → List (List UInt8 × FlP)
  | [] => [(n, x)]
  | (m, y) :: r => if n < m then (n, x) :: (m, y) :: r else (m, y) :: insP n x r
def dropP (n : List UInt8) (l : List (List UInt8 × FlP)) : List (List UInt8 × FlP) := l.filter fun p => p.1 != n
def setP (n : List UInt8) (x : FlP) (l : List (List UInt8 × FlP)) : List (List UInt8 × FlP) := l.map fun p => if p.1 = n then (n, x) else p
def burnP (S : FsP) : Bool := S.fuse != 0
/-- The store, when a call has burnt a bit of the fuse, or has come to its end. -/
def burntP (S : FsP) : FsP := if S.fuse = 0 then { S with down := true } else if 0 < S.fuse then { S with fuse := S.fuse - 1 } else S
def okB (c : UInt8) : Bool := (decide (97 ≤ c) && decide (c ≤ 122)) || (decide (48 ≤ c) && decide (c ≤ 57)) || c == 46 || c == 45 || c == 47
def rightP (n : List UInt8) : Bool := decide (1 ≤ n.length) && decide (n.length ≤ 24) && n.all okB
def newP (sectors : Int) : FsP := ⟨(min (max sectors 1) 65536).toNat, 0, -1, false, []⟩
/-- A file is made; one has other bytes; one another name; one is gone; one lasts. -/
def madeF (S : FsP) (n : List UInt8) : FsP := { burntP S with stamp := S.stamp + 1, fs := insP n ⟨[], [], [], S.stamp + 1⟩ S.fs }
def stampF (S : FsP) (n : List UInt8) (y : FlP) : FsP := { burntP S with stamp := S.stamp + 1, fs := setP n { y with stamp := S.stamp + 1 } S.fs }
def movedF (S : FsP) (n m : List UInt8) (x : FlP) : FsP := { burntP S with stamp := S.stamp + 1, fs := insP m { x with stamp := S.stamp + 1 } (dropP m (dropP n S.fs)) }
def goneF (S : FsP) (n : List UInt8) : FsP := { burntP S with fs := dropP n S.fs }
def keptF (S : FsP) (n : List UInt8) (y : FlP) : FsP := { burntP S with fs := setP n y S.fs }
def createP (S : FsP) (n : List UInt8) : Nat × FsP :=
  if S.down then (9, S) else if !rightP n then (1, S) else if (findP S n).isSome then (7, S) else if !burnP S then (9, burntP S)
  else (0, madeF S n)
def writeP (S : FsP) (n : List UInt8) (p : Int) (b : List UInt8) : Nat × FsP :=
  if S.down then (9, S) else match findP S n with
  | none => (6, S)
  | some x =>
    if p < 0 ∨ (x.B.length : Int) < p then (1, S)
    else if S.most < useP S.fs + (needN (max x.B.length (p.toNat + b.length)) - x.W.length) then (8, S)
    else if b = [] then (0, S)
    else if !burnP S then (9, burntP S)
    else (0, stampF S n (putP (growP x (max x.B.length (p.toNat + b.length))) p.toNat b))
def cutF (S : FsP) (n : List UInt8) (k : Int) : Nat × FsP :=
  if S.down then (9, S) else match findP S n with
  | none => (6, S)
  | some x =>
    if k < 0 ∨ (x.B.length : Int) < k then (1, S)
    else if !burnP S then (9, burntP S)
    else (0, stampF S n (cutP x k.toNat))
def renameP (S : FsP) (n m : List UInt8) : Nat × FsP :=
  if S.down then (9, S) else match findP S n with
  | none => (6, S)
  | some x =>
    if !rightP m || m == n then (1, S)
    else if !burnP S then (9, burntP S)
    else (0, movedF S n m x)
def deleteP (S : FsP) (n : List UInt8) : Nat × FsP :=
  if S.down then (9, S) else match findP S n with
  | none => (6, S)
  | some _ => if !burnP S then (9, burntP S) else (0, goneF S n)
def syncF (S : FsP) (n : List UInt8) : Nat × FsP :=
  if S.down then (9, S) else match findP S n with
  | none => (6, S)
  | some x => if !burnP S then (9, burntP S) else (0, keptF S n (syncP x))
def crashL (keep : UInt64) : Nat → List (List UInt8 × FlP) → List (List UInt8 × FlP)
  | _, [] => []
  | i, (n, x) :: r => (n, (crF keep i x).2) :: crashL keep (crF keep i x).1 r
def crI (keep : UInt64) : Nat → List (List UInt8 × FlP) → Nat
  | i, [] => i
  | i, (_, x) :: r => crI keep (crF keep i x).1 r
theorem crI_app (keep : UInt64) (n : List UInt8) (x : FlP) : ∀ (l : List (List UInt8 × FlP)) (i : Nat), crI keep i (l ++ [(n, x)]) = (crF keep (crI keep i l) x).1
  | [], _ => rfl
  | (_, y) :: r, i => crI_app keep n x r (crF keep i y).1
theorem crashL_app (keep : UInt64) (n : List UInt8) (x : FlP) : ∀ (l : List (List UInt8 × FlP)) (i : Nat), crashL keep i (l ++ [(n, x)]) = crashL keep i l ++ [(n, (crF keep (crI keep i l) x).2)]
  | [], _ => rfl
  | (m, y) :: r, i => congrArg ((m, (crF keep i y).2) :: ·) (crashL_app keep n x r (crF keep i y).1)
theorem crashL_names (keep : UInt64) : ∀ (l : List (List UInt8 × FlP)) (i : Nat), (crashL keep i l).map (·.1) = l.map (·.1)
  | [], _ => rfl
  | (m, y) :: r, i => congrArg (m :: ·) (crashL_names keep r (crF keep i y).1)
theorem crashL_len (keep : UInt64) (l : List (List UInt8 × FlP)) (i : Nat) : (crashL keep i l).length = l.length := by
  have := congrArg List.length (crashL_names keep l i); simpa using this
def crashP (S : FsP) (keep : UInt64) : FsP := { S with fuse := -1, down := false, fs := crashL keep 0 S.fs }
def fuseP (S : FsP) (n : Int) : FsP := { S with fuse := max n (-1) }
/-- What a read gives: its error, its bytes. -/
def readP (S : FsP) (n : List UInt8) (p k : Int) : Nat × List UInt8 :=
  if S.down then (9, []) else match findP S n with
  | none => (6, [])
  | some x => if p < 0 ∨ k < 0 then (1, []) else if (x.B.length : Int) < p ∨ (x.B.length : Int) - p < k then (3, []) else (0, (x.B.drop p.toNat).take k.toNat)
theorem lookup_mem {S : FsP} {n : List UInt8} {x : FlP} (h : findP S n = some x) : (n, x) ∈ S.fs := by
  unfold findP at h
  obtain ⟨l1, l2, e, _⟩ := List.lookup_eq_some_iff.1 h
  rw [e]; simp
theorem lookup_ne {l : List (List UInt8 × FlP)} {n : List UInt8} (h : ∀ p ∈ l, p.1 ≠ n) : l.lookup n = none := by
  induction l with
  | nil => rfl
  | cons p r ih =>
    have h1 : (n == p.1) = false := by simpa using Ne.symm (h p (List.mem_cons_self ..))
    rw [List.lookup_cons, h1]
    exact ih (fun q hq => h q (List.mem_cons_of_mem _ hq))
theorem find_mem {S : FsP} (h : S.WF) {p : List UInt8 × FlP} (hp : p ∈ S.fs) : findP S p.1 = some p.2 := by
  have ho := h.order
  unfold findP
  clear h
  generalize S.fs = l at hp ho
  induction l with
  | nil => cases hp
  | cons q r ih =>
    obtain ⟨h1, h2⟩ := List.pairwise_cons.1 ho
    rw [List.lookup_cons]
    rcases List.mem_cons.1 hp with rfl | hp'
    · simp
    · have hne : (p.1 == q.1) = false := by
        have := h1 p hp'
        simp only [beq_eq_false_iff_ne, ne_eq]
        rintro e
        rw [e] at this
        exact List.lt_irrefl _ this
      rw [hne]
      exact ih hp' h2
theorem use_le {fs : List (List UInt8 × FlP)} {p : List UInt8 × FlP} (h : p ∈ fs) : p.2.W.length ≤ useP fs := by
  induction fs with
  | nil => cases h
  | cons q r ih =>
    unfold useP at ih ⊢
    simp only [List.map_cons, List.sum_cons]
    rcases List.mem_cons.1 h with rfl | h
    · omega
    · have := ih h; omega
end Go.Proofs.YtoadamkmabkldaaGreatDoor
/- What a call may have written: the blocks of a set, and new ones. -/
namespace Go.Proofs.YtoadamkmabkldaaGreatDoor
open Go.RowKit

/-- Only blocks of S, and new ones, have turned. -/
structure Ch (S : Nat → Prop) (w w' : World) : Prop where
  os : w'.os = w.os
  tape : w'.tape = w.tape
  output : w'.output = w.output
  size : w.heap.size ≤ w'.heap.size
  block : ∀ k, k < w.heap.size → ¬ S k → w'.heap[k]? = w.heap[k]?
section
variable {S S' : Nat → Prop} {w w1 w2 : World}
theorem Ch.refl (S : Nat → Prop) (w : World) : Ch S w w := ⟨rfl, rfl, rfl, Nat.le_refl _, fun _ _ _ => rfl⟩
theorem Ch.trans (h : Ch S w w1) (k : Ch S' w1 w2) (hs : ∀ i, S' i → S i ∨ w.heap.size ≤ i) : Ch S w w2 :=
  ⟨k.os.trans h.os, k.tape.trans h.tape, k.output.trans h.output, Nat.le_trans h.size k.size, fun i hi hn => (k.block i (Nat.lt_of_lt_of_le hi h.size) (fun e => by
    rcases hs i e with h1 | h1
    · exact hn h1
    · omega)).trans (h.block i hi hn)⟩
theorem Ch.mono (h : Ch S w w1) (hs : ∀ i, S i → S' i) : Ch S' w w1 := ⟨h.os, h.tape, h.output, h.size, fun i hi hn => h.block i hi (fun e => hn (hs i e))⟩
theorem Ch.alloc (h : Ch S w w1) (o : Obj) : Ch S w (w1.alloc o) :=
  ⟨h.os, h.tape, h.output, Nat.le_trans h.size (by simp), fun i hi hn => (Below.heap_alloc w1 o i (Nat.lt_of_lt_of_le hi h.size)).trans (h.block i hi hn)⟩
theorem Ch.set (h : Ch S w w1) {p : Addr} (hp : S p.block ∨ w.heap.size ≤ p.block) (u : Value) : Ch S w (w1.setCell p u) :=
  ⟨h.os, h.tape, h.output, by simpa [World.setCell] using h.size, fun i hi hn => (Below.heap_setCell w1 p u i (fun e => by
    rcases hp with hp | hp
    · exact hn (e ▸ hp)
    · omega)).trans (h.block i hi hn)⟩
theorem Ch.drewN (h : Ch S w w1) (n : Nat) : Ch S w (w1.drewN n) := ⟨h.os, h.tape, h.output, h.size, h.block⟩
theorem Ch.drew (h : Ch S w w1) : Ch S w w1.drew := ⟨h.os, h.tape, h.output, h.size, h.block⟩
theorem Ch.grown (h : Ch S w w1) {row : Option Nat} (k : w1.grownBy w2 row) (hs : ∀ i, row = some i → S i ∨ w.heap.size ≤ i) : Ch S w w2 :=
  ⟨k.os.trans h.os, k.tape.trans h.tape, k.output.trans h.output, Nat.le_trans h.size k.size, fun i hi hn => (k.block i (Nat.lt_of_lt_of_le hi h.size) (fun e => by
    rcases hs i e.symm with h1 | h1
    · exact hn h1
    · omega)).trans (h.block i hi hn)⟩
theorem Ch.of_below {B : Nat} (h : Below B w w1) (hB : w.heap.size ≤ B) : Ch S w w1 := ⟨h.os, h.tape, h.output, h.size, fun i hi _ => h.block i (by omega)⟩
theorem Ch.below {B : Nat} (h : Ch S w w1) (hB : B ≤ w.heap.size) (hs : ∀ i, S i → B ≤ i) : Below B w w1 :=
  ⟨h.os, h.tape, h.output, h.size, fun i hi => h.block i (by omega) (fun e => by have := hs i e; omega)⟩
theorem Bk.ch {g : Nat} {t : TypeId} {cs : Array Value} (h : Bk w g t cs) (k : Ch S w w1) (hg : ¬ S g) : Bk w1 g t cs := (k.block g h.lt hg).trans h
theorem own_ch {base s n : Nat} {e : TypeId} {v : Value} {xs : List Value} (h : w.ownsRow base e s v n xs) (k : Ch S w w1) (hv : ∀ i, v.ownBlock = some i → ¬ S i) : w1.ownsRow base e s v n xs := by
  refine ⟨h.1, ?_⟩
  rcases h.2 with h2 | ⟨g, cap, cur, rfl, hg, hh, r⟩
  · exact .inl h2
  · exact .inr ⟨g, cap, cur, rfl, hg, by rw [k.block g (Array.getElem?_eq_some_iff.1 hh).1 (hv g rfl)]; exact hh, r⟩
theorem Rd.ch {B s n : Nat} {A : Option Addr} {xs : List Value} (h : Rd w B s A n xs) (k : Ch S w w1) (hB : B ≤ w.heap.size) (hs : ∀ i, S i → B ≤ i) : Rd w1 B s A n xs :=
  h.keep fun p hp => World.cell?_of_block (k.block p.block (by omega) (fun e => by have := hs _ e; omega))
end
end Go.Proofs.YtoadamkmabkldaaGreatDoor
/- append and cuts of bytes, at this program's types. -/
namespace Go.Proofs.YtoadamkmabkldaaGreatDoor
open Go.RowKit

theorem infoB : (Tryz.prog.info? 5).map (fun i => (i.zero, i.size, i.bytes)) = some (some (.int .u8 0), 1, 1) := by kernel_rfl

/-- append of bytes, at this program. -/
theorem ap_bys {w w0 : World} {ops : Array Oper} {rest : List Oper} {a : Act} {Q : Exit → Act → World → Prop} {d : Option Tmp} {ty : TypeId} {pos : String} {af : Array Edge} {g : Option (Nat × Bool)} {s x : Operand} {base : Nat}
    {v : Value} {n : Nat} {xs : List UInt8} (hown : w.ownsRow base 5 1 v n (bys xs))
    {B : Nat} {A : Option Addr} {m c : Nat} {news : List UInt8} (hr : Rd w B 1 A m (bys news))
    (hb : Below base w0 w) (hbase : base ≤ w.heap.size) (hbytes : n + m ≤ 140737488355328)
    (hs : a.eval s = v) (hx : a.eval x = .slice A m c)
    (hw : Region.wanted { dst := d, op := .call { callee := .builtin .append, args := #[s, x], argTypes := #[22, 22] }, type := ty, pos := pos, after := af, guard := g } (yielded ops a.tmps) = true)
    (h : ∀ v' w', w'.ownsRow base 5 1 v' (n + m) (bys (xs ++ news)) → Below base w0 w' → w.grownBy w' v.ownBlock → (v'.ownBlock = v.ownBlock ∨ v'.ownBlock = some w.heap.size) → wpList Tryz.prog ops Q rest (a.put d v') w') :
    wpList Tryz.prog ops Q ({ dst := d, op := .call { callee := .builtin .append, args := #[s, x], argTypes := #[22, 22] }, type := ty, pos := pos, after := af, guard := g } :: rest) a w := by
  obtain ⟨i0, hi, hz0, hz1, hz2⟩ := info_parts infoB
  exact ap_any Tryz.underlying22 hi hz0 hz1 hz2 rfl (by decide) hown hr (bys_one _) hb hbase (by omega) hs hx hw (fun v' w' h1 h2 h3 h4 => h v' w' (by rw [bys_app]; exact h1) h2 h3 h4)
/-- b[l:h] of bytes, at this program. -/
theorem cut_bys {w : World} {ops : Array Oper} {rest : List Oper} {a : Act} {Q : Exit → Act → World → Prop} {d : Option Tmp} {ty : TypeId} {pos : String} {af : Array Edge} {g : Option (Nat × Bool)} {s lo hi : Operand}
    {A : Option Addr} {n c B : Nat} {xs : List UInt8} (hr : Rd w B 1 A n (bys xs)) (hnc : n ≤ c) {kl kh : IntKind} {xl xh : Int} (l m : Nat) (hc : l + m ≤ n)
    (hs : a.eval s = .slice A n c) (hl : a.eval lo = .int kl xl) (hh : a.eval hi = .int kh xh) (el : xl = l) (eh : xh = (l + m : Nat))
    (hw : Region.wanted { dst := d, op := .slice 22 s (some lo) (some hi) none, type := ty, pos := pos, after := af, guard := g } (yielded ops a.tmps) = true)
    (h : ∀ A' c', Rd w B 1 A' m (bys ((xs.drop l).take m)) → m ≤ c' → c' ≤ c → wpList Tryz.prog ops Q rest (a.put d (.slice A' m c')) w) :
    wpList Tryz.prog ops Q ({ dst := d, op := .slice 22 s (some lo) (some hi) none, type := ty, pos := pos, after := af, guard := g } :: rest) a w := by
  obtain ⟨i0, hi, hz0, hz1, hz2⟩ := info_parts infoB
  exact slice_lh Tryz.underlying22 hi hz1 l m (by omega) hs hl hh el eh hw (fun A' c' h1 h2 h3 => h A' c' (hr.bcut hc (fun hm => by simpa using h1 hm)) h2 h3)

end Go.Proofs.YtoadamkmabkldaaGreatDoor
/- The builtin copy of bytes into a block that is known whole. -/
namespace Go.Proofs.YtoadamkmabkldaaGreatDoor
open Go.RowKit

theorem infoSzB : (Tryz.prog.info? 5).map (·.size) = some 1 := by kernel_rfl
/-- l laid over L from a place on. -/
def lay (L : List UInt8) (off : Nat) (l : List UInt8) : List UInt8 := L.take off ++ (l ++ L.drop (off + l.length))
theorem lay_len (L : List UInt8) (off : Nat) (l : List UInt8) (h : off + l.length ≤ L.length) : (lay L off l).length = L.length := by
  simp [lay]; omega
theorem splice_bys (L : List UInt8) (off : Nat) (l : List UInt8) : splice (bys L) off (bys l) = bys (lay L off l) := by
  simp [splice, lay, bys, List.map_take, List.map_drop]
/-- copy of bytes. -/
theorem copy_bys {w w0 : World} {ops : Array Oper} {rest : List Oper} {a : Act} {Q : Exit → Act → World → Prop} {d : Option Tmp} {ty : TypeId} {pos : String} {af : Array Edge} {s x : Operand}
    {B B' n c g off dl dc : Nat} {A : Option Addr} {t : TypeId} {L l : List UInt8} (hg : Bk w g t (bys L).toArray) (hr : Rd w B' 1 A n (bys l)) (k : Nat) (hk : k = Nat.min n dl) (hfit : off + k ≤ L.length)
    (hs : a.eval s = .slice (some ⟨g, off, none⟩) dl dc) (hx : a.eval x = .slice A n c) (hb : Below B w0 w) (hBg : B ≤ g)
    (h : ∀ w', Bk w' g t (bys (lay L off (l.take k))).toArray → Below B w0 w' → wpList Tryz.prog ops Q rest (a.put d (.int .i64 (k : Int))) w') :
    wpList Tryz.prog ops Q ({ dst := d, op := .call { callee := .builtin .copy, args := #[s, x], argTypes := #[22, 22] }, type := ty, pos := pos, after := af, guard := none } :: rest) a w := by
  have hl := hr.blen
  have hkn : k ≤ n := by rw [hk]; exact Nat.min_le_left _ _
  have hlen : (bys (l.take k)).length = k := by rw [bys_len, List.length_take]; omega
  refine wpList_copy_splice rfl s x _ _ rfl 5 Tryz.underlying22 infoSzB _ _ _ _ _ _ hs hx g off (bys L) t hg (bys (l.take k)) (by rw [hlen, hk]) ?_ (by rw [hlen, bys_len]; exact hfit) (bys_one _) B w0 hb hBg ?_
  · intro hp
    rw [hlen] at hp
    obtain ⟨b, o, rfl, _, hc⟩ := hr.2 (by omega)
    refine ⟨rfl, _, rfl, fun j v hj => ?_⟩
    rw [addLit]
    rw [← bys_take, List.getElem?_take] at hj
    split at hj
    · exact hc j v hj
    · cases hj
  · intro w' hw' hb'
    rw [hlen]
    rw [splice_bys] at hw'
    exact h w' hw' hb'
/-- Likewise, at a step of a region that draws its order. -/
theorem copy_step {w w0 : World} {ops : Array Oper} {a : Act} {K : Act → World → Prop} {Q : Exit → Act → World → Prop} {E : Prop} {d : Option Tmp} {ty : TypeId} {pos : String} {af : Array Edge} {s x : Operand}
    {B B' n c g off dl dc : Nat} {A : Option Addr} {t : TypeId} {L l : List UInt8} (hg : Bk w g t (bys L).toArray) (hr : Rd w B' 1 A n (bys l)) (k : Nat) (hk : k = Nat.min n dl) (hfit : off + k ≤ L.length)
    (hs : a.eval s = .slice (some ⟨g, off, none⟩) dl dc) (hx : a.eval x = .slice A n c) (hb : Below B w0 w) (hBg : B ≤ g)
    (h : ∀ w', Bk w' g t (bys (lay L off (l.take k))).toArray → Below B w0 w' → K (a.put d (.int .i64 (k : Int))) w') :
    if Region.wanted { dst := d, op := .call { callee := .builtin .copy, args := #[s, x], argTypes := #[22, 22] }, type := ty, pos := pos, after := af, guard := none } (yielded ops a.tmps) = true then
      Oper.wp Tryz.prog { dst := d, op := .call { callee := .builtin .copy, args := #[s, x], argTypes := #[22, 22] }, type := ty, pos := pos, after := af, guard := none } a w K Q else E := by
  have hl := hr.blen
  have hkn : k ≤ n := by rw [hk]; exact Nat.min_le_left _ _
  have hlen : (bys (l.take k)).length = k := by rw [bys_len, List.length_take]; omega
  refine step_copy_splice rfl s x _ _ rfl 5 Tryz.underlying22 infoSzB _ _ _ _ _ _ hs hx g off (bys L) t hg (bys (l.take k)) (by rw [hlen, hk]) ?_ (by rw [hlen, bys_len]; exact hfit) (bys_one _) B w0 hb hBg ?_
  · intro hp
    rw [hlen] at hp
    obtain ⟨b, o, rfl, _, hc⟩ := hr.2 (by omega)
    refine ⟨rfl, _, rfl, fun j v hj => ?_⟩
    rw [addLit]
    rw [← bys_take, List.getElem?_take] at hj
    split at hj
    · exact hc j v hj
    · cases hj
  · intro w' hw' hb'
    rw [hlen]
    rw [splice_bys] at hw'
    exact h w' hw' hb'
/-- append of bytes, at a step of a region that draws its order. -/
theorem ap_step {w w0 : World} {ops : Array Oper} {a : Act} {K : Act → World → Prop} {Q : Exit → Act → World → Prop} {E : Prop} {d : Option Tmp} {ty : TypeId} {pos : String} {af : Array Edge} {s x : Operand} {base : Nat}
    {v : Value} {n : Nat} {xs : List UInt8} {B : Nat} {A : Option Addr} {m c : Nat} {news : List UInt8} (hown : w.ownsRow base 5 1 v n (bys xs)) (hr : Rd w B 1 A m (bys news))
    (hb : Below base w0 w) (hbase : base ≤ w.heap.size) (hbytes : n + m ≤ 140737488355328)
    (hs : a.eval s = v) (hx : a.eval x = .slice A m c)
    (h : ∀ v' w', w'.ownsRow base 5 1 v' (n + m) (bys (xs ++ news)) → Below base w0 w' → w.grownBy w' v.ownBlock → (v'.ownBlock = v.ownBlock ∨ v'.ownBlock = some w.heap.size) → K (a.put d v') w') :
    if Region.wanted { dst := d, op := .call { callee := .builtin .append, args := #[s, x], argTypes := #[22, 22] }, type := ty, pos := pos, after := af, guard := none } (yielded ops a.tmps) = true then
      Oper.wp Tryz.prog { dst := d, op := .call { callee := .builtin .append, args := #[s, x], argTypes := #[22, 22] }, type := ty, pos := pos, after := af, guard := none } a w K Q else E := by
  obtain ⟨i0, hi, hz0, hz1, hz2⟩ := info_parts infoB
  rw [if_pos (by simp [Region.wanted])]
  obtain ⟨v', w', hrun, h2, h3, h4⟩ := run_append_rd (P := Tryz.prog) w base 22 ty 5 i0 (.int .u8 0) 1 1 Tryz.underlying22 hi hz0 hz1 hz2 rfl (by decide) v n (bys xs) hown B A m c (bys news) hr (bys_one _) (by unfold maxLen; omega) (by omega) hbase
  unfold Oper.wp execOp
  simp only [resolve, invoke, builtin, Sem.run_bind, Sem.run_pure, Result.andThen_ok, List.map_toArray, List.map_cons, List.map_nil, hs, hx, hrun]
  exact h v' w' (by rw [bys_app]; exact h2) (hb.grown h3 hbase (fun k hk => (hown.lt k hk).1)) h3 h4
end Go.Proofs.YtoadamkmabkldaaGreatDoor
/- Files in memory: sectors, files, the map of files, a store. -/
namespace Go.Proofs.YtoadamkmabkldaaGreatDoor
open Go.RowKit
open Go.Maps (Keyed)

/-! ### cells stored side by side -/
def putA (cs : Array Value) : Nat → List Value → Array Value
  | _, [] => cs
  | o, v :: r => putA (cs.setIfInBounds o v) (o + 1) r
theorem putA_size : ∀ (vs : List Value) (cs : Array Value) (o : Nat), (putA cs o vs).size = cs.size
  | [], _, _ => rfl
  | v :: r, cs, o => by rw [putA, putA_size r]; simp
theorem putA_get : ∀ (vs : List Value) (cs : Array Value) (o i : Nat), (putA cs o vs)[i]? = if o ≤ i ∧ i < o + vs.length ∧ i < cs.size then vs[i - o]? else cs[i]?
  | [], cs, o, i => by rw [if_neg (by simp; omega)]; rfl
  | v :: r, cs, o, i => by
    rw [putA, putA_get r, Array.size_setIfInBounds]
    simp only [List.length_cons]
    by_cases h : i = o
    · subst h
      rw [if_neg (by omega)]
      by_cases h2 : i < cs.size
      · rw [if_pos (by omega)]; simp [h2]
      · rw [if_neg (by omega)]; simp [h2]
    · by_cases h3 : o + 1 ≤ i ∧ i < o + 1 + r.length ∧ i < cs.size
      · rw [if_pos h3, if_pos (by omega), show i - o = i - (o + 1) + 1 by omega, List.getElem?_cons_succ]
      · rw [if_neg h3, if_neg (by omega), Array.getElem?_setIfInBounds_ne (by omega)]
theorem putA_in {vs : List Value} {cs : Array Value} {o i : Nat} (h1 : o ≤ i) (h2 : i < o + vs.length) (h3 : o + vs.length ≤ cs.size) : (putA cs o vs)[i]? = vs[i - o]? := by rw [putA_get, if_pos (by omega)]
theorem putA_out {vs : List Value} {cs : Array Value} {o i : Nat} (h : i < o ∨ o + vs.length ≤ i) : (putA cs o vs)[i]? = cs[i]? := by rw [putA_get, if_neg (by omega)]
section
variable {W W' : World} {g : Nat} {t : TypeId} {cs : Array Value}
theorem Bk.cells : ∀ {W : World} {cs : Array Value} (_ : Bk W g t cs) (vs : List Value) (o : Nat), Bk (W.setCells g o vs) g t (putA cs o vs)
  | _, _, h, [], _ => h
  | _, _, h, v :: r, o => (h.set o v).cells r (o + 1)
/-- Blocks of cells of unlike types are not one. -/
theorem Bk.ne {g g' : Nat} {t t' : TypeId} {cs cs' : Array Value} (h : Bk W g t cs) (h' : Bk W g' t' cs') (hne : t ≠ t') : g ≠ g' := by
  rintro rfl
  unfold Bk at h h'
  rw [h] at h'
  injection h' with h'
  injection h' with _ ht
  exact hne ht
theorem Bk.isSome (h : Bk W g t cs) {i : Nat} (hi : i < cs.size) : (W.cell? ⟨g, i, none⟩).isSome = true := by rw [h.cell]; simp [hi]
theorem Bk.there (h : Bk W g t cs) {o n : Nat} (hn : o + n ≤ cs.size) : W.there g o n := fun j hj => ⟨h.isSome (by omega), h.free _⟩
theorem Bk.range (h : Bk W g t cs) {o : Nat} {vs : List Value} (hv : ∀ j, j < vs.length → cs[o + j]? = vs[j]?) : W.rangeAt g o vs := fun j v hj => by
  rw [h.cell, hv j (List.getElem?_eq_some_iff.1 hj).1, hj]
theorem heap_setCells (b : Nat) : ∀ (vs : List Value) (o : Nat) (W : World) (k : Nat), k ≠ b → (W.setCells b o vs).heap[k]? = W.heap[k]?
  | [], _, _, _, _ => rfl
  | v :: r, o, W, k, h => (heap_setCells b r (o + 1) _ k h).trans (Below.heap_setCell W _ v k h)
theorem size_setCells (b : Nat) : ∀ (vs : List Value) (o : Nat) (W : World), (W.setCells b o vs).heap.size = W.heap.size
  | [], _, _ => rfl
  | v :: r, o, W => (size_setCells b r (o + 1) _).trans (by simp [World.setCell])
theorem Ch.cells {S : Nat → Prop} {w : World} : ∀ {w1 : World} (_ : Ch S w w1) {b : Nat} (_ : S b ∨ w.heap.size ≤ b) (vs : List Value) (o : Nat), Ch S w (w1.setCells b o vs)
  | _, h, _, _, [], _ => h
  | _, h, _, hb, v :: r, o => (h.set (p := ⟨_, o, none⟩) hb v).cells hb r (o + 1)
end

/-! ### sectors -/
/-- So many sectors, each of 129 cells, in block g. -/
def SlQ (W : World) (sv : Value) (g L : Nat) (f : Nat → Nat → Value) : Prop :=
  ∃ A c, sv = .slice A L c ∧ L ≤ c ∧ c ≤ maxLen ∧ ((L = 0 ∧ c = 0) ∨ (0 < L ∧ A = some ⟨g, 0, none⟩ ∧ ∃ cs, Bk W g 92 cs ∧ c * 129 ≤ cs.size ∧ ∀ k, k < L → ∀ r, r < 129 → cs[k * 129 + r]? = some (f k r)))
def cellK (x : FlP) (k r : Nat) : Value :=
  if r < 64 then .int .u8 ((byP x.B (64 * k + r)).toNat : Int) else if r < 128 then .int .u8 ((byP x.O (64 * k + (r - 64))).toNat : Int) else .bool (x.W[k]?.getD false)
theorem SlQ.heap {W W' : World} {sv : Value} {g L : Nat} {f : Nat → Nat → Value} (h : SlQ W sv g L f) (hk : 0 < L → W'.heap[g]? = W.heap[g]?) : SlQ W' sv g L f := by
  obtain ⟨A, c, rfl, h1, h2, h3⟩ := h
  refine ⟨A, c, rfl, h1, h2, ?_⟩
  rcases h3 with h3 | ⟨h0, rfl, cs, hb, r⟩
  · exact .inl h3
  · exact .inr ⟨h0, rfl, cs, (hk h0).trans hb, r⟩
theorem SlQ.congr {W : World} {sv : Value} {g L L' : Nat} {f f' : Nat → Nat → Value} (h : SlQ W sv g L f) (hL : L = L') (hf : ∀ k, k < L → ∀ r, r < 129 → f k r = f' k r) : SlQ W sv g L' f' := by
  subst hL
  obtain ⟨A, c, rfl, h1, h2, h3⟩ := h
  refine ⟨A, c, rfl, h1, h2, ?_⟩
  rcases h3 with h3 | ⟨h0, rfl, cs, hb, h4, h5⟩
  · exact .inl h3
  · exact .inr ⟨h0, rfl, cs, hb, h4, fun k hk r hr => by rw [h5 k hk r hr, hf k hk r hr]⟩
theorem SlQ.nil (W : World) (g : Nat) (f : Nat → Nat → Value) : SlQ W (.slice none 0 0) g 0 f := ⟨none, 0, rfl, Nat.le_refl _, Nat.zero_le _, .inl ⟨rfl, rfl⟩⟩
theorem SlQ.pos {W : World} {sv : Value} {g L : Nat} {f : Nat → Nat → Value} (h : SlQ W sv g L f) (hL : 0 < L) : ∃ c cs, sv = .slice (some ⟨g, 0, none⟩) L c ∧ L ≤ c ∧ c ≤ maxLen ∧ Bk W g 92 cs ∧ c * 129 ≤ cs.size ∧ ∀ k, k < L → ∀ r, r < 129 → cs[k * 129 + r]? = some (f k r) := by
  obtain ⟨A, c, rfl, h1, h2, h3⟩ := h
  rcases h3 with ⟨h3, _⟩ | ⟨_, rfl, cs, hb, h4, h5⟩
  · omega
  · exact ⟨c, cs, rfl, h1, h2, hb, h4, h5⟩
theorem SlQ.lt {W : World} {sv : Value} {g L : Nat} {f : Nat → Nat → Value} (h : SlQ W sv g L f) (hL : 0 < L) : g < W.heap.size := by
  obtain ⟨c, cs, _, _, _, hb, _⟩ := h.pos hL
  exact hb.lt
theorem SlQ.form {W : World} {sv : Value} {g L : Nat} {f : Nat → Nat → Value} (h : SlQ W sv g L f) : ∃ A c, sv = .slice A L c ∧ L ≤ c ∧ c ≤ maxLen := by
  obtain ⟨A, c, h1, h2, h3, _⟩ := h
  exact ⟨A, c, h1, h2, h3⟩
theorem SlQ.lit {W : World} {sv : Value} {g L : Nat} {f : Nat → Nat → Value} (h : SlQ W sv g L f) (n : Nat) (o : Obj) : SlQ ((W.drewN n).alloc o) sv g L f := h.heap (fun h0 => Below.heap_alloc (W.drewN n) o g (h.lt h0))
theorem SlQ.ne {W : World} {sv : Value} {g L b : Nat} {t : TypeId} {cs : Array Value} {f : Nat → Nat → Value} (h : SlQ W sv g L f) (h0 : 0 < L) (hb : Bk W b t cs) (ht : 92 ≠ t) : g ≠ b := by
  obtain ⟨c, cs', _, _, _, hcs, _⟩ := h.pos h0
  exact Bk.ne hcs hb ht
/-- A file: its block, and its sectors. -/
structure FlM (W : World) (b g : Nat) (sv : Value) (x : FlP) : Prop where
  hd : Bk W b 87 #[sv, .int .i64 (x.B.length : Int), .int .i64 (x.stamp : Int)]
  sl : SlQ W sv g x.W.length (cellK x)
theorem FlM.heap {W W' : World} {b g : Nat} {sv : Value} {x : FlP} (h : FlM W b g sv x) (h1 : W'.heap[b]? = W.heap[b]?) (h2 : 0 < x.W.length → W'.heap[g]? = W.heap[g]?) : FlM W' b g sv x :=
  ⟨h1.trans h.hd, h.sl.heap h2⟩
theorem FlM.ne {W : World} {b g : Nat} {sv : Value} {x : FlP} (h : FlM W b g sv x) (h0 : 0 < x.W.length) : g ≠ b := by
  obtain ⟨c, cs, _, _, _, hcs, _⟩ := h.sl.pos h0
  exact Bk.ne hcs h.hd (by decide)

/-! ### the map of files -/
theorem lawS : Keyed Tryz.prog 9 := Maps.string_keyed Tryz.underlying9
/-- How a pointer to a file reads: by its block. -/
def fileR (v : Value) : Option (DataW Unit × List MemPlace) :=
  match v with
  | .pointer none => some (.lit (.int .i64 (-1)), [])
  | .pointer (some ⟨b, 0, none⟩) => some (.lit (.int .i64 (b : Int)), [])
  | _ => none
theorem fileR_some (b : Nat) : fileR (.pointer (some ⟨b, 0, none⟩)) = some (.lit (.int .i64 (b : Int)), []) := rfl
theorem fileR_inv {v : Value} {d : DataW Unit} {ps : List MemPlace} (h : fileR v = some (d, ps)) : (v = .pointer none ∧ d = .lit (.int .i64 (-1))) ∨ ∃ b : Nat, v = .pointer (some ⟨b, 0, none⟩) ∧ d = .lit (.int .i64 (b : Int)) := by
  unfold fileR at h
  split at h
  · left; simp at h; exact ⟨rfl, h.1.symm⟩
  · right; simp at h; exact ⟨_, rfl, h.1.symm⟩
  · cases h
theorem fileR_at {v : Value} {b : Nat} {ps : List MemPlace} (h : fileR v = some (.lit (.int .i64 (b : Int)), ps)) : v = .pointer (some ⟨b, 0, none⟩) := by
  rcases fileR_inv h with ⟨rfl, e⟩ | ⟨c, rfl, e⟩
  · injection e with e; injection e with _ e; omega
  · injection e with e; injection e with _ e
    rw [show b = c by omega]
theorem fileR_nil {v : Value} {ps : List MemPlace} (h : fileR v = some (.lit (.int .i64 (-1)), ps)) : v = .pointer none := by
  rcases fileR_inv h with ⟨rfl, e⟩ | ⟨c, rfl, e⟩
  · rfl
  · injection e with e; injection e with _ e; omega
def MapS (W : World) (m n : Nat) (f : List UInt8 → Option Nat) : Prop :=
  ∃ D : DataW Unit, W.ownsMap Tryz.prog 9 fileR m n D ∧ (∀ s, Maps.has D (.string s) = (f s).isSome) ∧ ∀ s v, f s = some v → ∀ z, D.atKey (.string s) z = .lit (.int .i64 (v : Int))
theorem zeroF (w : World) : (zeroValue 88).run Tryz.prog w = .ok (.pointer none) w := by kernel_rfl
theorem wfS {s : ByteArray} (h : s.size ≤ maxLen) : keyOf Tryz.prog 9 (.string s) = some (.string s.data.toList) := Go.WideMaps.keyOf_string_mk Tryz.underlying9 h
section
variable {w w' : World} {m n : Nat} {f g : List UInt8 → Option Nat}
theorem MapS.new (w : World) : MapS (w.alloc (.map #[] 0)) w.heap.size 0 (fun _ => none) := ⟨.map [], World.ownsMap_made _ _ _ _, fun _ => rfl, fun s v h => by cases h⟩
theorem MapS.mono (h : MapS w m n f) {n' : Nat} (hn : n ≤ n') : MapS w m n' f := by obtain ⟨D, h1, h2⟩ := h; exact ⟨D, h1.mono hn, h2⟩
theorem MapS.lt (h : MapS w m n f) : m < w.heap.size := by obtain ⟨D, h1, _⟩ := h; exact h1.lt
theorem MapS.heap (h : MapS w m n f) (hw : w'.heap[m]? = w.heap[m]?) : MapS w' m n f := by
  obtain ⟨D, ⟨es, cl, hb, r⟩, h2⟩ := h; exact ⟨D, ⟨es, cl, hw.trans hb, r⟩, h2⟩
theorem MapS.congr (h : MapS w m n f) (e : ∀ s, g s = f s) : MapS w m n g := by
  have : g = f := funext e
  rw [this]; exact h
theorem MapS.ne {b : Nat} {cs : Array Value} {t : TypeId} (h : MapS w m n f) (hg : Bk w b t cs) : m ≠ b := by
  obtain ⟨D, ⟨es, cl, hb, _⟩, _⟩ := h
  rintro rfl
  unfold Bk at hg
  rw [hb] at hg; cases hg
/-- m[s] -/
theorem MapS.look (h : MapS w m n f) {s : ByteArray} (hs : s.size ≤ maxLen) :
    (Instr.lookup 59 (.map (some m)) (.string s) false).run Tryz.prog w = .ok (.pointer ((f s.data.toList).map fun b => ⟨b, 0, none⟩)) w := by
  obtain ⟨D, h1, h2, h3⟩ := h
  obtain ⟨v, ps, hrun, hv⟩ := h1.lookup lawS Tryz.underlying59 (zeroF w) (zd := .lit (.int .i64 (-1))) (zp := []) rfl (wfS hs)
  rw [hrun]
  cases hf : f s.data.toList with
  | none =>
    have h4 := h2 s.data.toList
    rw [hf] at h4
    rw [Maps.atKey_of_not_has h4] at hv
    rw [fileR_nil hv]; rfl
  | some b =>
    rw [h3 _ _ hf] at hv
    rw [fileR_at hv]; rfl
/-- m[s] = x -/
theorem MapS.put (h : MapS w m n f) {s : ByteArray} (hs : s.size ≤ maxLen) (hn : n ≤ 1000000) (b : Nat) :
    ∃ w', (Instr.mapUpdate 59 (.map (some m)) (.string s) (.pointer (some ⟨b, 0, none⟩))).run Tryz.prog w = .ok () w' ∧ MapS w' m (n + 1) (fun x => if x = s.data.toList then some b else f x) ∧ w.grownBy w' (some m) := by
  obtain ⟨D, h1, h2, h3⟩ := h
  obtain ⟨w', hrun, h4, h5⟩ := h1.update lawS Tryz.underlying59 (Nat.lt_of_le_of_lt hn (by unfold maxLen; decide)) (wfS hs) (fileR_some b)
  have hlit := lawS.key (wfS hs)
  have hM : Maps.IsMap D := h1.isMap
  have hne : ∀ x : List UInt8, x ≠ s.data.toList → (Lit.string x) ≠ .string s.data.toList := fun x hx e => hx (by injection e)
  refine ⟨w', hrun, ⟨_, h4, fun x => ?_, fun x v hv z => ?_⟩, h5⟩
  · dsimp only
    by_cases hx : x = s.data.toList
    · rw [if_pos hx, hx]; exact Maps.has_put_same hM hlit _
    · rw [if_neg hx, Maps.has_put_other (hne x hx)]; exact h2 x
  · dsimp only at hv
    by_cases hx : x = s.data.toList
    · rw [if_pos hx] at hv; rw [← Option.some.inj hv, hx]; exact Maps.atKey_put_same hM hlit _ _
    · rw [if_neg hx] at hv; rw [Maps.atKey_put_other (hne x hx)]; exact h3 x v hv z
/-- delete(m, s) -/
theorem MapS.del (h : MapS w m n f) {s : ByteArray} (hs : s.size ≤ maxLen) (ty : TypeId) :
    ∃ w', (Builtin.delete_ #[59, 9] ty #[.map (some m), .string s]).run Tryz.prog w = .ok (.tuple #[]) w' ∧ MapS w' m n (fun x => if x = s.data.toList then none else f x) ∧ w.grownBy w' (some m) := by
  obtain ⟨D, h1, h2, h3⟩ := h
  obtain ⟨w', hrun, h4, h5⟩ := h1.drop lawS Tryz.underlying59 (wfS hs) ty
  have hne : ∀ x : List UInt8, x ≠ s.data.toList → (Lit.string x) ≠ .string s.data.toList := fun x hx e => hx (by injection e)
  refine ⟨w', hrun, ⟨_, h4, fun x => ?_, fun x v hv z => ?_⟩, h5.grown⟩
  · dsimp only
    by_cases hx : x = s.data.toList
    · rw [if_pos hx, hx]; exact Maps.has_del_same
    · rw [if_neg hx, Maps.has_del_other (hne x hx)]; exact h2 x
  · dsimp only at hv
    by_cases hx : x = s.data.toList
    · rw [if_pos hx] at hv; cases hv
    · rw [if_neg hx] at hv; rw [Maps.atKey_del_other (hne x hx)]; exact h3 x v hv z
end

/-! ### the store -/
structure FsM (W : World) (f m : Nat) (bl gl : List UInt8 → Nat) (sv : List UInt8 → Value) (S : FsP) : Prop where
  hd : Bk W f 61 #[.int .i64 (S.most : Int), .int .i64 (S.stamp : Int), .int .i64 S.fuse, .bool S.down, .map (some m)]
  mp : MapS W m S.stamp (fun n => (findP S n).map fun _ => bl n)
  fl : ∀ n x, findP S n = some x → FlM W (bl n) (gl n) (sv n) x
  bi : ∀ n x n' x', findP S n = some x → findP S n' = some x' → bl n = bl n' → n = n'
  si : ∀ n x n' x', findP S n = some x → findP S n' = some x' → 0 < x.W.length → 0 < x'.W.length → gl n = gl n' → n = n'
  wf : S.WF
/-- The blocks of a store. -/
def FsO (f m : Nat) (bl gl : List UInt8 → Nat) (S : FsP) (i : Nat) : Prop :=
  i = f ∨ i = m ∨ ∃ n x, findP S n = some x ∧ (i = bl n ∨ (0 < x.W.length ∧ i = gl n))
/-- A store, its blocks among those of O. -/
def FsA (W : World) (O : Nat → Prop) (f : Nat) (S : FsP) : Prop := ∃ m bl gl sv, FsM W f m bl gl sv S ∧ ∀ i, FsO f m bl gl S i → O i
section
variable {W W' : World} {f m : Nat} {bl gl : List UInt8 → Nat} {sv : List UInt8 → Value} {S : FsP} {O O' : Nat → Prop}
theorem FsM.lt (h : FsM W f m bl gl sv S) : ∀ i, FsO f m bl gl S i → i < W.heap.size := by
  rintro i (rfl | rfl | ⟨n, x, hx, rfl | ⟨hL, rfl⟩⟩)
  · exact h.hd.lt
  · exact h.mp.lt
  · exact (h.fl n x hx).hd.lt
  · exact (h.fl n x hx).sl.lt hL
theorem FsM.heap (h : FsM W f m bl gl sv S) (hk : ∀ i, FsO f m bl gl S i → W'.heap[i]? = W.heap[i]?) : FsM W' f m bl gl sv S :=
  ⟨(hk f (.inl rfl)).trans h.hd, h.mp.heap (hk m (.inr (.inl rfl))), fun n x hx => (h.fl n x hx).heap (hk _ (.inr (.inr ⟨n, x, hx, .inl rfl⟩))) (fun h0 => hk _ (.inr (.inr ⟨n, x, hx, .inr ⟨h0, rfl⟩⟩))), h.bi, h.si, h.wf⟩
theorem FsA.mono (h : FsA W O f S) (hs : ∀ i, O i → i < W.heap.size → O' i) : FsA W O' f S := by
  obtain ⟨m, bl, gl, sv, h1, h2⟩ := h
  exact ⟨m, bl, gl, sv, h1, fun i hi => hs i (h2 i hi) (h1.lt i hi)⟩
/-- Nothing of its own blocks has turned. -/
theorem FsA.heap (h : FsA W O f S) (hk : ∀ i, O i → i < W.heap.size → W'.heap[i]? = W.heap[i]?) : FsA W' O f S := by
  obtain ⟨m, bl, gl, sv, h1, h2⟩ := h
  exact ⟨m, bl, gl, sv, h1.heap (fun i hi => hk i (h2 i hi) (h1.lt i hi)), h2⟩
theorem FsA.below (h : FsA W O f S) (hb : Below W.heap.size W W') : FsA W' O f S := h.heap fun i _ hi => hb.block i hi
theorem FsA.ch {T : Nat → Prop} (h : FsA W O f S) (hc : Ch T W W') (hd : ∀ i, O i → ¬ T i) : FsA W' O f S := h.heap fun i ho hi => hc.block i hi (hd i ho)
theorem FsA.wf (h : FsA W O f S) : S.WF := by obtain ⟨m, bl, gl, sv, h1, _⟩ := h; exact h1.wf
end
end Go.Proofs.YtoadamkmabkldaaGreatDoor
