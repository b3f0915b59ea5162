/- Words for memory that all proofs of this seat use: a slice that reads as a list (nil and empty ones too), a row of the call's own, an append onto it; bytes and ints as cells. -/
import Derived.WalkKit
import Derived.WalkSpells
import Derived.WalkLawsBesides
import Derived.Maps.AppendAt
import Derived.Lib.Hide
import Derived.BigQuiet
import Derived.Deep.QuietTactic
import Derived.ProofKit
import Derived.ShutString
import Derived.ChangeOld
import Derived.OpenShut
import Derived.Lib.SlBytesConst
set_option linter.unusedVariables false
set_option linter.unusedSimpArgs false
namespace Go.Proofs.YtoadamkmabkldaaGreatDoor
open Go.RowKit

theorem addLit (b o j : Nat) : (⟨b, o, none⟩ : Addr).add j = ⟨b, o + j, none⟩ := by
  unfold Addr.add; split <;> simp_all

/-- The slice value '.slice A n _' reads as the cells xs ('s' cells an element), in blocks below B. -/
def Rd (w : World) (B s : Nat) (A : Option Addr) (n : Nat) (xs : List Value) : Prop :=
  xs.length = n * s ∧ (0 < n → ∃ b o, A = some ⟨b, o, none⟩ ∧ b < B ∧ ∀ j u, xs[j]? = some u → w.cell? ⟨b, o + j, none⟩ = some u)

section
variable {w w' : World} {B B' s n : Nat} {A : Option Addr} {xs : List Value}
theorem Rd.nil_ : Rd w B s none 0 [] := ⟨by simp, fun h => absurd h (by omega)⟩
theorem Rd.empty {A : Option Addr} : Rd w B s A 0 [] := ⟨by simp, fun h => absurd h (by omega)⟩
theorem Rd.keep (h : Rd w B s A n xs) (hk : ∀ p : Addr, p.block < B → w'.cell? p = w.cell? p) : Rd w' B s A n xs :=
  ⟨h.1, fun hn => by obtain ⟨b, o, e, hb, hc⟩ := h.2 hn; exact ⟨b, o, e, hb, fun j u hu => (hk _ hb).trans (hc j u hu)⟩⟩
theorem Rd.more (h : Rd w B s A n xs) (hB : B ≤ B') : Rd w B' s A n xs :=
  ⟨h.1, fun hn => by obtain ⟨b, o, e, hb, hc⟩ := h.2 hn; exact ⟨b, o, e, by omega, hc⟩⟩
theorem Rd.below {C : Nat} (h : Rd w B s A n xs) (hb : Below C w w') (hC : B ≤ C) : Rd w' B s A n xs := h.keep fun _ hp => hb.cell (by omega)
theorem Rd.drew (h : Rd w B s A n xs) : Rd w.drew B s A n xs := h
theorem Rd.drewN (h : Rd w B s A n xs) (k : Nat) : Rd (w.drewN k) B s A n xs := h
theorem Rd.alloc (h : Rd w B s A n xs) (hB : B ≤ w.heap.size) (o : Obj) : Rd (w.alloc o) B s A n xs := h.keep fun p hp => World.cell?_alloc_lt w o p (by omega)
theorem Rd.setCell (h : Rd w B s A n xs) {p : Addr} (hB : B ≤ p.block) (u : Value) : Rd (w.setCell p u) B s A n xs :=
  h.keep fun q hq => World.cell?_setCell_other w p q u (fun e => by subst e; omega)
theorem Rd.grown (h : Rd w B s A n xs) {row : Option Nat} (hg : w.grownBy w' row) (hB : B ≤ w.heap.size) (hr : ∀ g, row = some g → B ≤ g) : Rd w' B s A n xs :=
  h.keep fun p hp => World.cell?_of_block (hg.block p.block (by omega) (fun e => by have := hr _ e.symm; omega))
theorem Rd.at_ {k : Nat} (h : Rd w B 1 A n xs) (hk : k < n) : ∃ b o u, A = some ⟨b, o, none⟩ ∧ b < B ∧ xs[k]? = some u ∧ w.cell? ⟨b, o + k, none⟩ = some u := by
  obtain ⟨b, o, e, hb, hc⟩ := h.2 (by omega)
  have hl : k < xs.length := by have := h.1; omega
  exact ⟨b, o, xs[k], e, hb, List.getElem?_eq_getElem hl, hc k _ (List.getElem?_eq_getElem hl)⟩
theorem Rd.cut (h : Rd w B s A n xs) {k m : Nat} (hk : k + m ≤ n) {A' : Option Addr} (hA : 0 < m → A' = A.map (·.add (k * s))) :
    Rd w B s A' m ((xs.drop (k * s)).take (m * s)) := by
  have hks : k * s + m * s ≤ n * s := by rw [← Nat.add_mul]; exact Nat.mul_le_mul_right _ hk
  refine ⟨by rw [List.length_take, List.length_drop, h.1]; omega, fun hm => ?_⟩
  obtain ⟨b, o, rfl, hb, hcell⟩ := h.2 (by omega)
  refine ⟨b, o + k * s, by rw [hA hm]; simp [addLit], hb, fun j u hu => ?_⟩
  rw [List.getElem?_take] at hu
  split at hu
  · rw [List.getElem?_drop] at hu
    have := hcell _ _ hu
    rwa [← Nat.add_assoc] at this
  · cases hu
theorem Rd.of_own {base : Nat} {e : TypeId} {c : Nat} (h : w.ownsRow base e s (.slice A n c) n xs) : Rd w w.heap.size s A n xs := by
  refine ⟨h.1, fun hn => ?_⟩
  rcases h.2 with ⟨_, h0⟩ | ⟨g, cap, cur, hv, _, hh, _⟩
  · omega
  · have hA : A = some ⟨g, 0, none⟩ := by injection hv
    subst hA
    refine ⟨g, 0, rfl, (Array.getElem?_eq_some_iff.1 hh).1, fun j u hu => ?_⟩
    have := h.cells (g := g) rfl j u hu
    rwa [addLit] at this
/-- What is owned is a slice of that length. -/
theorem own_form {base : Nat} {e : TypeId} {v : Value} (h : w.ownsRow base e s v n xs) : ∃ A c, v = .slice A n c ∧ n ≤ c ∧ c ≤ maxLen := by
  rcases h.2 with ⟨rfl, rfl⟩ | ⟨g, cap, cur, rfl, _, _, h1, h2, _⟩
  · exact ⟨none, 0, rfl, Nat.le_refl _, Nat.zero_le _⟩
  · exact ⟨_, cap, rfl, h1, h2⟩
theorem own_pos {base : Nat} {e : TypeId} {v : Value} (h : w.ownsRow base e s v n xs) (hn : 0 < n) : ∃ g c, v = .slice (some ⟨g, 0, none⟩) n c ∧ base ≤ g ∧ g < w.heap.size ∧ n ≤ c := by
  rcases h.2 with ⟨rfl, rfl⟩ | ⟨g, cap, cur, rfl, hb, hh, h1, h2, _⟩
  · omega
  · exact ⟨g, cap, rfl, hb, (Array.getElem?_eq_some_iff.1 hh).1, h1⟩
theorem own_drewN {base : Nat} {e : TypeId} {v : Value} (h : w.ownsRow base e s v n xs) (k : Nat) : (w.drewN k).ownsRow base e s v n xs := h
/-- What is owned from 'base' on is owned from a smaller number on. -/
theorem own_base {base base' : Nat} {e : TypeId} {v : Value} (h : w.ownsRow base e s v n xs) (hb : base' ≤ base) : w.ownsRow base' e s v n xs := by
  refine ⟨h.1, ?_⟩
  rcases h.2 with h2 | ⟨g, cap, cur, hv, hg, r⟩
  · exact .inl h2
  · exact .inr ⟨g, cap, cur, hv, by omega, r⟩
theorem own_below {base C : Nat} {e : TypeId} {v : Value} (h : w.ownsRow base e s v n xs) (hb : Below C w w') (hC : w.heap.size ≤ C) : w'.ownsRow base e s v n xs := by
  refine ⟨h.1, ?_⟩
  rcases h.2 with h2 | ⟨g, cap, cur, hv, hg, hh, r⟩
  · exact .inl h2
  · have hlt := (Array.getElem?_eq_some_iff.1 hh).1
    exact .inr ⟨g, cap, cur, hv, hg, by rw [hb.block g (by omega)]; exact hh, r⟩
end

/-- A row stays owned while another row, which lies lower, grows. -/
theorem own_apart {w w' : World} {base s n : Nat} {e : TypeId} {v : Value} {xs : List Value} {row : Option Nat} (h : w.ownsRow base e s v n xs) (hg : w.grownBy w' row) (hr : ∀ k, row = some k → k < base) : w'.ownsRow base e s v n xs :=
  h.kept hg (by
    cases hv : v.ownBlock with
    | none => exact .inl rfl
    | some k =>
      refine .inr fun e => ?_
      have h1 := (h.lt _ hv).1
      have h2 := hr _ e.symm
      omega)

/-- append onto a row of the call's own, the source whatever reads as a list (nil too). -/
theorem run_append_rd {P : Program} (w : World) (base : Nat) (t ty e : TypeId) (i : TypeInfo) (z : Value) (size bytes : Nat) (ht : P.underlying t = some (.slice e)) (hi : P.info? e = some i) (hz : i.zero = some z)
    (hsize : i.size = size) (hby : i.bytes = bytes) (hzs : z.cells.size = size) (hsz : 0 < size)
    (v : Value) (n : Nat) (xs : List Value) (hown : w.ownsRow base e size v n xs)
    (B : Nat) (A : Option Addr) (m c : Nat) (news : List Value) (hr : Rd w B size A m news) (h1 : ∀ u ∈ news, u.oneCell' = true)
    (h63 : n + m ≤ maxLen) (hbytes : (n + m) * bytes ≤ 140737488355328) (hbase : base ≤ w.heap.size) :
    ∃ v' w', (Builtin.append_ #[t, t] ty #[v, .slice A m c]).run P w = .ok v' w' ∧ w'.ownsRow base e size v' (n + m) (xs ++ news) ∧ w.grownBy w' v.ownBlock ∧
      (v'.ownBlock = v.ownBlock ∨ v'.ownBlock = some w.heap.size) := by
  rcases Nat.eq_zero_or_pos m with hm | hm
  · subst hm
    have hn : news = [] := List.eq_nil_of_length_eq_zero (by simpa using hr.1)
    subst hn
    rcases A with _ | ad
    · refine ⟨v, w, ?_, by simpa using hown, World.grownBy.refl w _, .inl rfl⟩
      rcases hown.2 with ⟨rfl, rfl⟩ | ⟨g, cap, cur, rfl, _, _, hnc, _⟩
      · simp [Builtin.append_, run_underlying ht, sizeOf, typeInfo, hi, Builtin.lenOf, Builtin.firstCells]
      · simp [Builtin.append_, run_underlying ht, sizeOf, typeInfo, hi, Builtin.lenOf, Builtin.firstCells, hnc, storeCells]
    · obtain ⟨v', w', hrun, h2, h3, _, h5⟩ := run_append_own_at (P := P) w base t ty e i z size bytes ht hi hz hsize hby hzs hsz v n xs hown ad 0 c [] (by simp) (by simp) h1 h63 hbytes hbase
      exact ⟨v', w', hrun, h2, h3, h5⟩
  · obtain ⟨b, o, rfl, _, hc⟩ := hr.2 hm
    obtain ⟨v', w', hrun, h2, h3, _, h5⟩ := run_append_own_at (P := P) w base t ty e i z size bytes ht hi hz hsize hby hzs hsz v n xs hown ⟨b, o, none⟩ m c news hr.1
      (fun j u hu => by rw [addLit]; exact hc j u hu) h1 h63 hbytes hbase
    exact ⟨v', w', hrun, h2, h3, h5⟩

/-- Likewise, at the operation. -/
theorem wpList_append_rd {P : Program} (w : World) {ops : Array Oper} {rest : List Oper} {o : Oper} {a : Act} {Q : Exit → Act → World → Prop} (hgd : o.guard = none) (s x : Operand) (t : TypeId)
    (ho : o.op = .call { callee := .builtin .append, args := #[s, x], argTypes := #[t, t] })
    (base : Nat) (e : TypeId) (i : TypeInfo) (z : Value) (size bytes : Nat) (ht : P.underlying t = some (.slice e)) (hi : P.info? e = some i) (hz : i.zero = some z)
    (hsize : i.size = size) (hby : i.bytes = bytes) (hzs : z.cells.size = size) (hsz : 0 < size)
    (v : Value) (n : Nat) (xs : List Value) (hs : a.eval s = v) (hown : w.ownsRow base e size v n xs)
    (B : Nat) (A : Option Addr) (m c : Nat) (news : List Value) (hx : a.eval x = .slice A m c) (hr : Rd w B size A m news) (h1 : ∀ u ∈ news, u.oneCell' = true)
    (h63 : n + m ≤ maxLen) (hbytes : (n + m) * bytes ≤ 140737488355328) (hbase : base ≤ w.heap.size)
    (h : ∀ v' w', w'.ownsRow base e size v' (n + m) (xs ++ news) → w.grownBy w' v.ownBlock → (v'.ownBlock = v.ownBlock ∨ v'.ownBlock = some w.heap.size) → wpList P ops Q rest (a.put o.dst v') w') : wpList P ops Q (o :: rest) a w :=
  wpList_plain hgd fun _ hK => by
    obtain ⟨v', w', hrun, h2, h3, h4⟩ := run_append_rd (P := P) w base t o.type e i z size bytes ht hi hz hsize hby hzs hsz v n xs hown B A m c news hr h1 h63 hbytes hbase
    unfold Oper.wp execOp
    simp only [ho, resolve, invoke, builtin, Sem.run_bind, Sem.run_pure, Result.andThen_ok, List.map_toArray, List.map_cons, List.map_nil, hs, hx, hrun]
    exact hK _ _ (h v' w' h2 h3 h4)

/-- append, its operation written out: known at once from any other. -/
theorem ap_any {P : Program} {w w0 : World} {ops : Array Oper} {rest : List Oper} {a : Act} {Q : Exit → Act → World → Prop} {d : Option Tmp} {ty t : TypeId} {pos : String} {af : Array Edge} {g : Option (Nat × Bool)} {s x : Operand}
    {base e size bytes : Nat} {i : TypeInfo} {z : Value} (ht : P.underlying t = some (.slice e)) (hi : P.info? e = some i) (hz : i.zero = some z)
    (hsize : i.size = size) (hby : i.bytes = bytes) (hzs : z.cells.size = size) (hsz : 0 < size)
    {v : Value} {n : Nat} {xs : List Value} (hown : w.ownsRow base e size v n xs)
    {B : Nat} {A : Option Addr} {m c : Nat} {news : List Value} (hr : Rd w B size A m news) (h1 : ∀ u ∈ news, u.oneCell' = true)
    (hb : Below base w0 w) (hbase : base ≤ w.heap.size) (hbytes : (n + m) * bytes ≤ 140737488355328 ∧ n + m ≤ 140737488355328)
    (hs : a.eval s = v) (hx : a.eval x = .slice A m c)
    (hw : Region.wanted { dst := d, op := .call { callee := .builtin .append, args := #[s, x], argTypes := #[t, t] }, type := ty, pos := pos, after := af, guard := g } (yielded ops a.tmps) = true)
    (h : ∀ v' w', w'.ownsRow base e size v' (n + m) (xs ++ news) → Below base w0 w' → w.grownBy w' v.ownBlock → (v'.ownBlock = v.ownBlock ∨ v'.ownBlock = some w.heap.size) → wpList P ops Q rest (a.put d v') w') :
    wpList P ops Q ({ dst := d, op := .call { callee := .builtin .append, args := #[s, x], argTypes := #[t, t] }, type := ty, pos := pos, after := af, guard := g } :: rest) a w :=
  BigFrame.wpList_want hw fun _ hK => by
    obtain ⟨v', w', hrun, h2, h3, h4⟩ := run_append_rd (P := P) w base t ty e i z size bytes ht hi hz hsize hby hzs hsz v n xs hown B A m c news hr h1 (by unfold maxLen; omega) hbytes.1 hbase
    unfold Oper.wp execOp
    simp only [resolve, invoke, builtin, Sem.run_bind, Sem.run_pure, Result.andThen_ok, List.map_toArray, List.map_cons, List.map_nil, hs, hx, hrun]
    exact hK _ _ (h v' w' h2 (hb.grown h3 hbase (fun k hk => (hown.lt k hk).1)) h3 h4)

/-- s[l:h], its address under a name. -/
theorem slice_lh {P : Program} {w : World} {ops : Array Oper} {rest : List Oper} {a : Act} {Q : Exit → Act → World → Prop} {d : Option Tmp} {ty t : TypeId} {pos : String} {af : Array Edge} {g : Option (Nat × Bool)} {s lo hi : Operand}
    {e size : Nat} {i : TypeInfo} (ht : P.underlying t = some (.slice e)) (hi' : P.info? e = some i) (hsize : i.size = size) {A : Option Addr} {n c : Nat} {kl kh : IntKind} {xl xh : Int} (l m : Nat) (hc : l + m ≤ c)
    (hs : a.eval s = .slice A n c) (hl : a.eval lo = .int kl xl) (hh : a.eval hi = .int kh xh) (el : xl = l) (eh : xh = (l + m : Nat))
    (hw : Region.wanted { dst := d, op := .slice t s (some lo) (some hi) none, type := ty, pos := pos, after := af, guard := g } (yielded ops a.tmps) = true)
    (h : ∀ A' c', (0 < m → A' = A.map (·.add (l * size))) → m ≤ c' → c' ≤ c → wpList P ops Q rest (a.put d (.slice A' m c')) w) :
    wpList P ops Q ({ dst := d, op := .slice t s (some lo) (some hi) none, type := ty, pos := pos, after := af, guard := g } :: rest) a w := by
  subst el eh
  have he : P.elem t = e := by simp [Program.elem, ht]
  have hrun := run_slice_lh (P := P) (w := w) t A n c (by rw [he]; exact ht) kl kh l (l + m : Nat) (by omega) (by omega) (by omega)
  rw [he] at hrun
  have e1 : ((l : Int)).toNat = l := Int.toNat_natCast l
  have e2 : (((l + m : Nat) : Int)).toNat = l + m := Int.toNat_natCast (l + m)
  have hrun2 : (Instr.sliceAt t (.slice A n c) (some (.int kl l)) (some (.int kh (l + m : Nat))) none).run P w = .ok (.slice (if c = l then A else A.map (·.add (l * size))) m (c - l)) w := by
    rw [run_sliceAt_slice w t _ _ _ _ (by rw [he]; exact ht), hrun, e1, e2]; simp [sizeOf, typeInfo, hi', hsize, sliced]
  refine BigFrame.wpList_want hw fun _ hK => ?_
  unfold Oper.wp execOp
  simp only [Option.map_some, Option.map_none, hs, hl, hh, Sem.run_bind, hrun2, Sem.run_pure, Result.andThen_ok, Oper.upon_value]
  exact hK _ _ (h _ _ (fun hm => by rw [if_neg (by omega)]) (by omega) (by omega))

/-- A block that is known whole. -/
def Bk (w : World) (g : Nat) (t : TypeId) (cs : Array Value) : Prop := w.heap[g]? = some (.cells cs t (0, 0))
section
variable {w w' : World} {g : Nat} {t : TypeId} {cs : Array Value}
theorem Bk.lt (h : Bk w g t cs) : g < w.heap.size := (Array.getElem?_eq_some_iff.1 h).1
theorem Bk.cell (h : Bk w g t cs) (i : Nat) : w.cell? ⟨g, i, none⟩ = cs[i]? := cell_of_row w g i cs t (0, 0) h
theorem Bk.free (h : Bk w g t cs) (i : Nat) : w.frozen? ⟨g, i, none⟩ = false := by unfold Bk at h; simp [World.frozen?, h]
theorem Bk.new (w : World) (t : TypeId) (cs : Array Value) : Bk (w.alloc (.cells cs t)) w.heap.size t cs := heap_alloc_new w _
theorem Bk.new' (w : World) (t : TypeId) (cs : Array Value) {g : Nat} (h : g = w.heap.size) : Bk (w.alloc (.cells cs t)) g t cs := by rw [h]; exact heap_alloc_new w _
theorem Bk.setRow (h : Bk w g t cs) (cs' : Array Value) : Bk (w.setRow g cs') g t cs' := setRow_heap w g cs cs' t (0, 0) h
theorem Bk.drewN (h : Bk w g t cs) (n : Nat) : Bk (w.drewN n) g t cs := h
theorem Bk.drew (h : Bk w g t cs) : Bk w.drew g t cs := h
theorem Bk.alloc (h : Bk w g t cs) (o : Obj) : Bk (w.alloc o) g t cs := (Below.heap_alloc w o g h.lt).trans h
theorem Bk.set (h : Bk w g t cs) (i : Nat) (u : Value) : Bk (w.setCell ⟨g, i, none⟩ u) g t (cs.setIfInBounds i u) := by
  unfold Bk at h ⊢
  simp [World.setCell, Array.getElem?_modify, h]
theorem Bk.far (h : Bk w g t cs) {p : Addr} (hp : g ≠ p.block) (u : Value) : Bk (w.setCell p u) g t cs := (Below.heap_setCell w p u g hp).trans h
theorem Bk.below {B : Nat} (h : Bk w g t cs) (hb : Below B w w') (hg : g < B) : Bk w' g t cs := (hb.block g hg).trans h
theorem Bk.grown {row : Option Nat} (h : Bk w g t cs) (hb : w.grownBy w' row) (hg : some g ≠ row) : Bk w' g t cs := (hb.block g h.lt hg).trans h
end

/-- Guards: which operation stands next. -/
theorem at_slice {P : Program} {w : World} {ops : Array Oper} {rest : List Oper} {a : Act} {Q : Exit → Act → World → Prop} {d : Option Tmp} {ty t : TypeId} {pos : String} {af : Array Edge} {s : Operand} {lo hi mx : Option Operand} {g : Option (Nat × Bool)}
    (h : wpList P ops Q ({ dst := d, op := .slice t s lo hi mx, type := ty, pos := pos, after := af, guard := g } :: rest) a w) : wpList P ops Q ({ dst := d, op := .slice t s lo hi mx, type := ty, pos := pos, after := af, guard := g } :: rest) a w := h
theorem at_load {P : Program} {w : World} {ops : Array Oper} {rest : List Oper} {a : Act} {Q : Exit → Act → World → Prop} {d : Option Tmp} {ty : TypeId} (lt : TypeId) {pos : String} {af : Array Edge} {x : Operand} {g : Option (Nat × Bool)}
    (h : wpList P ops Q ({ dst := d, op := .load lt x, type := ty, pos := pos, after := af, guard := g } :: rest) a w) : wpList P ops Q ({ dst := d, op := .load lt x, type := ty, pos := pos, after := af, guard := g } :: rest) a w := h
theorem at_store {P : Program} {w : World} {ops : Array Oper} {rest : List Oper} {a : Act} {Q : Exit → Act → World → Prop} {d : Option Tmp} {ty : TypeId} (lt : TypeId) {pos : String} {af : Array Edge} {x y : Operand} {g : Option (Nat × Bool)}
    (h : wpList P ops Q ({ dst := d, op := .store lt x y, type := ty, pos := pos, after := af, guard := g } :: rest) a w) : wpList P ops Q ({ dst := d, op := .store lt x y, type := ty, pos := pos, after := af, guard := g } :: rest) a w := h
theorem at_append {P : Program} {w : World} {ops : Array Oper} {rest : List Oper} {a : Act} {Q : Exit → Act → World → Prop} {d : Option Tmp} {ty : TypeId} {ts : Array TypeId} {pos : String} {af : Array Edge} {xs : Array Operand} {g : Option (Nat × Bool)}
    (h : wpList P ops Q ({ dst := d, op := .call { callee := .builtin .append, args := xs, argTypes := ts }, type := ty, pos := pos, after := af, guard := g } :: rest) a w) : wpList P ops Q ({ dst := d, op := .call { callee := .builtin .append, args := xs, argTypes := ts }, type := ty, pos := pos, after := af, guard := g } :: rest) a w := h

/-- Bytes, and ints, as cells. -/
def bys (l : List UInt8) : List Value := l.map fun u => Value.int .u8 (u.toNat : Int)
def its (l : List Int) : List Value := l.map fun n => Value.int .i64 n
theorem bys_len (l : List UInt8) : (bys l).length = l.length := by simp [bys]
theorem its_len (l : List Int) : (its l).length = l.length := by simp [its]
theorem bys_app (a b : List UInt8) : bys (a ++ b) = bys a ++ bys b := by simp [bys]
theorem its_app (a b : List Int) : its (a ++ b) = its a ++ its b := by simp [its]
theorem bys_one (l : List UInt8) : ∀ u ∈ bys l, u.oneCell' = true := by
  intro u hu; simp only [bys, List.mem_map] at hu; obtain ⟨x, _, rfl⟩ := hu; rfl
theorem its_one (l : List Int) : ∀ u ∈ its l, u.oneCell' = true := by
  intro u hu; simp only [its, List.mem_map] at hu; obtain ⟨x, _, rfl⟩ := hu; rfl
theorem own_nilB (w : World) (base : Nat) (e : TypeId) : w.ownsRow base e 1 (.slice none 0 0) 0 (bys []) := World.ownsRow_nil _ _ _ _
theorem own_nilI (w : World) (base : Nat) (e : TypeId) : w.ownsRow base e 1 (.slice none 0 0) 0 (its []) := World.ownsRow_nil _ _ _ _
theorem bys_drop (l : List UInt8) (k : Nat) : (bys l).drop k = bys (l.drop k) := by simp [bys]
theorem bys_take (l : List UInt8) (k : Nat) : (bys l).take k = bys (l.take k) := by simp [bys]
theorem its_drop (l : List Int) (k : Nat) : (its l).drop k = its (l.drop k) := by simp [its]
theorem its_take (l : List Int) (k : Nat) : (its l).take k = its (l.take k) := by simp [its]
section
variable {w w' : World} {B n : Nat} {A : Option Addr}
theorem Rd.byte {l : List UInt8} {k : Nat} (h : Rd w B 1 A n (bys l)) (hk : k < n) :
    ∃ b o u, A = some ⟨b, o, none⟩ ∧ b < B ∧ l[k]? = some u ∧ u.toNat < 256 ∧ w.cell? ⟨b, o + k, none⟩ = some (.int .u8 (u.toNat : Int)) := by
  obtain ⟨b, o, u, hA, hb, hx, hc⟩ := h.at_ hk
  simp only [bys, List.getElem?_map, Option.map_eq_some_iff] at hx
  obtain ⟨y, hy, rfl⟩ := hx
  exact ⟨b, o, y, hA, hb, hy, y.toNat_lt, hc⟩
theorem Rd.num {l : List Int} {k : Nat} (h : Rd w B 1 A n (its l)) (hk : k < n) :
    ∃ b o u, A = some ⟨b, o, none⟩ ∧ b < B ∧ l[k]? = some u ∧ w.cell? ⟨b, o + k, none⟩ = some (.int .i64 u) := by
  obtain ⟨b, o, u, hA, hb, hx, hc⟩ := h.at_ hk
  simp only [its, List.getElem?_map, Option.map_eq_some_iff] at hx
  obtain ⟨y, hy, rfl⟩ := hx
  exact ⟨b, o, y, hA, hb, hy, hc⟩
theorem Rd.blen {l : List UInt8} (h : Rd w B 1 A n (bys l)) : l.length = n := by have := h.1; rw [bys_len] at this; omega
theorem Rd.ilen {l : List Int} (h : Rd w B 1 A n (its l)) : l.length = n := by have := h.1; rw [its_len] at this; omega
theorem Rd.bcut {l : List UInt8} (h : Rd w B 1 A n (bys l)) {k m : Nat} (hk : k + m ≤ n) {A' : Option Addr} (hA : 0 < m → A' = A.map (·.add k)) :
    Rd w B 1 A' m (bys ((l.drop k).take m)) := by
  have := h.cut hk (A' := A') (by simpa using hA)
  simpa [bys_drop, bys_take] using this
end

/-- A block of one new cell, as a slice. -/
theorem Rd.oneB (w : World) (t : TypeId) {x : Int} {u : UInt8} (h : x = (u.toNat : Int)) : Rd (w.alloc (.cells #[.int .u8 x] t)) (w.heap.size + 1) 1 (some ⟨w.heap.size, 0, none⟩) 1 (bys [u]) := by
  subst h
  refine ⟨rfl, fun _ => ⟨_, _, rfl, by omega, fun j v hj => ?_⟩⟩
  match j, hj with
  | 0, hj => simp [bys] at hj; subst hj; simp
  | j + 1, hj => simp [bys] at hj
theorem Rd.oneI (w : World) (t : TypeId) (x : Int) : Rd (w.alloc (.cells #[.int .i64 x] t)) (w.heap.size + 1) 1 (some ⟨w.heap.size, 0, none⟩) 1 (its [x]) := by
  refine ⟨rfl, fun _ => ⟨_, _, rfl, by omega, fun j v hj => ?_⟩⟩
  match j, hj with
  | 0, hj => simp [its] at hj; subst hj; simp
  | j + 1, hj => simp [its] at hj

/-- A block of new cells, as a slice. -/
theorem Rd.lits (w : World) (t : TypeId) (cs : Array Value) {n : Nat} (h : cs.size = n) {fr : Nat × Nat} : Rd (w.alloc (.cells cs t fr)) (w.heap.size + 1) 1 (some ⟨w.heap.size, 0, none⟩) n cs.toList := by
  subst h
  refine ⟨by simp, fun _ => ⟨_, _, rfl, by omega, fun j v hj => ?_⟩⟩
  rw [Nat.zero_add]
  have hlt : j < cs.size := by
    rcases Nat.lt_or_ge j cs.toList.length with h | h
    · simpa using h
    · rw [List.getElem?_eq_none h] at hj; cases hj
  have h1 : (w.alloc (.cells cs t fr)).cell? ⟨w.heap.size, j, none⟩ = cs[j]? := World.cell?_alloc_mark w cs t fr j
  rw [h1, ← hj]; simp
theorem take_step {α : Type} {l : List α} {j : Nat} {u : α} (h : l[j]? = some u) : l.take (j + 1) = l.take j ++ [u] := by
  rw [List.take_add_one, h]; rfl
section
variable {a w w' : World} {row : Option Nat} {g : Nat}
theorem gb_trans {w2 : World} (h : a.grownBy w row) (k : w.grownBy w2 row) : a.grownBy w2 row :=
  ⟨k.os.trans h.os, k.tape.trans h.tape, k.output.trans h.output, Nat.le_trans h.size k.size, fun i hi hne => (k.block i (Nat.lt_of_lt_of_le hi h.size) hne).trans (h.block i hi hne)⟩
theorem gb_drewN (h : a.grownBy w row) (n : Nat) : a.grownBy (w.drewN n) row := ⟨h.os, h.tape, h.output, h.size, h.block⟩
theorem gb_drew (h : a.grownBy w row) : a.grownBy w.drew row := ⟨h.os, h.tape, h.output, h.size, h.block⟩
theorem gb_set (h : a.grownBy w (some g)) (i : Nat) (u : Value) : a.grownBy (w.setCell ⟨g, i, none⟩ u) (some g) :=
  ⟨h.os, h.tape, h.output, by simpa [World.setCell] using h.size, fun k hk hne => (Below.heap_setCell w _ u k (fun e => hne (by rw [e]))).trans (h.block k hk hne)⟩
theorem gb_of_below (h : Below a.heap.size a w) (row : Option Nat) : a.grownBy w row := ⟨h.os, h.tape, h.output, h.size, fun k hk _ => h.block k hk⟩
theorem gb_below {C : Nat} (h : w.grownBy w' (some g)) (hb : Below C a w) (hC : C ≤ w.heap.size) (hg : C ≤ g) : Below C a w' := hb.grown h hC (fun k hk => by injection hk with hk; omega)
theorem Rd.gb {B s n : Nat} {A : Option Addr} {xs : List Value} (h : Rd w B s A n xs) (hg : w.grownBy w' (some g)) (hB : B ≤ w.heap.size) (hBg : B ≤ g) : Rd w' B s A n xs := h.grown hg hB (fun k hk => by injection hk with hk; omega)
end
theorem ret_int {k : IntKind} {a b : Int} (h : a = b) : Ending.returned (.int k a) = .returned (.int k b) := by rw [h]
theorem ret_bool {a b : Bool} (h : a = b) : Ending.returned (.bool a) = .returned (.bool b) := by rw [h]
theorem below_drewN {C : Nat} {a w : World} (h : Below C a w) (n : Nat) : Below C a (w.drewN n) := ⟨h.os, h.tape, h.output, h.size, h.block⟩
theorem below_own {a w w' : World} {v : Value} {C base s n : Nat} {e : TypeId} {xs : List Value} (h : Below C a w) (hown : w.ownsRow base e s v n xs) (hb : C ≤ base) (hC : C ≤ w.heap.size) (hg : w.grownBy w' v.ownBlock) : Below C a w' :=
  h.grown hg hC (fun k hk => by have := (hown.lt k hk).1; omega)
/-- A value that is a slice of these bytes. -/
def RdB (w : World) (B : Nat) (v : Value) (l : List UInt8) : Prop := ∃ A n c, v = .slice A n c ∧ Rd w B 1 A n (bys l) ∧ n ≤ c
/-- A slice of slices of bytes. -/
def RdRows (w : World) (B : Nat) (A : Option Addr) (n : Nat) (ls : List (List UInt8)) : Prop :=
  ∃ vs : List Value, Rd w B 1 A n vs ∧ vs.length = ls.length ∧ ∀ (i : Nat) v l, vs[i]? = some v → ls[i]? = some l → RdB w B v l
section
variable {w w' : World} {B n : Nat} {A : Option Addr} {ls : List (List UInt8)}
theorem RdB.keep {v : Value} {l : List UInt8} (h : RdB w B v l) (hk : ∀ p : Addr, p.block < B → w'.cell? p = w.cell? p) : RdB w' B v l := by
  obtain ⟨A, n, c, rfl, h1, h2⟩ := h; exact ⟨A, n, c, rfl, h1.keep hk, h2⟩
theorem RdB.more {B' : Nat} {v : Value} {l : List UInt8} (h : RdB w B v l) (hB : B ≤ B') : RdB w B' v l := by
  obtain ⟨A, n, c, rfl, h1, h2⟩ := h; exact ⟨A, n, c, rfl, h1.more hB, h2⟩
theorem RdRows.keep (h : RdRows w B A n ls) (hk : ∀ p : Addr, p.block < B → w'.cell? p = w.cell? p) : RdRows w' B A n ls := by
  obtain ⟨vs, h1, h2, h3⟩ := h
  exact ⟨vs, h1.keep hk, h2, fun i v l hv hl => (h3 i v l hv hl).keep hk⟩
theorem RdRows.more {B' : Nat} (h : RdRows w B A n ls) (hB : B ≤ B') : RdRows w B' A n ls := by
  obtain ⟨vs, h1, h2, h3⟩ := h
  exact ⟨vs, h1.more hB, h2, fun i v l hv hl => (h3 i v l hv hl).more hB⟩
theorem RdRows.below {C : Nat} (h : RdRows w B A n ls) (hb : Below C w w') (hC : B ≤ C) : RdRows w' B A n ls := h.keep fun _ hp => hb.cell (by omega)
theorem RdRows.alloc (h : RdRows w B A n ls) (hB : B ≤ w.heap.size) (o : Obj) : RdRows (w.alloc o) B A n ls := h.keep fun p hp => World.cell?_alloc_lt w o p (by omega)
theorem RdRows.len (h : RdRows w B A n ls) : ls.length = n := by obtain ⟨vs, h1, h2, _⟩ := h; have := h1.1; omega
theorem RdRows.at_ {k : Nat} (h : RdRows w B A n ls) (hk : k < n) :
    ∃ b o v l, A = some ⟨b, o, none⟩ ∧ b < B ∧ ls[k]? = some l ∧ w.cell? ⟨b, o + k, none⟩ = some v ∧ RdB w B v l := by
  have hlen := h.len
  obtain ⟨vs, h1, h2, h3⟩ := h
  obtain ⟨b, o, u, hA, hb, hx, hc⟩ := h1.at_ hk
  have hl : ls[k]? = some (ls[k]'(by omega)) := List.getElem?_eq_getElem (by omega)
  exact ⟨b, o, u, _, hA, hb, hl, hc, h3 k u _ hx hl⟩
end
theorem RdB.mk {w : World} {B n c : Nat} {A : Option Addr} {l : List UInt8} (h : Rd w B 1 A n (bys l)) (hnc : n ≤ c) : RdB w B (.slice A n c) l := ⟨A, n, c, rfl, h, hnc⟩
theorem RdB.alloc {w : World} {B : Nat} {v : Value} {l : List UInt8} (h : RdB w B v l) (hB : B ≤ w.heap.size) (o : Obj) : RdB (w.alloc o) B v l := h.keep fun p hp => World.cell?_alloc_lt w o p (by omega)
theorem RdRows.one (w : World) (t : TypeId) {v : Value} {l : List UInt8} {B : Nat} (h : RdB w B v l) (hB : B ≤ w.heap.size) : RdRows (w.alloc (.cells #[v] t)) (w.heap.size + 1) (some ⟨w.heap.size, 0, none⟩) 1 [l] := by
  refine ⟨[v], Rd.lits w t #[v] rfl, rfl, fun i v' l' hv hl => ?_⟩
  match i, hv, hl with
  | 0, hv, hl => simp at hv hl; subst hv hl; exact (h.alloc hB _).more (by omega)
  | i + 1, hv, _ => simp at hv
theorem RdRows.two (w : World) (t : TypeId) {v v2 : Value} {l l2 : List UInt8} {B : Nat} (h : RdB w B v l) (h2 : RdB w B v2 l2) (hB : B ≤ w.heap.size) : RdRows (w.alloc (.cells #[v, v2] t)) (w.heap.size + 1) (some ⟨w.heap.size, 0, none⟩) 2 [l, l2] := by
  refine ⟨[v, v2], Rd.lits w t #[v, v2] rfl, rfl, fun i v' l' hv hl => ?_⟩
  match i, hv, hl with
  | 0, hv, hl => simp at hv hl; subst hv hl; exact (h.alloc hB _).more (by omega)
  | 1, hv, hl => simp at hv hl; subst hv hl; exact (h2.alloc hB _).more (by omega)
  | i + 2, hv, _ => simp at hv
theorem below_new {w w1 w2 : World} {o : Obj} (hb : Below w.heap.size w w1) (h : Below (w1.heap.size + 1) (w1.alloc o) w2) : Below w.heap.size w w2 :=
  (hb.alloc hb.size o).trans (h.mono (by have := hb.size; omega))
theorem RdRows.one' (w : World) (t : TypeId) {v : Value} {l : List UInt8} {B g : Nat} (h : RdB w B v l) (hB : B ≤ w.heap.size) (hg : g = w.heap.size) : RdRows (w.alloc (.cells #[v] t)) (w.heap.size + 1) (some ⟨g, 0, none⟩) 1 [l] := by
  subst hg; exact RdRows.one w t h hB
theorem RdRows.two' (w : World) (t : TypeId) {v v2 : Value} {l l2 : List UInt8} {B g : Nat} (h : RdB w B v l) (h2 : RdB w B v2 l2) (hB : B ≤ w.heap.size) (hg : g = w.heap.size) : RdRows (w.alloc (.cells #[v, v2] t)) (w.heap.size + 1) (some ⟨g, 0, none⟩) 2 [l, l2] := by
  subst hg; exact RdRows.two w t h h2 hB
theorem bys_set (l : List UInt8) (j : Nat) (u : UInt8) : (bys l).set j (.int .u8 (u.toNat : Int)) = bys (l.set j u) := by simp [bys, List.map_set]
section
variable {w : World} {base g n c : Nat} {e : TypeId} {l : List UInt8}
theorem own_byte (h : w.ownsRow base e 1 (.slice (some ⟨g, 0, none⟩) n c) n (bys l)) {j : Nat} (hj : j < n) : w.cell? ⟨g, j, none⟩ = some (.int .u8 (((l[j]?.getD 0).toNat : Nat) : Int)) := by
  rw [h.cellAt j (by omega)]
  have hl : l.length = n := by have := h.1; rw [bys_len] at this; omega
  simp [bys, List.getElem?_eq_getElem (show j < l.length by omega)]
theorem own_set (h : w.ownsRow base e 1 (.slice (some ⟨g, 0, none⟩) n c) n (bys l)) (j : Nat) (u : UInt8) :
    (w.setCell ⟨g, j, none⟩ (.int .u8 (u.toNat : Int))).ownsRow base e 1 (.slice (some ⟨g, 0, none⟩) n c) n (bys (l.set j u)) ∧ w.grownBy (w.setCell ⟨g, j, none⟩ (.int .u8 (u.toNat : Int))) (some g) := by
  have := h.stored j (.int .u8 (u.toNat : Int))
  rwa [bys_set] at this
theorem own_lit0 (w : World) (e : TypeId) : (w.alloc (.cells #[] e)).ownsRow w.heap.size e 1 (.slice (some ⟨w.heap.size, 0, none⟩) 0 0) 0 (bys []) :=
  World.ownsRow_made w #[] 0 (Nat.le_refl _) (Nat.zero_le _) rfl
end
end Go.Proofs.YtoadamkmabkldaaGreatDoor
