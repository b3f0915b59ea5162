/- Contracts of package pager: writes. -/
import Derived.Test.YtoadamkmabkldaaGreatDoorJn21
import Derived.Test.YtoadamkmabkldaaGreatDoorJn22
set_option linter.unusedVariables false
set_option linter.unusedSimpArgs false
namespace Go.Proofs.YtoadamkmabkldaaGreatDoor
open Go.RowKit Go.Shelf
attribute [local go_sem ↓] Go.wp_at_zero Go.wp_at_succ
/-- Pages as package wal has them. -/
def wls (l : List (Nat × List UInt8)) : List (List Int × List UInt8) := l.map fun q => ([(q.1 : Int)], q.2)
/-- Pages that were made: the row, and each one's bytes, apart. -/
def PX (w : World) (base : Nat) (v : Value) (l : List (Nat × List UInt8)) : Prop :=
  ∃ vs : List Value, vs.length = l.length ∧ w.ownsRow base 122 2 v l.length (pcells (wls l) vs) ∧
    ∀ (i : Nat) vi q, vs[i]? = some vi → l[i]? = some q → ∃ g n c, vi = .slice (some ⟨g, 0, none⟩) n c ∧ n = q.2.length ∧ n ≤ c ∧ c ≤ maxLen ∧ base ≤ g ∧ g < w.heap.size ∧ v.ownBlock ≠ some g ∧ Rs w g (some ⟨g, 0, none⟩) q.2
theorem PX.nil_ (w : World) (base : Nat) : PX w base (.slice none 0 0) [] := ⟨[], rfl, World.ownsRow_nil _ _ _ _, fun i vi p h => by simp at h⟩
theorem PX.below {w w' : World} {base : Nat} {v : Value} {l : List (Nat × List UInt8)} (h : PX w base v l) (hb : Below w.heap.size w w') : PX w' base v l := by
  obtain ⟨vs, h1, h2, h3⟩ := h
  have := hb.size
  refine ⟨vs, h1, own_below h2 hb (Nat.le_refl _), fun i vi q hv hl => ?_⟩
  obtain ⟨g, n, c, k1, k2, k3, k4, k5, k6, k7, k8⟩ := h3 i vi q hv hl
  exact ⟨g, n, c, k1, k2, k3, k4, k5, by omega, k7, k8.heap (hb.block g k6)⟩
theorem PX.own {w : World} {base : Nat} {v : Value} {l : List (Nat × List UInt8)} (h : PX w base v l) : ∃ A c, v = .slice A l.length c ∧ l.length ≤ c ∧ c ≤ maxLen := by
  obtain ⟨vs, _, h2, _⟩ := h; exact own_form h2
theorem PX.app {w w' : World} {base g c : Nat} {v v' : Value} {l : List (Nat × List UInt8)} (vs : List Value) (h1 : vs.length = l.length)
    (h3 : ∀ (i : Nat) vi q, vs[i]? = some vi → l[i]? = some q → ∃ g n c, vi = .slice (some ⟨g, 0, none⟩) n c ∧ n = q.2.length ∧ n ≤ c ∧ c ≤ maxLen ∧ base ≤ g ∧ g < w.heap.size ∧ v.ownBlock ≠ some g ∧ Rs w g (some ⟨g, 0, none⟩) q.2)
    (no : Nat) (b : List UInt8) (hc : b.length ≤ c) (hcm : c ≤ maxLen) (hgb : base ≤ g) (hgl : g < w.heap.size) (hgv : v.ownBlock ≠ some g) (hgr : Rs w g (some ⟨g, 0, none⟩) b)
    (ho : w'.ownsRow base 122 2 v' (l.length + 1) (pcells (wls l) vs ++ [.int .i64 (no : Int), .slice (some ⟨g, 0, none⟩) b.length c])) (hg : w.grownBy w' v.ownBlock) (hv : v'.ownBlock = v.ownBlock ∨ v'.ownBlock = some w.heap.size) : PX w' base v' (l ++ [(no, b)]) := by
  have kept : ∀ {k : Nat} {bs : List UInt8}, k < w.heap.size → v.ownBlock ≠ some k → Rs w k (some ⟨k, 0, none⟩) bs → k < w'.heap.size ∧ v'.ownBlock ≠ some k ∧ Rs w' k (some ⟨k, 0, none⟩) bs := by
    intro k bs hk hn hr
    have := hg.size
    refine ⟨by omega, ?_, hr.heap (hg.block k hk (fun e => hn e.symm))⟩
    rcases hv with e | e
    · rw [e]; exact hn
    · rw [e]; intro e2; injection e2 with e2; omega
  refine ⟨vs ++ [.slice (some ⟨g, 0, none⟩) b.length c], by simp [h1], ?_, fun i vi q hvi hq => ?_⟩
  · have : pcells (wls (l ++ [(no, b)])) (vs ++ [.slice (some ⟨g, 0, none⟩) b.length c]) = pcells (wls l) vs ++ [.int .i64 (no : Int), .slice (some ⟨g, 0, none⟩) b.length c] := by
      unfold pcells wls
      rw [List.map_append, List.zip_append (by simp [h1])]
      simp
    rw [this, List.length_append]
    exact ho
  · by_cases hi : i < l.length
    · rw [List.getElem?_append_left (by omega)] at hvi
      rw [List.getElem?_append_left hi] at hq
      obtain ⟨k, n, c', e1, e2, e3, e4, e5, e6, e7, e8⟩ := h3 i vi q hvi hq
      obtain ⟨a1, a2, a3⟩ := kept e6 e7 e8
      exact ⟨k, n, c', e1, e2, e3, e4, e5, a1, a2, a3⟩
    · rw [List.getElem?_append_right (by omega), h1] at hvi
      rw [List.getElem?_append_right (by omega)] at hq
      have hz : i - l.length = 0 := by
        rcases Nat.eq_zero_or_pos (i - l.length) with h | h
        · exact h
        · rw [List.getElem?_eq_none (by simp; omega)] at hq; cases hq
      rw [hz] at hvi hq
      simp at hvi hq
      subst hvi hq
      obtain ⟨a1, a2, a3⟩ := kept hgl hgv hgr
      exact ⟨g, b.length, c, rfl, rfl, hc, hcm, hgb, a1, a2, a3⟩
theorem wls_at {l : List (Nat × List UInt8)} {i : Nat} {q : Nat × List UInt8} (h : l[i]? = some q) : (wls l)[i]? = some ([(q.1 : Int)], q.2) := by
  unfold wls; rw [List.getElem?_map, h]; rfl
/-- What was made reads as pages. -/
theorem PX.rd {w : World} {base : Nat} {A : Option Addr} {c n : Nat} {l : List (Nat × List UInt8)} (h : PX w base (.slice A n c) l) (hn : l.length = n) : RdWr w (fun i => base ≤ i) A n l := by
  obtain ⟨vs, h1, h2, h3⟩ := h
  refine ⟨hn, fun h0 => ?_⟩
  rw [hn] at h2
  obtain ⟨g, c', hv, hg, hlt, _⟩ := own_pos h2 h0
  injection hv with hA _ _
  subst hA
  refine ⟨g, 0, rfl, hg, hlt, fun i q hq => ?_⟩
  have hi : i < l.length := (List.getElem?_eq_some_iff.1 hq).1
  obtain ⟨u, hu⟩ : ∃ u, vs[i]? = some u := ⟨_, List.getElem?_eq_getElem (by omega)⟩
  obtain ⟨g1, n1, c1, e1, e2, e3, e4, e5, e6, e7, e8⟩ := h3 i u q hu hq
  obtain ⟨d1, d2⟩ := pcells_at (wls l) vs (by simp [wls, h1]) i _ u (wls_at hq) hu
  have hc := fun j u (hj : (pcells (wls l) vs)[j]? = some u) => h2.cells (g := g) rfl j u hj
  have f1 := hc _ _ d1
  have f2 := hc _ _ d2
  rw [addLit] at f1 f2
  subst e1
  exact ⟨by simpa using f1, g1, 0, n1, c1, by simpa [Nat.zero_add] using f2, e2, e3, e4, e5, e6, e8⟩
/-- .. and as what package wal reads. -/
theorem RdWr.pcs {w : World} {V : Nat → Prop} {A : Option Addr} {n : Nat} {l : List (Nat × List UInt8)} (h : RdWr w V A n l) (hb : ∀ q ∈ l, q.1 ≤ 16777216) : RdPcs w w.heap.size 1 A n (wls l) := by
  refine ⟨by simp [wls, h.1], fun h0 => ?_⟩
  obtain ⟨b, o, h1, h2, h3, h4⟩ := h.2 h0
  refine ⟨b, o, h1, h3, fun i p hp => ?_⟩
  unfold wls at hp
  rw [List.getElem?_map, Option.map_eq_some_iff] at hp
  obtain ⟨q, hq, rfl⟩ := hp
  obtain ⟨k1, b1, o1, n1, c1, k2, k3, k4, k5, k6, k7, k8⟩ := h4 i q hq
  have := hb q (List.mem_of_getElem? hq)
  refine ⟨rfl, fun z hz => ?_, fun k z hz => ?_, _, k2, ?_⟩
  · simp at hz
    subst hz
    exact ⟨by omega, by omega⟩
  · match k, hz with
    | 0, hz => simp at hz; subst hz; exact k1
    | k + 1, hz => simp at hz
  · refine ⟨_, n1, c1, rfl, ⟨by rw [bys_len, k3, Nat.mul_one], fun hn1 => ?_⟩, k4⟩
    obtain ⟨o2, e, hc⟩ := k8 (by rw [← k3]; exact hn1)
    injection e with e
    injection e with _ e2 _
    subst e2
    refine ⟨b1, o1, rfl, k7, fun j u hu => ?_⟩
    unfold bys at hu
    rw [List.getElem?_map, Option.map_eq_some_iff] at hu
    obtain ⟨y, hy, rfl⟩ := hu
    exact hc j y hy
/-- delete(m, k), at the operation. -/
theorem op_delI {w : World} {ops : Array Oper} {rest : List Oper} {a : Act} {Q : Exit → Act → World → Prop} {d : Option Tmp} {ty : TypeId} {pos : String} {af : Array Edge} {g : Option (Nat × Bool)} {x y : Operand}
    {m n k : Nat} {f : Nat → Option SlT} (h : MapI w m n f) (hk : k ≤ 9223372036854775807) (hm : a.eval x = .map (some m)) (hs : a.eval y = .int .i64 (k : Int))
    (hw : Region.wanted { dst := d, op := .call { callee := .builtin .delete, args := #[x, y], argTypes := #[62, 3] }, type := ty, pos := pos, after := af, guard := g } (yielded ops a.tmps) = true)
    (hK : ∀ w', MapI w' m n (fun t => if t = k then none else f t) → w.grownBy w' (some m) → wpList Tryz.prog ops Q rest (a.put d (.tuple #[])) w') :
    wpList Tryz.prog ops Q ({ dst := d, op := .call { callee := .builtin .delete, args := #[x, y], argTypes := #[62, 3] }, type := ty, pos := pos, after := af, guard := g } :: rest) a w :=
  BigFrame.wpList_want hw fun _ hK' => by
    obtain ⟨w', hrun, h1, h2⟩ := h.del hk ty
    unfold Oper.wp execOp
    simp only [resolve, invoke, builtin, Sem.run_bind, Sem.run_pure, Result.andThen_ok, List.map_toArray, List.map_cons, List.map_nil, hm, hs, hrun]
    exact hK' _ _ (hK w' h1 h2)
theorem putK_zero {b : List UInt8} {l : List (Nat × List UInt8)} (h : ∀ q ∈ l, 1 ≤ q.1) : putK 0 b l = (0, b) :: l := by
  cases l with
  | nil => rfl
  | cons q r =>
    obtain ⟨j, c⟩ := q
    have := h (j, c) (List.mem_cons_self ..)
    unfold putK
    rw [if_pos (by show 0 < j; exact this)]
/-- The batch of a head, and of changed pages. -/
def batP (h : HdP) (ch : List (Nat × List UInt8)) : List (Nat × List UInt8) := ((0, hdB h) :: ch).map fun q => (q.1, sealB (q.1 : Int) q.2)
theorem rs_bk {w : World} {g : Nat} {t : TypeId} {b : List UInt8} (h : Bk w g t (bys b).toArray) : Rs w g (some ⟨g, 0, none⟩) b := fun _ => ⟨0, rfl, fun j u hu => by
  rw [h.cell, Nat.zero_add]
  unfold bys
  rw [List.getElem?_toArray, List.getElem?_map, hu]; rfl⟩
theorem lookup_at {l : List (Nat × List UInt8)} (hs : l.Pairwise fun p q => p.1 < q.1) {q : Nat × List UInt8} (h : q ∈ l) : l.lookup q.1 = some q.2 := by
  induction l with
  | nil => cases h
  | cons p r ih =>
    obtain ⟨h1, h2⟩ := List.pairwise_cons.1 hs
    obtain ⟨j, c⟩ := p
    rw [List.lookup_cons]
    rcases List.mem_cons.1 h with rfl | h
    · simp
    · have := h1 q h
      rw [show (q.1 == j) = false by simp; dsimp only at this; omega]
      exact ih h2 h
theorem wpair (W : World) (u v : Value) : Rd (W.alloc (.cells #[u, v] 122)) (W.heap.size + 1) 2 (some ⟨W.heap.size, 0, none⟩) 1 [u, v] := Rd.pair W _ u v
/-- The pager when page 0 goes from what has changed. -/
theorem PgM.unch {w w2 : World} {f p mch mcl : Nat} {nm : ByteArray} {P : PgP} {tch tcl : Nat → SlT} {vrow : Value} {b : List UInt8} (h : PgM w f p nm { P with ch := (0, b) :: P.ch } mch mcl tch tcl vrow) (hs : P.ch.Pairwise fun p q => p.1 < q.1) (h1 : ∀ q ∈ P.ch, 1 ≤ q.1)
    (hm : MapI w2 mch (P.ch.length + 1) (fun x => if x = 0 then none else (((0, b) :: P.ch).lookup x).map fun _ => tch x)) (hg : w.grownBy w2 (some mch)) : PgM w2 f p nm P mch mcl tch tcl vrow := by
  have nem : ∀ {g : Nat} {ty : TypeId} {cs : Array Value}, Bk w g ty cs → w2.heap[g]? = w.heap[g]? := fun hg2 => hg.block _ hg2.lt (by intro e; injection e with e; exact (h.ch.ne hg2) e.symm)
  have hl0 : P.ch.lookup 0 = none := by
    cases hh : P.ch.lookup 0 with
    | none => rfl
    | some c =>
      have := h1 _ (lookup_mem2 hh)
      simp at this
  have hlk : ∀ x, x ≠ 0 → ((0, b) :: P.ch).lookup x = P.ch.lookup x := fun x hx => by
    rw [List.lookup_cons, show (x == 0) = false by simpa using hx]
  refine ⟨(nem h.hd).trans h.hd, ?_, h.cl.heap (hg.block mcl h.cl.lt (by intro e; injection e with e; exact h.ne e.symm)), h.ne, fun k c hk => ?_, fun k hk => ?_, h.rw.heap hg.size (fun k hv _ => ?_), fun i hi => ?_⟩
  · have h2 := (hm.congr (g := fun k => (P.ch.lookup k).map fun _ => tch k) (fun x => by
      by_cases e : x = 0
      · rw [e, if_pos rfl, hl0]; rfl
      · rw [if_neg e, hlk x e])).tight (L := P.ch.map (·.1)) (keys_lt hs) (fun x => by rw [mem_keys]; cases P.ch.lookup x <;> simp)
    rwa [List.length_map] at h2
  · have hk0 : k ≠ 0 := by
      rintro rfl
      rw [hl0] at hk; cases hk
    have hb := h.cb k c ((hlk k hk0).trans hk)
    obtain ⟨cs, hc1, _⟩ := hb
    exact (h.cb k c ((hlk k hk0).trans hk)).heap (nem hc1)
  · obtain ⟨cs, hc1, _⟩ := h.lb k hk
    exact (h.lb k hk).heap (nem hc1)
  · obtain ⟨cs, hc⟩ := h.rb k hv
    exact nem hc
  · obtain ⟨cs, hc⟩ := h.rb i hi
    exact ⟨cs, (nem hc).trans hc⟩
theorem writes_mid {w5 wr w7 : World} {h : HdP} {ch : List (Nat × List UInt8)} {i no N g7 cc : Nat} {b : List UInt8} {A : Option Addr} (hq : ((0, hdB h) :: ch)[i]? = some (no, b)) (hb : b.length ≤ 508) (_hi : i < N) (hx : PX wr w5.heap.size (.slice A i cc) ((batP h ch).take i)) (h5 : Below w5.heap.size w5 wr)
    (k7 : Bk w7 g7 139 (bys (sealB (no : Int) b)).toArray) (l7 : wr.heap.size ≤ g7) (b7 : Below wr.heap.size wr w7) :
    ∃ vs, (w7.alloc (.cells #[.int .i64 (no : Int), .slice (some ⟨g7, 0, none⟩) 512 512] 122)).ownsRow w5.heap.size 122 2 (.slice A i cc) i (pcells (wls ((batP h ch).take i)) vs) ∧
      Below w5.heap.size w5 (w7.alloc (.cells #[.int .i64 (no : Int), .slice (some ⟨g7, 0, none⟩) 512 512] 122)) ∧ i ≤ ch.length ∧
      ∀ v8 w8, w8.ownsRow w5.heap.size 122 2 v8 (i + 1) (pcells (wls ((batP h ch).take i)) vs ++ [.int .i64 (no : Int), .slice (some ⟨g7, 0, none⟩) 512 512]) → (w7.alloc (.cells #[.int .i64 (no : Int), .slice (some ⟨g7, 0, none⟩) 512 512] 122)).grownBy w8 (Value.slice A i cc).ownBlock →
        (v8.ownBlock = (Value.slice A i cc).ownBlock ∨ v8.ownBlock = some (w7.alloc (.cells #[.int .i64 (no : Int), .slice (some ⟨g7, 0, none⟩) 512 512] 122)).heap.size) → PX w8 w5.heap.size v8 ((batP h ch).take (i + 1)) := by
  have hlt : i < ch.length + 1 := by have := (List.getElem?_eq_some_iff.1 hq).1; simpa using this
  have hbt : (batP h ch)[i]? = some (no, sealB (no : Int) b) := by unfold batP; rw [List.getElem?_map, hq]; rfl
  have hlen : ((batP h ch).take i).length = i := by
    rw [List.length_take]; unfold batP; simp; omega
  have hz5 := h5.size
  have hz7 := b7.size
  have hA7 : Below wr.heap.size wr (w7.alloc (.cells #[.int .i64 (no : Int), .slice (some ⟨g7, 0, none⟩) 512 512] 122)) := b7.alloc hz7 _
  obtain ⟨vs, v1, v2, v3⟩ := hx.below hA7
  rw [hlen] at v2
  refine ⟨vs, v2, h5.trans (hA7.mono hz5), by omega, fun v8 w8 o8 g8 x8 => ?_⟩
  rw [take_step hbt]
  have hs := sealB_len (no : Int) b hb
  have hgv : (Value.slice A i cc).ownBlock ≠ some g7 := by
    intro e
    obtain ⟨vs0, _, u2, _⟩ := hx
    have := u2.lt g7 e
    omega
  refine PX.app (g := g7) (c := 512) vs v1 v3 no _ (by omega) (by unfold maxLen; decide) (by omega) (by have := k7.lt; simp; omega) hgv ((rs_bk k7).heap (Below.heap_alloc w7 _ g7 k7.lt)) ?_ g8 x8
  rw [hlen, hs]; exact o8
set_option maxHeartbeats 4000000 in
set_option maxRecDepth 100000 in
theorem writes_any (f p mch mcl : Nat) (nm : ByteArray) (P : PgP) (tch tcl : Nat → SlT) (vrow : Value) (w : World) (h : PgM w f p nm P mch mcl tch tcl vrow) (hok : P.Ok) (hr8 : P.now.roots.length = 8) :
    Calls Tryz.prog 68 #[.pointer (some ⟨p, 0, none⟩)] w fun e w' => ∃ A n c tch2, e = .returned (.slice A n c) ∧ n ≤ c ∧ c ≤ maxLen ∧ RdWr w' (fun i => w.heap.size ≤ i) A n (batP P.now P.ch) ∧ PgM w' f p nm P mch mcl tch2 tcl vrow ∧ (∀ k, k ≠ 0 → tch2 k = tch k) ∧ Ch (fun i => i = mch) w w' := by
  have HL := Lib.hid (pgC_now h.hd)
  have HB := Lib.hid (hbytes_any P.now w hr8)
  have hk0 : ∀ q ∈ P.ch, 1 ≤ q.1 := fun q hq => (hok.chb q hq).1
  have HCg := Lib.hid (fun w2 A2 c2 (ho : w2.ownsRow w.heap.size 5 1 (.slice A2 44 c2) 44 (bys (hdB P.now))) (hb : Below w.heap.size w w2) => by
    have := change_any f p mch mcl 0 44 c2 nm P tch tcl vrow A2 (hdB P.now) w2 (h.below hb) hok.srt (by have := hok.len; omega) (Rd.of_own ho) (by omega) (by omega) (by omega)
    rw [putK_zero hk0, show ((0 : Nat) : Int) = 0 from rfl] at this
    exact this)
  have HH := Lib.hid (And.intro hok (And.intro hr8 hk0))
  clear h hok hr8 hk0
  go_enter Tryz.func68, Tryz.ntmps68
  go_wp2_with (first
    | (with_reducible refine at_load 65 ?_; go_loud ((apply op_ldH p 2 P.now HL.out); (case hx => kernel_rfl); try go_frame))
    | (go_at_call 46; with_reducible refine HB.out.mono ?_; rintro e w2 ⟨A2, c2, rfl, o2, b2⟩; have HC := HCg.out w2 A2 c2 o2 b2; replace HC := Lib.hid HC; replace b2 := Lib.hid b2; clear o2))
  with_reducible refine HC.out.mono ?_
  rintro e w3 ⟨rfl, t, k1, k2, k3⟩
  have c22 : w3.cell? ⟨p, 22, none⟩ = some (.map (some mch)) := k1.hd.cell 22
  have hlen : ((0, hdB P.now) :: P.ch).length ≤ 100000 := by have := HH.out.1.len; simp only [List.length_cons]; omega
  have hsrt : ((0, hdB P.now) :: P.ch).Pairwise fun p q => p.1 < q.1 := by rw [← putK_zero HH.out.2.2]; exact sorted_putK 0 _ _ HH.out.1.srt
  have HK := Lib.hid (fun W => (callsIn_wide.1 (keys_fnI (some mch) W) : Calls Tryz.prog _ _ W _))
  have hS := sorted_two mch _ _ (((0, hdB P.now) :: P.ch).map (·.1)) w3 k1.ch (keys_lt hsrt) (fun x => by rw [mem_keys]; show _ ↔ (Option.map _ (((0, hdB P.now) :: P.ch).lookup x)).isSome = true; cases ((0, hdB P.now) :: P.ch).lookup x <;> simp) (by show ((0, hdB P.now) :: P.ch).length ≤ _; omega)
  obtain ⟨N, hN⟩ : ∃ N, N = (((0, hdB P.now) :: P.ch).map (·.1)).length := ⟨_, rfl⟩
  rw [← hN] at hS
  have HS := Lib.hid hS
  have hNb : N ≤ 100000 := by rw [hN, List.length_map]; exact hlen
  have H3 := Lib.hid (And.intro k1 (And.intro k2 (And.intro k3 (And.intro hlen (And.intro hsrt hN)))))
  clear k1 k2 k3 hlen hsrt hS hN
  go_wp2_with fail
  with_reducible refine (HK.out _).mono ?_
  rintro e w4 ⟨rfl, hw4⟩; subst hw4
  go_wp2_with fail
  with_reducible refine HS.out.mono ?_
  rintro e w5 ⟨A5, c5, rfl, g1, g2, g3, g4⟩
  have H5 := Lib.hid (And.intro g1 (And.intro g2 (And.intro (Rd.of_own g3) g4)))
  clear g1 g2 g3 g4
  go_wp2_with fail
  go_loopw [3, 22] (fun s3 s22 wr => ∃ (i : Nat) (A : Option Addr) (cc : Nat), s22 = .int .i64 (i : Int) ∧ s3 = .slice A i cc ∧ i ≤ N ∧ Hid (PX wr w5.heap.size (.slice A i cc) ((batP P.now P.ch).take i) ∧ Below w5.heap.size w5 wr)) (fun _ s22 _ => N - (intOf s22).toNat)
  case atStart => exact ⟨0, none, 0, rfl, rfl, Nat.zero_le _, Lib.hid ⟨PX.nil_ _ _, Below.refl _ _⟩⟩
  case round =>
    obtain ⟨i, A, cc, rfl, rfl, hi, HI⟩ := hrel
    have hb5 := HI.out.2
    have k1 := H3.out.1
    have hW5 : Below w3.heap.size w3 w5 := H5.out.2.2.2
    have hb3 : Below w3.heap.size w3 wr := hW5.trans (hb5.mono hW5.size)
    have hMr := k1.below hb3
    have d22 : wr.cell? ⟨p, 22, none⟩ = some (.map (some mch)) := hMr.hd.cell 22
    have hmm : Rd wr wr.heap.size 1 A5 N (its (natI (((0, hdB P.now) :: P.ch).map (·.1)))) := (H5.out.2.2.1.below hb5 (Nat.le_refl _)).more hb5.size
    by_cases hlt : i < N
    · have hN := H3.out.2.2.2.2.2
      have hiL : i < ((0, hdB P.now) :: P.ch).length := by rw [List.length_map] at hN; omega
      obtain ⟨⟨no, b⟩, hq⟩ : ∃ q, ((0, hdB P.now) :: P.ch)[i]? = some q := ⟨_, List.getElem?_eq_getElem hiL⟩
      obtain ⟨g5, o5, rfl, hg5, hc5⟩ := hmm.2 (by omega)
      have d1 : wr.cell? ⟨g5, o5 + i, none⟩ = some (.int .i64 (no : Int)) := by
        have := hc5 i (.int .i64 (no : Int)) (by unfold its natI; rw [List.getElem?_map, List.getElem?_map, List.getElem?_map, hq]; rfl)
        exact this
      have hqm := List.mem_of_getElem? hq
      have hno : no < 65536 := by
        rcases List.mem_cons.1 hqm with e | e
        · injection e with e _; omega
        · exact (HH.out.1.chb _ e).2.1
      have hbl : b.length ≤ 508 ∧ 0 < b.length := by
        rcases List.mem_cons.1 hqm with e | e
        · injection e with _ e; rw [e, hdB_len HH.out.2.1]; omega
        · rw [(HH.out.1.chb _ e).2.2]; omega
      have hlk : ((0, hdB P.now) :: P.ch).lookup no = some b := lookup_at H3.out.2.2.2.2.1 hqm
      have hlook := hMr.ch.look (k := no) (by omega) (t := if no = 0 then t else tch no) (by show Option.map _ (((0, hdB P.now) :: P.ch).lookup no) = _; rw [hlk]; rfl)
      obtain ⟨T, hT⟩ : ∃ T, T = (if no = 0 then t else tch no) := ⟨_, rfl⟩
      rw [← hT] at hlook
      have hPB := hMr.cb no b hlk
      rw [← hT] at hPB
      obtain ⟨r1, r2, r3, r4⟩ := hPB.rd
      obtain ⟨gT, nT, cT⟩ := T
      dsimp only at r1 r2 r3 r4
      unfold slV at hlook
      dsimp only at hlook
      have HSe := Lib.hid (pseal_ok (no : Int) _ nT cT b wr (by exact r1) r3 (by simp [fitsB]; omega) (by omega) (by omega))
      have HJ := Lib.hid (And.intro hq (And.intro hbl (And.intro hno (And.intro hb3 hlt))))
      clear hb5 k1 hW5 hb3 hMr hmm hN hiL hq hg5 hc5 hqm hno hbl hlk hT hPB r1 r2 r3 r4
      go_wp2_with (first
        | (go_at_call 97; with_reducible refine HSe.out.mono ?_; rintro e w7 ⟨g7, rfl, k7, l7, b7⟩; have HX7 := writes_mid (no := no) (b := b) HJ.out.1 HJ.out.2.1.1 HJ.out.2.2.2.2 HI.out.1 HI.out.2 k7 l7 b7; obtain ⟨vs, HX7⟩ := HX7; replace HX7 := Lib.hid HX7; clear k7 l7; replace b7 := Lib.hid b7)
        | (with_reducible refine at_append ?_; go_loud ((apply ap_wr (c := 1) (base := w5.heap.size) (w0 := w5) HX7.out.1 (wpair w7 (.int .i64 (no : Int)) (.slice (some ⟨g7, 0, none⟩) 512 512)) HX7.out.2.1 HX7.out.2.1.size (by have := HX7.out.2.2.1; have := HH.out.1.len; omega)); (case hs => kernel_rfl); (case hx => kernel_rfl); (case hw => kernel_rfl); intro v8 w8 o8 b8 g8 x8; obtain ⟨A8, c8, hv8, _, _⟩ := own_form o8; have HX8 := HX7.out.2.2.2 v8 w8 o8 g8 x8; replace HX8 := Lib.hid (And.intro HX8 b8); clear o8 b8 g8 x8; subst hv8; try go_frame)))
      go_roundw
      case rel => exact ⟨i + 1, A8, c8, by rfl, by rfl, by have := HJ.out.2.2.2.2; omega, HX8⟩
      case measure => have := HJ.out.2.2.2.2; simp [intOf]; omega
    · have hin : N = i := by omega
      have hPX := HI.out.1
      rw [List.take_of_length_le (by have := H3.out.2.2.2.2.2; unfold batP; simp at this ⊢; omega)] at hPX
      have HM := Lib.hid hMr
      have HE := Lib.hid (And.intro hPX hb3)
      clear hlt hPX hMr hb5 k1 hW5 hb3 hmm
      go_wp2_with (with_reducible refine at_delete ?_; go_loud ((apply op_delI (k := 0) HM.out.ch (by omega)); (case hm => kernel_rfl); (case hs => kernel_rfl); (case hw => kernel_rfl); intro w9 m9 g9; have h9 := HM.out.unch HH.out.1.srt HH.out.2.2 m9 g9; replace h9 := Lib.hid h9; replace g9 := Lib.hid g9; clear m9; try go_frame))
      go_ret
      obtain ⟨hPX, hb3⟩ := HE.out
      have hm := H3.out.1
      have hz3 := H3.out.2.2.1.size
      have hz5 := H5.out.2.2.2.size
      have hzb := b2.out.size
      obtain ⟨A9, c9, hv, hc1, hc2⟩ := hPX.own
      have hbl : (batP P.now P.ch).length = i := by have := H3.out.2.2.2.2.2; unfold batP; simp at this ⊢; omega
      injection hv with e1 e2 e3
      subst e1 e3
      have hrd := hPX.rd (n := i) (by rw [← hin]; exact hbl.trans hin.symm)
      refine ⟨A, i, cc, _, rfl, by omega, hc2, (hrd.heap g9.out.size (fun k hk hl => g9.out.block k hl ?_)).mono ?_, h9.out, fun k hk => if_neg hk, ?_⟩
      · have hml := hm.ch.lt
        intro e
        injection e with e
        omega
      · have hzc := H3.out.2.2.1.size
        intro k hk _
        omega
      · refine (((Ch.of_below b2.out (Nat.le_refl _)).trans H3.out.2.2.1 (fun i hi => .inl hi)).trans (Ch.of_below (S := fun _ => False) hb3 (Nat.le_refl _)) (fun i hi => hi.elim)).grown g9.out (fun i hi => ?_)
        injection hi with hi
        exact .inl hi.symm
end Go.Proofs.YtoadamkmabkldaaGreatDoor
