/- Maps of pages in memory: numbers to slices. -/
import Derived.Test.YtoadamkmabkldaaGreatDoorJn14
import Derived.Lib.SlKeysI
import Derived.Test.YtoadamkmabkldaaGreatDoorJn04
import Derived.Test.YtoadamkmabkldaaGreatDoorJn13
import Derived.Test.YtoadamkmabkldaaGreatDoorJn01
import Derived.ArgAppend
set_option linter.unusedVariables false
set_option linter.unusedSimpArgs false
namespace Go.Proofs.YtoadamkmabkldaaGreatDoor
open Go.RowKit
open Go.Maps (Keyed)
open Go.Sort

/-- A slice: its block, its length, its room. -/
abbrev SlT := Nat × Nat × Nat
def slV (t : SlT) : Value := .slice (some ⟨t.1, 0, none⟩) t.2.1 t.2.2
def encT (t : SlT) : DataW Unit := .agg [.lit (.int .i64 (t.1 : Int)), .lit (.int .i64 (t.2.1 : Int)), .lit (.int .i64 (t.2.2 : Int))]
/-- How a slice reads: by where it lies. -/
def slR (v : Value) : Option (DataW Unit × List MemPlace) :=
  match v with
  | .slice none 0 0 => some (.agg [], [])
  | .slice (some ⟨b, 0, none⟩) n c => some (encT (b, n, c), [])
  | _ => none
theorem slR_some (t : SlT) : slR (slV t) = some (encT t, []) := rfl
theorem slR_inv {v : Value} {d : DataW Unit} {ps : List MemPlace} (h : slR v = some (d, ps)) : (v = .slice none 0 0 ∧ d = .agg []) ∨ ∃ t, v = slV t ∧ d = encT t := by
  unfold slR at h
  split at h
  · left; simp at h; exact ⟨rfl, h.1.symm⟩
  · right; simp at h; exact ⟨_, rfl, h.1.symm⟩
  · cases h
theorem encT_inj {t u : SlT} (h : encT t = encT u) : t = u := by
  unfold encT at h
  simp only [DataW.agg.injEq, List.cons.injEq, DataW.lit.injEq, Lit.int.injEq, true_and, and_true] at h
  obtain ⟨h1, h2, h3⟩ := h
  obtain ⟨a, b, c⟩ := t
  obtain ⟨a', b', c'⟩ := u
  simp only at h1 h2 h3
  rw [show a = a' by omega, show b = b' by omega, show c = c' by omega]
theorem slR_at {v : Value} {t : SlT} {ps : List MemPlace} (h : slR v = some (encT t, ps)) : v = slV t := by
  rcases slR_inv h with ⟨rfl, e⟩ | ⟨u, rfl, e⟩
  · simp [encT] at e
  · rw [encT_inj e]
theorem slR_nil {v : Value} {ps : List MemPlace} (h : slR v = some (.agg [], ps)) : v = .slice none 0 0 := by
  rcases slR_inv h with ⟨rfl, e⟩ | ⟨u, rfl, e⟩
  · rfl
  · simp [encT] at e
theorem lawI : Keyed Tryz.prog 3 := Maps.int_keyed Tryz.underlying3
theorem wfI {k : Nat} (h : k ≤ 9223372036854775807) : keyOf Tryz.prog 3 (.int .i64 (k : Int)) = some (.int .i64 (k : Int)) := Maps.keyOf_int_mk Tryz.underlying3 (WalkArith.wf_i64 (by omega))
theorem zeroSl (w : World) : (zeroValue 22).run Tryz.prog w = .ok (.slice none 0 0) w := by kernel_rfl
/-- A map of pages: where each one lies. -/
def MapI (W : World) (m n : Nat) (f : Nat → Option SlT) : Prop :=
  ∃ D : DataW Unit, W.ownsMap Tryz.prog 3 slR m n D ∧ (∀ k : Nat, Maps.has D (.int .i64 (k : Int)) = (f k).isSome) ∧ (∀ (k : Nat) t, f k = some t → ∀ z, D.atKey (.int .i64 (k : Int)) z = encT t) ∧ ∀ z : Int, Maps.has D (.int .i64 z) = true → 0 ≤ z
section
variable {w w' : World} {m n : Nat} {f g : Nat → Option SlT}
theorem MapI.new (w : World) : MapI (w.alloc (.map #[] 0)) w.heap.size 0 (fun _ => none) := ⟨.map [], World.ownsMap_made _ _ _ _, fun _ => rfl, fun _ _ h => (by cases h), fun _ h => (by cases h)⟩
theorem MapI.mono (h : MapI w m n f) {n' : Nat} (hn : n ≤ n') : MapI w m n' f := by obtain ⟨D, h1, h2⟩ := h; exact ⟨D, h1.mono hn, h2⟩
theorem MapI.lt (h : MapI w m n f) : m < w.heap.size := by obtain ⟨D, h1, _⟩ := h; exact h1.lt
theorem MapI.heap (h : MapI w m n f) (hw : w'.heap[m]? = w.heap[m]?) : MapI w' m n f := by
  obtain ⟨D, ⟨es, cl, hb, r⟩, h2⟩ := h; exact ⟨D, ⟨es, cl, hw.trans hb, r⟩, h2⟩
theorem MapI.congr (h : MapI w m n f) (e : ∀ s, g s = f s) : MapI w m n g := by
  have : g = f := funext e
  rw [this]; exact h
theorem MapI.ne {b : Nat} {cs : Array Value} {t : TypeId} (h : MapI w m n f) (hg : Bk w b t cs) : m ≠ b := by
  obtain ⟨D, ⟨es, cl, hb, _⟩, _⟩ := h
  rintro rfl
  unfold Bk at hg
  rw [hb] at hg; cases hg
theorem lit_ne {k j : Nat} (h : k ≠ j) : (Lit.int .i64 (k : Int)) ≠ .int .i64 (j : Int) := by
  intro e; injection e with _ e; omega
/-- m[k] -/
theorem MapI.look (h : MapI w m n f) {k : Nat} (hk : k ≤ 9223372036854775807) {t : SlT} (ht : f k = some t) :
    (Instr.lookup 62 (.map (some m)) (.int .i64 (k : Int)) false).run Tryz.prog w = .ok (slV t) w := by
  obtain ⟨D, h1, h2, h3, _⟩ := h
  obtain ⟨v, ps, hrun, hv⟩ := h1.lookup lawI Tryz.underlying62 (zeroSl w) (zd := .agg []) (zp := []) rfl (wfI hk)
  rw [hrun]
  rw [h3 _ _ ht] at hv
  rw [slR_at hv]
/-- v, is := m[k] -/
theorem MapI.look_ok (h : MapI w m n f) {k : Nat} (hk : k ≤ 9223372036854775807) :
    (Instr.lookup 62 (.map (some m)) (.int .i64 (k : Int)) true).run Tryz.prog w = .ok (.tuple #[match f k with | none => .slice none 0 0 | some t => slV t, .bool (f k).isSome]) w := by
  obtain ⟨D, h1, h2, h3, _⟩ := h
  obtain ⟨v, ps, hrun, hv⟩ := h1.look_ok lawI Tryz.underlying62 (zeroSl w) (zd := .agg []) (zp := []) rfl (wfI hk)
  rw [hrun, h2]
  cases hf : f k with
  | none =>
    have h4 := h2 k
    rw [hf] at h4
    rw [Maps.atKey_of_not_has h4] at hv
    rw [slR_nil hv]
  | some t =>
    rw [h3 _ _ hf] at hv
    rw [slR_at hv]
/-- m[k] = t -/
theorem MapI.put (h : MapI w m n f) {k : Nat} (hk : k ≤ 9223372036854775807) (hn : n ≤ 1000000) (t : SlT) :
    ∃ w', (Instr.mapUpdate 62 (.map (some m)) (.int .i64 (k : Int)) (slV t)).run Tryz.prog w = .ok () w' ∧ MapI w' m (n + 1) (fun x => if x = k then some t else f x) ∧ w.grownBy w' (some m) := by
  obtain ⟨D, h1, h2, h3, h4⟩ := h
  obtain ⟨w', hrun, h5, h6⟩ := h1.update lawI Tryz.underlying62 (Nat.lt_of_le_of_lt hn (by unfold maxLen; decide)) (wfI hk) (slR_some t)
  have hlit := lawI.key (wfI hk)
  have hM : Maps.IsMap D := h1.isMap
  refine ⟨w', hrun, ⟨_, h5, fun x => ?_, fun x v hv z => ?_, fun z hz => ?_⟩, h6⟩
  · dsimp only
    by_cases hx : x = k
    · rw [if_pos hx, hx]; exact Maps.has_put_same hM hlit _
    · rw [if_neg hx, Maps.has_put_other (lit_ne hx)]; exact h2 x
  · dsimp only at hv
    by_cases hx : x = k
    · rw [if_pos hx] at hv; rw [← Option.some.inj hv, hx]; exact Maps.atKey_put_same hM hlit _ _
    · rw [if_neg hx] at hv; rw [Maps.atKey_put_other (lit_ne hx)]; exact h3 x v hv z
  · by_cases hx : z = (k : Int)
    · omega
    · rw [Maps.has_put_other (by intro e; injection e with _ e; exact hx e)] at hz
      exact h4 z hz
/-- delete(m, k) -/
theorem MapI.del (h : MapI w m n f) {k : Nat} (hk : k ≤ 9223372036854775807) (ty : TypeId) :
    ∃ w', (Builtin.delete_ #[62, 3] ty #[.map (some m), .int .i64 (k : Int)]).run Tryz.prog w = .ok (.tuple #[]) w' ∧ MapI w' m n (fun x => if x = k then none else f x) ∧ w.grownBy w' (some m) := by
  obtain ⟨D, h1, h2, h3, h4⟩ := h
  obtain ⟨w', hrun, h5, h6⟩ := h1.drop lawI Tryz.underlying62 (wfI hk) ty
  refine ⟨w', hrun, ⟨_, h5, fun x => ?_, fun x v hv z => ?_, fun z hz => ?_⟩, h6.grown⟩
  · dsimp only
    by_cases hx : x = k
    · rw [if_pos hx, hx]; exact Maps.has_del_same
    · rw [if_neg hx, Maps.has_del_other (lit_ne hx)]; exact h2 x
  · dsimp only at hv
    by_cases hx : x = k
    · rw [if_pos hx] at hv; cases hv
    · rw [if_neg hx] at hv; rw [Maps.atKey_del_other (lit_ne hx)]; exact h3 x v hv z
  · by_cases hx : z = (k : Int)
    · omega
    · rw [Maps.has_del_other (by intro e; injection e with _ e; exact hx e)] at hz
      exact h4 z hz
/-- clear(m) -/
theorem MapI.clr (h : MapI w m n f) (ty : TypeId) :
    ∃ w', (Builtin.clear_ #[62] ty #[.map (some m)]).run Tryz.prog w = .ok (.tuple #[]) w' ∧ MapI w' m 0 (fun _ => none) ∧ w.grownBy w' (some m) := by
  obtain ⟨D, ⟨es, cl, hb, F, r⟩, _⟩ := h
  refine ⟨ChangeMaps.setBlock w m (.map #[] cl), ?_, ⟨.map [], ⟨#[], cl, ChangeMaps.heap_setBlock_same hb _, ⟨by simp, MapKept.stamped_empty cl, by simp⟩, Nat.le_refl _, rfl⟩, fun _ => rfl, fun _ _ h => (by cases h), fun _ h => (by cases h)⟩, World.mapTurned.grown ⟨es, cl, #[], cl, hb, rfl⟩⟩
  simp [Builtin.clear_, run_underlying Tryz.underlying62, MapKept.run_getObj_map hb, MapKept.run_setObj_map _ hb, Result.andThen, ChangeMaps.setBlock]
/-- len(m) -/
theorem MapI.len (h : MapI w m n f) (ty : TypeId) : ∃ k : Nat, (Builtin.len_ #[62] ty #[.map (some m)]).run Tryz.prog w = .ok (.int .i64 (k : Int)) w ∧ (k = 0 ↔ ∀ x, f x = none) ∧ k ≤ n := by
  obtain ⟨D, h1, h2, h3, h4⟩ := h
  refine ⟨Maps.size D, h1.len Tryz.underlying62 ty, ?_, h1.size_le⟩
  obtain ⟨es, rfl, hko⟩ := h1.keysOf
  constructor
  · intro e x
    have : es = [] := List.eq_nil_of_length_eq_zero e
    subst this
    have := h2 x
    cases hf : f x with
    | none => rfl
    | some t => rw [hf] at this; cases this
  · intro e
    cases es with
    | nil => rfl
    | cons p r =>
      obtain ⟨v, hv⟩ := hko p (List.mem_cons_self ..)
      obtain ⟨z, _, hz, _⟩ := Maps.keyOf_i64 Tryz.underlying3 hv
      have hh : Maps.has (DataW.map (p :: r)) (.int .i64 z) = true := by
        rw [Maps.has_eq, List.any_cons, hz]
        simp [Lit.sameKey]
      have h0 := h4 z hh
      have := h2 z.toNat
      rw [show ((z.toNat : Nat) : Int) = z by omega, hh, e] at this
      cases this
end
end Go.Proofs.YtoadamkmabkldaaGreatDoor
/- The numbers of a map of pages, in order. -/
namespace Go.Proofs.YtoadamkmabkldaaGreatDoor
open Go.RowKit Go.Maps Go.Sort Go.Shelf
attribute [local go_sem ↓] Go.wp_at_zero Go.wp_at_succ

theorem sorts_fnI (m : Nat) : AnyZI.SortsIn Tryz.prog Tryz.sortedI_ren Fence.wide m :=
  ⟨fun blk off cap ss W hH hblk hsz => callsIn_wide.2 (AnyM.slices_Sort_int Tryz.sortI blk off cap ss W hH hblk hsz),
   fun p cap W => callsIn_wide.2 (AnyM.slices_Sort_int_none Tryz.sortI p cap W)⟩
theorem keys_fnI (mb : Option Nat) (W : World) : CallsIn Fence.wide 5 Tryz.prog 96 #[.map mb] W fun e w' => e = .returned (.func (.func 110) #[] #[.pointer (some ⟨W.heap.size, 0, none⟩)]) ∧ w' = W.alloc (.cells #[.map mb] 62) :=
  AnyZI.keys_in Tryz.keysI Fence.wide 5 trivial rfl mb W
set_option maxHeartbeats 1000000 in
theorem sortedKeysI_any {H : Type} (b nn : Nat) (D0 : DataW H) (R : Value → Option (DataW H × List MemPlace)) (w : World) (hown : w.ownsMap Tryz.prog 3 R b nn D0) (hmax : Maps.size D0 ≤ maxLen) (hbytes : Maps.size D0 * 8 ≤ 140737488355328) :
    CallsIn Fence.wide 5 Tryz.prog 95 #[.func (.func 110) #[] #[.pointer (some ⟨w.heap.size, 0, none⟩)]] (w.alloc (.cells #[.map (some b)] 62)) fun e w' => ∃ (v : Value) (ss : List Int), e = .returned v ∧ ss.Perm (intKeys D0) ∧
      w'.ownsRow (w.alloc (.cells #[.map (some b)] 62)).heap.size 3 1 v ss.length ((ss.mergeSort (fun x y => decide (x ≤ y))).map encZ) ∧ (v = .slice none 0 0 ↔ ss = []) ∧ Below (w.alloc (.cells #[.map (some b)] 62)).heap.size (w.alloc (.cells #[.map (some b)] 62)) w' := by
  have hbl := hown.lt
  have hseq : SeqGives Fence.wide 2 Tryz.prog 110 #[.pointer (some ⟨w.heap.size, 0, none⟩)] encZ (fun ss => ss.Perm (intKeys D0)) (Maps.size D0) (w.alloc (.cells #[.map (some b)] 62)) :=
    AnyZI.keys_gives (ρ := Tryz.keysI_ren) { Tryz.keysI with } Fence.wide _ trivial rfl (by omega) w.heap.size b nn D0 _ (by simp) (by simp) (by
      obtain ⟨es, clock, hb, Ft, hs, hD⟩ := hown
      exact ⟨es, clock, (Below.heap_alloc _ _ b hbl).trans hb, Ft, hs, hD⟩)
  exact AnyZI.sorted_in Tryz.sortedI Fence.wide 5 trivial trivial trivial trivial rfl (by omega) (sorts_fnI _) (enters_of Tryz.func109 (by kernel_rfl) rfl) 110 #[.pointer (some ⟨w.heap.size, 0, none⟩)] trivial (enters_of Tryz.func110 (by kernel_rfl) rfl) _ _ hmax hbytes _ hseq
theorem natI_sorted {L : List Nat} (h : L.Pairwise (· < ·)) {ss : List Int} (hp : ss.Perm (natI L)) : ss.mergeSort (fun x y => decide (x ≤ y)) = natI L := by
  have e : ss.mergeSort leI = (natI L).mergeSort leI := mergeSort_of_perm_i hp
  have e2 : (natI L).mergeSort leI = natI L := List.mergeSort_of_pairwise (by
    unfold natI
    rw [List.pairwise_map]
    exact h.imp (fun hlt => by show decide _ = true; rw [decide_eq_true_eq]; omega))
  exact e.trans e2
theorem MapI.keys {w : World} {m n : Nat} {f : Nat → Option SlT} (h : MapI w m n f) {L : List Nat} (hL : L.Pairwise (· < ·)) (hf : ∀ x, x ∈ L ↔ (f x).isSome = true) :
    ∃ D : DataW Unit, w.ownsMap Tryz.prog 3 slR m n D ∧ (natI L).Perm (intKeys D) := by
  obtain ⟨D, h1, h2, h3, h4⟩ := h
  refine ⟨D, h1, CollectedI.perm (left := fun _ => false) ⟨?_, fun x => ?_⟩ h1 lawI Tryz.underlying3 (fun _ => rfl)⟩
  · unfold natI
    rw [List.nodup_iff_pairwise_ne, List.pairwise_map]
    exact hL.imp (fun hlt => by omega)
  · constructor
    · intro hx
      unfold natI at hx
      obtain ⟨k, hk, rfl⟩ := List.mem_map.1 hx
      exact ⟨by rw [h2]; exact (hf k).1 hk, rfl⟩
    · rintro ⟨hx, _⟩
      have h0 := h4 x hx
      unfold natI
      have e : ((x.toNat : Nat) : Int) = x := by omega
      rw [← e, h2] at hx
      exact List.mem_map.2 ⟨x.toNat, (hf _).2 hx, e⟩
/-- slices.Sorted(maps.Keys(m)): its two calls. -/
theorem sorted_two (m n : Nat) (f : Nat → Option SlT) (L : List Nat) (w : World) (h : MapI w m n f) (hL : L.Pairwise (· < ·)) (hf : ∀ x, x ∈ L ↔ (f x).isSome = true) (hn : n ≤ 1000000) :
    Calls Tryz.prog 95 #[.func (.func 110) #[] #[.pointer (some ⟨w.heap.size, 0, none⟩)]] (w.alloc (.cells #[.map (some m)] 62)) fun e w' => ∃ A c, e = .returned (.slice A L.length c) ∧ L.length ≤ c ∧ c ≤ maxLen ∧ w'.ownsRow w.heap.size 3 1 (.slice A L.length c) L.length (its (natI L)) ∧ Below w.heap.size w w' := by
  obtain ⟨D, h1, h2⟩ := h.keys hL hf
  have hsz := h1.size_le
  refine (callsIn_wide.1 (sortedKeysI_any m n D slR w h1 (Nat.le_trans hsz (Nat.le_trans hn (by unfold maxLen; decide))) (by omega))).mono ?_
  rintro e w' ⟨v, ss, rfl, hp, ho, _, hb⟩
  have hs := natI_sorted hL (hp.trans h2.symm)
  have hl : ss.length = L.length := by
    have := (hp.trans h2.symm).length_eq
    simpa [natI] using this
  rw [hs, hl] at ho
  obtain ⟨A, c, rfl, c1, c2⟩ := own_form ho
  exact ⟨A, c, rfl, c1, c2, own_base ho (by simp), ((Below.refl _ _).alloc (Nat.le_refl _) _).trans (hb.mono (by simp))⟩
end Go.Proofs.YtoadamkmabkldaaGreatDoor
/- append of ints, at this program's types. -/
namespace Go.Proofs.YtoadamkmabkldaaGreatDoor
open Go.RowKit

theorem infoI : (Tryz.prog.info? 3).map (fun i => (i.zero, i.size, i.bytes)) = some (some (.int .i64 0), 1, 8) := by kernel_rfl

/-- append of ints, at this program. -/
theorem ap_its {w w0 : World} {ops : Array Oper} {rest : List Oper} {a : Act} {Q : Exit → Act → World → Prop} {d : Option Tmp} {ty : TypeId} {pos : String} {af : Array Edge} {g : Option (Nat × Bool)} {s x : Operand} {base : Nat}
    {v : Value} {n : Nat} {xs : List Int} (hown : w.ownsRow base 3 1 v n (its xs))
    {B : Nat} {A : Option Addr} {m c : Nat} {news : List Int} (hr : Rd w B 1 A m (its news))
    (hb : Below base w0 w) (hbase : base ≤ w.heap.size) (hbytes : n + m ≤ 17592186044416)
    (hs : a.eval s = v) (hx : a.eval x = .slice A m c)
    (hw : Region.wanted { dst := d, op := .call { callee := .builtin .append, args := #[s, x], argTypes := #[39, 39] }, type := ty, pos := pos, after := af, guard := g } (yielded ops a.tmps) = true)
    (h : ∀ v' w', w'.ownsRow base 3 1 v' (n + m) (its (xs ++ news)) → Below base w0 w' → w.grownBy w' v.ownBlock → (v'.ownBlock = v.ownBlock ∨ v'.ownBlock = some w.heap.size) → wpList Tryz.prog ops Q rest (a.put d v') w') :
    wpList Tryz.prog ops Q ({ dst := d, op := .call { callee := .builtin .append, args := #[s, x], argTypes := #[39, 39] }, type := ty, pos := pos, after := af, guard := g } :: rest) a w := by
  obtain ⟨i0, hi, hz0, hz1, hz2⟩ := info_parts infoI
  exact ap_any Tryz.underlying39 hi hz0 hz1 hz2 rfl (by decide) hown hr (its_one _) hb hbase (by omega) hs hx hw (fun v' w' h1 h2 h3 h4 => h v' w' (by rw [its_app]; exact h1) h2 h3 h4)
theorem Rd.icut {w : World} {B n : Nat} {A : Option Addr} {l : List Int} (h : Rd w B 1 A n (its l)) {k m : Nat} (hk : k + m ≤ n) {A' : Option Addr} (hA : 0 < m → A' = A.map (·.add k)) :
    Rd w B 1 A' m (its ((l.drop k).take m)) := by
  have := h.cut hk (A' := A') (by simpa using hA)
  simpa [its_drop, its_take] using this
/-- b[l:h] of ints, at this program. -/
theorem cut_its {w : World} {ops : Array Oper} {rest : List Oper} {a : Act} {Q : Exit → Act → World → Prop} {d : Option Tmp} {ty : TypeId} {pos : String} {af : Array Edge} {g : Option (Nat × Bool)} {s lo hi : Operand}
    {A : Option Addr} {n c B : Nat} {xs : List Int} (hr : Rd w B 1 A n (its xs)) (hnc : n ≤ c) {kl kh : IntKind} {xl xh : Int} (l m : Nat) (hc : l + m ≤ n)
    (hs : a.eval s = .slice A n c) (hl : a.eval lo = .int kl xl) (hh : a.eval hi = .int kh xh) (el : xl = l) (eh : xh = (l + m : Nat))
    (hw : Region.wanted { dst := d, op := .slice 39 s (some lo) (some hi) none, type := ty, pos := pos, after := af, guard := g } (yielded ops a.tmps) = true)
    (h : ∀ A' c', Rd w B 1 A' m (its ((xs.drop l).take m)) → m ≤ c' → c' ≤ c → wpList Tryz.prog ops Q rest (a.put d (.slice A' m c')) w) :
    wpList Tryz.prog ops Q ({ dst := d, op := .slice 39 s (some lo) (some hi) none, type := ty, pos := pos, after := af, guard := g } :: rest) a w := by
  obtain ⟨i0, hi, hz0, hz1, hz2⟩ := info_parts infoI
  exact slice_lh Tryz.underlying39 hi hz1 l m (by omega) hs hl hh el eh hw (fun A' c' h1 h2 h3 => h A' c' (hr.icut hc (fun hm => by simpa using h1 hm)) h2 h3)
end Go.Proofs.YtoadamkmabkldaaGreatDoor
/- A row of numbers that is taken from its front: the pager's row of pages that are kept. -/
namespace Go.Proofs.YtoadamkmabkldaaGreatDoor
open Go.RowKit

def nIt (l : List Nat) : List Value := its (natI l)
theorem nIt_snoc (l : List Nat) (x : Nat) : nIt (l ++ [x]) = nIt l ++ [.int .i64 (x : Int)] := by simp [nIt, natI, its]
theorem nIt_len (l : List Nat) : (nIt l).length = l.length := by simp [nIt, natI, its]
/-- A row that is taken from its front. -/
def Qu (w : World) (base : Nat) (v : Value) (q : List Nat) : Prop :=
  ∃ A n c, v = .slice (some A) n c ∧ A.block < w.heap.size ∧ q.length = n ∧ n ≤ c ∧ c ≤ maxLen ∧ (c = 0 ∨ ∃ g o cs, A = ⟨g, o, none⟩ ∧ base ≤ g ∧ Bk w g 3 cs ∧ o + c = cs.size ∧ (cs.toList.drop o).take n = nIt q)
section
variable {w w' : World} {base : Nat} {v : Value} {q : List Nat}
theorem Qu.start (w : World) (hb : base ≤ w.heap.size) (x : Nat) : Qu (w.alloc (.cells #[.int .i64 (x : Int)] 3)) base (.slice (some ⟨w.heap.size, 0, none⟩) 1 1) [x] :=
  ⟨_, 1, 1, rfl, by simp, rfl, Nat.le_refl _, by unfold maxLen; omega, .inr ⟨_, 0, _, rfl, hb, Bk.new _ _ _, rfl, rfl⟩⟩
theorem Qu.heap (h : Qu w base v q) (hz : w.heap.size ≤ w'.heap.size) (hk : ∀ k, base ≤ k → k < w.heap.size → v.ownBlock = some k → w'.heap[k]? = w.heap[k]?) : Qu w' base v q := by
  obtain ⟨A, n, c, rfl, h5, h1, h2, h3, h4⟩ := h
  refine ⟨A, n, c, rfl, by omega, h1, h2, h3, ?_⟩
  rcases h4 with h4 | ⟨g, o, cs, rfl, hg, hb, r⟩
  · exact .inl h4
  · exact .inr ⟨g, o, cs, rfl, hg, (hk g hg hb.lt rfl).trans hb, r⟩
theorem Qu.lt (h : Qu w base v q) : ∀ b, v.ownBlock = some b → b < w.heap.size := by
  obtain ⟨A, n, c, rfl, h5, _⟩ := h
  intro b hb
  simp [Value.ownBlock] at hb
  omega
theorem Qu.front {h : Nat} {r : List Nat} (H : Qu w base v (h :: r)) : ∃ g o c, v = .slice (some ⟨g, o, none⟩) (r.length + 1) (c + 1) ∧ r.length ≤ c ∧ c + 1 ≤ maxLen ∧ base ≤ g ∧ w.cell? ⟨g, o, none⟩ = some (.int .i64 (h : Int)) ∧
    Qu w base (.slice (if c = 0 then some ⟨g, o, none⟩ else some ⟨g, o + 1, none⟩) r.length c) r := by
  obtain ⟨A, n, c, rfl, h5, h1, h2, h3, h4⟩ := H
  simp only [List.length_cons] at h1
  subst h1
  obtain ⟨d, rfl⟩ : ∃ d, c = d + 1 := ⟨c - 1, by omega⟩
  rcases h4 with h4 | ⟨g, o, cs, rfl, hg, hb, hs, ht⟩
  · omega
  · have hcell : ∀ j, j < r.length + 1 → cs[o + j]? = (nIt (h :: r))[j]? := by
      intro j hj
      rw [← ht, List.getElem?_take, if_pos hj, List.getElem?_drop, Array.getElem?_toList]
    refine ⟨g, o, d, rfl, by omega, h3, hg, ?_, ?_⟩
    · have := hcell 0 (by omega)
      rw [hb.cell]; exact this
    · by_cases hd : d = 0
      · rw [if_pos hd]
        exact ⟨_, _, _, rfl, h5, rfl, by omega, by omega, .inl hd⟩
      · rw [if_neg hd]
        refine ⟨_, _, _, rfl, h5, rfl, by omega, by omega, .inr ⟨g, o + 1, cs, rfl, hg, hb, by omega, ?_⟩⟩
        have e : cs.toList.drop (o + 1) = (cs.toList.drop o).tail := by rw [List.tail_drop]
        have e2 : ((cs.toList.drop o).tail).take r.length = ((cs.toList.drop o).take (r.length + 1)).tail := by
          cases cs.toList.drop o <;> simp
        rw [e, e2, ht]; rfl
/-- One more. -/
theorem run_append_qu (H : Qu w base v q) (x : Nat) (ad : Addr) (c1 : Nat) (ty : TypeId) (hx : w.cell? (ad.add 0) = some (.int .i64 (x : Int))) (hbase : base ≤ w.heap.size) (hq : q.length ≤ 1000000) :
    ∃ v' w', (Builtin.append_ #[39, 39] ty #[v, .slice (some ad) 1 c1]).run Tryz.prog w = .ok v' w' ∧ Qu w' base v' (q ++ [x]) ∧ Below base w w' ∧ (∃ row, w.grownBy w' row ∧ ∀ b, row = some b → v.ownBlock = some b ∧ ∃ cs, Bk w b 3 cs) ∧ (v'.ownBlock = v.ownBlock ∨ ∃ g, v'.ownBlock = some g ∧ w.heap.size ≤ g) := by
  obtain ⟨i0, hi, hz0, hz1, hz2⟩ := info_parts infoI
  obtain ⟨A, n, c, rfl, h5, h1, h2, h3, h4⟩ := H
  subst h1
  have hnews : ∀ (j : Nat) (u : Value), [Value.int .i64 (x : Int)][j]? = some u → w.cell? (ad.add j) = some u := by
    intro j u hu
    match j, hu with
    | 0, hu => simp at hu; subst hu; exact hx
    | j + 1, hu => simp at hu
  by_cases hroom : q.length + 1 ≤ c
  · rcases h4 with h4 | ⟨g, o, cs, rfl, hg, hb, hs, ht⟩
    · omega
    have hcl : o + q.length < cs.size := by omega
    have hrun := run_append_room_cells (P := Tryz.prog) w 39 ty 3 i0 Tryz.underlying39 hi g o q.length c ad 1 c1 [.int .i64 (x : Int)] (by rw [hz1]; rfl) hnews (by simp [Value.oneCell']) hroom
      (fun j hj => by simp at hj; subst hj; rw [hz1, hb.cell]; simp [hcl]) (fun j hj => hb.free _)
    rw [hz1, Nat.mul_one] at hrun
    refine ⟨_, _, hrun, ?_, (Below.refl _ _).setCell (p := ⟨g, o + q.length, none⟩) hg _, ?_, .inl rfl⟩
    · refine ⟨_, _, _, rfl, by simpa [World.setCells, World.setCell] using h5, by simp, hroom, h3, .inr ⟨g, o, _, rfl, hg, hb.set (o + q.length) (.int .i64 (x : Int)), by rw [Array.size_setIfInBounds]; exact hs, ?_⟩⟩
      have hlt : ((cs.toList.drop o).take q.length).length = q.length := by simp; omega
      rw [nIt_snoc, ← ht]
      apply List.ext_getElem?
      intro j
      rw [List.getElem?_take]
      by_cases hj : j < q.length + 1
      · rw [if_pos hj, List.getElem?_drop, Array.getElem?_toList]
        by_cases e : j = q.length
        · subst e
          rw [Array.getElem?_setIfInBounds_self_of_lt hcl, List.getElem?_append_right (by omega), hlt, Nat.sub_self]; rfl
        · rw [Array.getElem?_setIfInBounds_ne (by omega), List.getElem?_append_left (by omega), List.getElem?_take, if_pos (by omega), List.getElem?_drop, Array.getElem?_toList]
      · rw [if_neg hj, List.getElem?_eq_none]
        rw [List.length_append, hlt]; simp; omega
    · exact ⟨some g, gb_set (World.grownBy.refl _ _) (o + q.length) _, fun b hb' => by injection hb' with hb'; subst hb'; exact ⟨rfl, cs, hb⟩⟩
  · obtain ⟨v', w', hrun, ho, hgr⟩ := run_append_arg_grows (P := Tryz.prog) w 39 ty 3 i0 (.int .i64 0) 1 8 Tryz.underlying39 hi hz0 hz1 hz2 rfl (by decide) A q.length c (nIt q) (by rw [nIt_len]; omega)
      (fun j u hu => by
        rcases h4 with h4 | ⟨g, o, cs, rfl, hg, hb, hs, ht⟩
        · have : q = [] := List.eq_nil_of_length_eq_zero (by omega)
          subst this; simp [nIt, natI, its] at hu
        · have hj : j < q.length := by
            rcases Nat.lt_or_ge j (nIt q).length with h | h
            · rwa [nIt_len] at h
            · rw [List.getElem?_eq_none h] at hu; cases hu
          rw [addLit, hb.cell, ← hu, ← ht, List.getElem?_take, if_pos hj, List.getElem?_drop, Array.getElem?_toList])
      ad 1 c1 [.int .i64 (x : Int)] rfl hnews (by omega) (by unfold maxLen; omega) (by omega)
    rcases ho.2 with ⟨_, h0⟩ | ⟨g, cap, cur, rfl, hbg, hcur, hnc, hcm, hcs, htk⟩
    · omega
    · refine ⟨_, _, hrun, ⟨_, _, _, rfl, (Array.getElem?_eq_some_iff.1 hcur).1, by simp, hnc, hcm, .inr ⟨g, 0, cur, rfl, by omega, hcur, by omega, ?_⟩⟩, (Below.refl _ _).grown hgr hbase (fun k hk => by cases hk), ⟨none, hgr, fun b hb => by cases hb⟩, ?_⟩
      · rw [List.drop_zero, nIt_snoc, ← htk, Nat.mul_one]
      · exact .inr ⟨g, rfl, hbg⟩
/-- .. at the operation. -/
theorem ap_qu {w0 : World} {ops : Array Oper} {rest : List Oper} {a : Act} {Q : Exit → Act → World → Prop} {d : Option Tmp} {ty : TypeId} {pos : String} {af : Array Edge} {g : Option (Nat × Bool)} {s x : Operand}
    (H : Qu w base v q) (y : Nat) (ad : Addr) (c1 : Nat) (hy : w.cell? (ad.add 0) = some (.int .i64 (y : Int))) (hbase : base ≤ w.heap.size) (hq : q.length ≤ 1000000) (hb : Below base w0 w)
    (hs : a.eval s = v) (hx : a.eval x = .slice (some ad) 1 c1)
    (hw : Region.wanted { dst := d, op := .call { callee := .builtin .append, args := #[s, x], argTypes := #[39, 39] }, type := ty, pos := pos, after := af, guard := g } (yielded ops a.tmps) = true)
    (h : ∀ v' w', Qu w' base v' (q ++ [y]) → Below base w0 w' → (∃ row, w.grownBy w' row ∧ ∀ b, row = some b → v.ownBlock = some b ∧ ∃ cs, Bk w b 3 cs) → (v'.ownBlock = v.ownBlock ∨ ∃ g, v'.ownBlock = some g ∧ w.heap.size ≤ g) → wpList Tryz.prog ops Q rest (a.put d v') w') :
    wpList Tryz.prog ops Q ({ dst := d, op := .call { callee := .builtin .append, args := #[s, x], argTypes := #[39, 39] }, type := ty, pos := pos, after := af, guard := g } :: rest) a w :=
  BigFrame.wpList_want hw fun _ hK => by
    obtain ⟨v', w', hrun, h2, hB, h3, h4⟩ := run_append_qu H y ad c1 ty hy hbase hq
    unfold Oper.wp execOp
    simp only [resolve, invoke, builtin, Sem.run_bind, Sem.run_pure, Result.andThen_ok, List.map_toArray, List.map_cons, List.map_nil, hs, hx, hrun]
    exact hK _ _ (h v' w' h2 (hb.trans hB) h3 h4)
end
/-- .. a nil one too. -/
def QuN (w : World) (base : Nat) (v : Value) (q : List Nat) : Prop := (v = .slice none 0 0 ∧ q = []) ∨ Qu w base v q
section
variable {w w' : World} {base : Nat} {v : Value} {q : List Nat}
theorem QuN.heap (h : QuN w base v q) (hz : w.heap.size ≤ w'.heap.size) (hk : ∀ k, v.ownBlock = some k → k < w.heap.size → w'.heap[k]? = w.heap[k]?) : QuN w' base v q := by
  rcases h with h | h
  · exact .inl h
  · exact .inr (h.heap hz (fun k _ hl hv => hk k hv hl))
theorem QuN.lt (h : QuN w base v q) : ∀ b, v.ownBlock = some b → b < w.heap.size := by
  rcases h with ⟨rfl, _⟩ | h
  · intro b hb; cases hb
  · exact h.lt
theorem QuN.form (h : QuN w base v q) : ∃ A c, v = .slice A q.length c ∧ q.length ≤ c ∧ c ≤ maxLen := by
  rcases h with ⟨rfl, rfl⟩ | ⟨A, n, c, rfl, _, h1, h2, h3, _⟩
  · exact ⟨none, 0, rfl, Nat.le_refl _, Nat.zero_le _⟩
  · subst h1; exact ⟨some A, c, rfl, h2, h3⟩
/-- append of one number. -/
theorem ap_quN {ops : Array Oper} {rest : List Oper} {a : Act} {Q : Exit → Act → World → Prop} {d : Option Tmp} {ty : TypeId} {pos : String} {af : Array Edge} {g : Option (Nat × Bool)} {s x : Operand}
    (H : QuN w base v q) (y b : Nat) (c1 : Nat) (hy : Bk w b 3 #[.int .i64 (y : Int)]) (hbase : base ≤ w.heap.size) (hq : q.length ≤ 1000000)
    (hs : a.eval s = v) (hx : a.eval x = .slice (some ⟨b, 0, none⟩) 1 c1)
    (hw : Region.wanted { dst := d, op := .call { callee := .builtin .append, args := #[s, x], argTypes := #[39, 39] }, type := ty, pos := pos, after := af, guard := g } (yielded ops a.tmps) = true)
    (h : ∀ v' w', QuN w' base v' (q ++ [y]) → (∃ row, w.grownBy w' row ∧ ∀ b, row = some b → v.ownBlock = some b) → (∀ i, v'.ownBlock = some i → v.ownBlock = some i ∨ w.heap.size ≤ i) → wpList Tryz.prog ops Q rest (a.put d v') w') :
    wpList Tryz.prog ops Q ({ dst := d, op := .call { callee := .builtin .append, args := #[s, x], argTypes := #[39, 39] }, type := ty, pos := pos, after := af, guard := g } :: rest) a w := by
  rcases H with ⟨rfl, rfl⟩ | H
  · obtain ⟨i0, hi, hz0, hz1, hz2⟩ := info_parts infoI
    have hr : Rd w w.heap.size 1 (some ⟨b, 0, none⟩) 1 [Value.int .i64 (y : Int)] := ⟨rfl, fun _ => ⟨b, 0, rfl, hy.lt, fun j u hj => by
      match j, hj with
      | 0, hj => simp at hj; subst hj; exact hy.cell 0
      | j + 1, hj => simp at hj⟩⟩
    refine ap_any Tryz.underlying39 hi hz0 hz1 hz2 rfl (by decide) (World.ownsRow_nil w base 3 1) hr (by simp [Value.oneCell']) (Below.refl base w) hbase (by omega) hs hx hw (fun v' w' h1 h2 h3 h4 => ?_)
    obtain ⟨g, c, rfl, hg, hl, hc⟩ := own_pos h1 (by omega)
    refine h _ w' (.inr ?_) ⟨none, h3, fun _ e => by cases e⟩ (fun i hi => ?_)
    · rcases h1.2 with ⟨hv, hn⟩ | ⟨g', cap, cur, hv, hb', hh, n1, n2, n3, n4⟩
      · omega
      · injection hv with e1 _ e2
        injection e1 with e1
        injection e1 with e1
        subst e1 e2
        exact ⟨_, _, _, rfl, hl, rfl, hc, n2, .inr ⟨g, 0, cur, rfl, hg, hh, by omega, by rw [List.drop_zero]; simpa [nIt, natI, its] using n4⟩⟩
    · rcases h4 with h4 | h4
      · rw [h4] at hi; cases hi
      · rw [h4] at hi; injection hi with hi; exact .inr (by omega)
  · refine ap_qu H y ⟨b, 0, none⟩ c1 (by rw [addLit]; exact hy.cell 0) hbase hq (Below.refl base w) hs hx hw (fun v' w' h1 _ h3 h4 => h v' w' (.inr h1) ?_ (fun i hi => ?_))
    · obtain ⟨row, r1, r2⟩ := h3
      exact ⟨row, r1, fun b hb => (r2 b hb).1⟩
    · rcases h4 with h4 | ⟨g, h4, h5⟩
      · exact .inl (h4 ▸ hi)
      · rw [h4] at hi; injection hi with hi; exact .inr (by omega)
end
end Go.Proofs.YtoadamkmabkldaaGreatDoor
