/- The document's patterns: plain, class. -/
import Derived.Test.YtbdehlphblbmoaaDoorGlbJ
import Derived.Test.YtbdehlphblbmoaaDoorMem
import Derived.Test.YtbdehlphblbmoaaDoorInts
namespace Go.Proofs.YtbdehlphblbmoaaDoor
open Go.RowKit
attribute [local go_sem ↓] Go.wp_at_zero Go.wp_at_succ

/-- What plain gives. -/
def TkE (w : World) (L : List Int) (n k : Nat) (e : Ending) (w' : World) : Prop :=
  Below w.heap.size w w' ∧ match plainR (L.drop k) with
    | none => e = .returned (.agg #[.int .i64 0, .int .i64 0, .bool false])
    | some (r, m) => ∃ k' : Nat, k < k' ∧ k' ≤ n ∧ m = L.drop k' ∧ e = .returned (.agg #[.int .i64 r, .int .i64 (k' : Int), .bool true])
theorem TkE.no {w w' : World} {L : List Int} {n k : Nat} (hb : Below w.heap.size w w') (h : plainR (L.drop k) = none) : TkE w L n k (.returned (.agg #[.int .i64 0, .int .i64 0, .bool false])) w' := ⟨hb, by rw [h]⟩
theorem TkE.yes {w w' : World} {L : List Int} {n k k' : Nat} {r z : Int} (hb : Below w.heap.size w w') (h : plainR (L.drop k) = some (r, L.drop k')) (h1 : k < k') (h2 : k' ≤ n) (hz : z = k') : TkE w L n k (.returned (.agg #[.int .i64 r, .int .i64 z, .bool true])) w' := ⟨hb, by rw [h]; exact ⟨k', h1, h2, rfl, by rw [hz]⟩⟩
theorem drop_cons {L : List Int} {k : Nat} {x : Int} (h : L[k]? = some x) : L.drop k = x :: L.drop (k + 1) := by
  have hl := (List.getElem?_eq_some_iff.1 h).1
  rw [List.drop_eq_getElem_cons hl, (List.getElem?_eq_some_iff.1 h).2]
theorem plainR_one {L : List Int} {k : Nat} {x : Int} (h : L[k]? = some x) (hx : x ≠ 92) : plainR (L.drop k) = some (x, L.drop (k + 1)) := by
  rw [drop_cons h]
  cases L.drop (k + 1) <;> (rw [plainR, if_neg hx])
theorem plainR_two {L : List Int} {k : Nat} {y : Int} (h : L[k]? = some 92) (h2 : L[k + 1]? = some y) : plainR (L.drop k) = some (y, L.drop (k + 1 + 1)) := by
  rw [drop_cons h, drop_cons h2, plainR, if_pos rfl]
theorem plainR_end {L : List Int} {k : Nat} (h : L[k]? = some 92) (h2 : L.length = k + 1) : plainR (L.drop k) = none := by
  rw [drop_cons h, List.drop_of_length_le (by omega), plainR, if_pos rfl]
set_option maxHeartbeats 1000000 in
set_option maxRecDepth 100000 in
theorem dplain_any (A : Option Addr) (n c B k : Nat) (L : List Int) (w : World) (hr : Rd w B 1 A n (its L)) (hk : k ≤ n) (hB : B ≤ w.heap.size) (hn : n ≤ 1000000) :
    Calls Tryd.prog 23 #[.slice A n c, .int .i64 (k : Int)] w (TkE w L n k) := by
  have hlen := hr.ilen
  have hz := Lib.hid ((Bk.new w 69 #[.int .i64 0, .int .i64 0, .bool false]))
  have HB := Lib.hid ((Below.refl w.heap.size w).alloc (Nat.le_refl _) (.cells #[.int .i64 0, .int .i64 0, .bool false] 69))
  have q1 : IntKind.i64.wrap ((k : Int) + 1) = (k : Int) + 1 := IntWalk.i64_in _ (by omega)
  have q2 : IntKind.i64.wrap ((k : Int) + 1 + 1) = (k : Int) + 1 + 1 := IntWalk.i64_in _ (by omega)
  have hcell : ∀ j, j < n → ∃ b o u, A = some ⟨b, o, none⟩ ∧ L[j]? = some u ∧ (w.alloc (.cells #[.int .i64 0, .int .i64 0, .bool false] 69)).cell? ⟨b, o + j, none⟩ = some (.int .i64 u) := fun j hj => by
    obtain ⟨b, o, u, h1, h2, h3, h4⟩ := hr.num hj
    exact ⟨b, o, u, h1, h3, (World.cell?_alloc_lt w _ ⟨b, o + j, none⟩ (by show b < _; omega)).trans h4⟩
  clear hr
  by_cases h1 : k = n
  · have HE := Lib.hid (show plainR (L.drop k) = none from by rw [List.drop_of_length_le (by omega)]; rfl)
    subst h1
    clear hcell hlen
    go_enter Tryd.func23, Tryd.ntmps23
    go_wp2_with fail
    exact bodyPost_ret (v := .agg #[.int .i64 0, .int .i64 0, .bool false]) (by simp [results, Tryd.results23, go_sem]) rfl (TkE.no ((Below.refl _ _).alloc (Nat.le_refl _) _) HE.out)
  · obtain ⟨b, o, u, rfl, hu, hc⟩ := hcell k (by omega)
    have hlt : (k : Int) < (n : Int) := by omega
    by_cases h2 : u = 92
    · subst h2
      by_cases h3 : k + 1 = n
      · have HE := Lib.hid (plainR_end hu (by omega))
        have h4 : ¬ (k : Int) + 1 < (n : Int) := by omega
        clear hcell hlen hu h1
        go_enter Tryd.func23, Tryd.ntmps23
        go_wp2_with fail
        exact bodyPost_ret (v := .agg #[.int .i64 0, .int .i64 0, .bool false]) (by simp [results, Tryd.results23, go_sem]) rfl (TkE.no ((Below.refl _ _).alloc (Nat.le_refl _) _) HE.out)
      · obtain ⟨b', o', y, e, hy, hc2⟩ := hcell (k + 1) (by omega)
        injection e with e
        injection e with e1 e2 _
        subst e1 e2
        have HE := Lib.hid (plainR_two hu hy)
        have h4 : (k : Int) + 1 < (n : Int) := by omega
        clear hcell hlen hu hy h1
        go_enter Tryd.func23, Tryd.ntmps23
        go_wp2_with fail
        exact bodyPost_ret (v := .agg #[.int .i64 y, .int .i64 ((k : Int) + 1 + 1), .bool true]) (by simp [results, Tryd.results23, go_sem]) rfl (TkE.yes ((Below.refl _ _).alloc (Nat.le_refl _) _) HE.out (by omega) (by omega) (by omega))
    · have h2' : (u == 92) = false := by simpa using h2
      have HE := Lib.hid (plainR_one hu h2)
      clear hcell hlen hu h1 h2
      go_enter Tryd.func23, Tryd.ntmps23
      go_wp2_with fail
      exact bodyPost_ret (v := .agg #[.int .i64 u, .int .i64 ((k : Int) + 1), .bool true]) (by simp [results, Tryd.results23, go_sem]) rfl (TkE.yes ((Below.refl _ _).alloc (Nat.le_refl _) _) HE.out (by omega) (by omega) (by omega))
theorem own_neT {w : World} {base s n : Nat} {e t : TypeId} {v : Value} {xs : List Value} {g : Nat} {cs : Array Value} (h : w.ownsRow base e s v n xs) (hg : Bk w g t cs) (hne : e ≠ t) : v.ownBlock ≠ some g := by
  rcases h.2 with ⟨rfl, _⟩ | ⟨g', cap, cur, rfl, _, hh, _⟩
  · simp [Value.ownBlock]
  · intro he
    have e1 : g' = g := by simpa [Value.ownBlock] using he
    subst e1
    unfold Bk at hg
    rw [hh] at hg
    injection hg with hg
    injection hg with _ ht
    exact hne ht
/-- A class while the document reads it. -/
structure DcM (w W : World) (nt : Bool) (v1 v2 : Value) (n1 n2 : Nat) (l1 l2 : List Int) : Prop where
  b4 : Bk W w.heap.size 66 #[.int .i64 0, .int .i64 0, .bool false, .slice none 0 0, .slice none 0 0]
  b5 : Bk W (w.heap.size + 1) 66 #[.int .i64 4, .int .i64 0, .bool nt, v1, v2]
  o1 : W.ownsRow (w.heap.size + 2) 3 1 v1 n1 (its l1)
  o2 : W.ownsRow (w.heap.size + 2) 3 1 v2 n2 (its l2)
  ap : ∀ b, v1.ownBlock = some b → v2.ownBlock ≠ some b
  bw : Below w.heap.size w W
section
variable {w W W' : World} {nt : Bool} {v1 v2 v' : Value} {n1 n2 : Nat} {l1 l2 : List Int}
theorem DcM.ch {S : Nat → Prop} (h : DcM w W nt v1 v2 n1 n2 l1 l2) (k : Ch S W W') (h4 : ¬ S w.heap.size) (h5 : ¬ S (w.heap.size + 1)) (hs : ∀ i, S i → w.heap.size ≤ i) (ho : ∀ i, S i → ∀ cs, ¬ Bk W i 3 cs) : DcM w W' nt v1 v2 n1 n2 l1 l2 := by
  have hb : ∀ {v : Value} {q : Nat} {l : List Int}, W.ownsRow (w.heap.size + 2) 3 1 v q (its l) → ∀ i, v.ownBlock = some i → ¬ S i := by
    intro v q l h i hi e
    rcases h.2 with ⟨rfl, _⟩ | ⟨g, cap, cur, rfl, _, hh, _⟩
    · simp [Value.ownBlock] at hi
    · have e1 : g = i := by simpa [Value.ownBlock] using hi
      subst e1
      exact ho g e cur hh
  exact ⟨h.b4.ch k h4, h.b5.ch k h5, own_ch h.o1 k (hb h.o1), own_ch h.o2 k (hb h.o2), h.ap, h.bw.trans (k.below (B := w.heap.size) h.bw.size hs)⟩
theorem DcM.bl (h : DcM w W nt v1 v2 n1 n2 l1 l2) (k : Below W.heap.size W W') : DcM w W' nt v1 v2 n1 n2 l1 l2 :=
  h.ch (S := fun _ => False) (Ch.of_below k (Nat.le_refl _)) (fun h => h) (fun h => h) (fun _ h => h.elim) (fun _ h => h.elim)
/-- From grows. -/
theorem DcM.ap1 (h : DcM w W nt v1 v2 n1 n2 l1 l2) {x : Int} (ho : W'.ownsRow (w.heap.size + 2) 3 1 v' (n1 + 1) (its (l1 ++ [x]))) (hg : W.grownBy W' v1.ownBlock) (hl : v'.ownBlock = v1.ownBlock ∨ v'.ownBlock = some W.heap.size) :
    DcM w (W'.setCell ⟨w.heap.size + 1, 3, none⟩ v') nt v' v2 (n1 + 1) n2 (l1 ++ [x]) l2 := by
  have hge : ∀ k, v1.ownBlock = some k → w.heap.size + 2 ≤ k := fun k hk => (h.o1.lt k hk).1
  have hch : Ch (fun i => v1.ownBlock = some i) W W' := (Ch.refl _ W).grown hg (fun i hi => .inl hi)
  have hset : Ch (fun i => i = w.heap.size + 1) W' (W'.setCell ⟨w.heap.size + 1, 3, none⟩ v') := (Ch.refl (fun i => i = w.heap.size + 1) W').set (p := ⟨w.heap.size + 1, 3, none⟩) (.inl rfl) _
  have b5 := (h.b5.ch hch (fun e => by have := hge _ e; omega)).set 3 v'
  simp at b5
  refine ⟨(h.b4.ch hch (fun e => by have := hge _ e; omega)).ch hset (by omega), b5, ?_, ?_, fun b hb hb2 => ?_, ?_⟩
  · exact own_ch ho hset (fun i hi e => by have := (ho.lt i hi).1; omega)
  · exact own_ch (own_ch h.o2 hch (fun i hi e => h.ap i e hi)) hset (fun i hi e => by have := (h.o2.lt i hi).1; omega)
  · rcases hl with hl | hl
    · rw [hl] at hb; exact h.ap b hb hb2
    · rw [hl] at hb; injection hb with hb; have := (h.o2.lt b hb2).2; omega
  · exact (h.bw.trans (hch.below (B := w.heap.size) h.bw.size (fun i hi => by have := hge i hi; omega))).setCell (by show w.heap.size ≤ w.heap.size + 1; omega) _
/-- To grows. -/
theorem DcM.ap2 (h : DcM w W nt v1 v2 n1 n2 l1 l2) {x : Int} (ho : W'.ownsRow (w.heap.size + 2) 3 1 v' (n2 + 1) (its (l2 ++ [x]))) (hg : W.grownBy W' v2.ownBlock) (hl : v'.ownBlock = v2.ownBlock ∨ v'.ownBlock = some W.heap.size) :
    DcM w (W'.setCell ⟨w.heap.size + 1, 4, none⟩ v') nt v1 v' n1 (n2 + 1) l1 (l2 ++ [x]) := by
  have hge : ∀ k, v2.ownBlock = some k → w.heap.size + 2 ≤ k := fun k hk => (h.o2.lt k hk).1
  have hch : Ch (fun i => v2.ownBlock = some i) W W' := (Ch.refl _ W).grown hg (fun i hi => .inl hi)
  have hset : Ch (fun i => i = w.heap.size + 1) W' (W'.setCell ⟨w.heap.size + 1, 4, none⟩ v') := (Ch.refl (fun i => i = w.heap.size + 1) W').set (p := ⟨w.heap.size + 1, 4, none⟩) (.inl rfl) _
  have b5 := (h.b5.ch hch (fun e => by have := hge _ e; omega)).set 4 v'
  simp at b5
  refine ⟨(h.b4.ch hch (fun e => by have := hge _ e; omega)).ch hset (by omega), b5, ?_, ?_, fun b hb hb2 => ?_, ?_⟩
  · exact own_ch (own_ch h.o1 hch (fun i hi e => h.ap i hi e)) hset (fun i hi e => by have := (h.o1.lt i hi).1; omega)
  · exact own_ch ho hset (fun i hi e => by have := (ho.lt i hi).1; omega)
  · rcases hl with hl | hl
    · rw [hl] at hb2; exact h.ap b hb hb2
    · rw [hl] at hb2; injection hb2 with hb2; have := (h.o1.lt b hb).2; omega
  · exact (h.bw.trans (hch.below (B := w.heap.size) h.bw.size (fun i hi => by have := hge i hi; omega))).setCell (by show w.heap.size ≤ w.heap.size + 1; omega) _
end
end Go.Proofs.YtbdehlphblbmoaaDoor
