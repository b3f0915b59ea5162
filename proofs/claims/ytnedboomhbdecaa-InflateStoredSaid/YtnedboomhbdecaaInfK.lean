/- Contracts of package inflate: codes. -/
import Derived.Test.YtnedboomhbdecaaInfM
namespace Go.Proofs.Ytnedboomhbdecaa
open Go.RowKit
attribute [local go_sem ↓] Go.wp_at_zero Go.wp_at_succ

/-- How the reading of codes ends. -/
def CoR (B : List Bool) (a : Nat) (g gi : Nat) (S : Nat → Prop) (L : List UInt8) (vo c2 c3 c4 c5 c6 : Value) (n0 : Nat) (e : Ending) (w' : World) : Prop :=
  ∃ (E : Int) (a' : Nat) (v7 v8 : Value), e = .returned (.int .i64 E) ∧ Bk w' g 95 #[.pointer (some ⟨gi, 0, none⟩), vo, c2, c3, c4, c5, c6, v7, v8] ∧ RdS w' S gi L a' ∧
    ((E = 0 ∧ ∃ l d, codP B a = some ((l, d), a') ∧ ∀ X : Nat → Prop, (∀ k, X k → k < n0) → CodOK w' X v7 l ∧ CodOK w' X v8 d) ∨ (E ≠ 0 ∧ codP B a = none))
theorem ord_at : ∀ j, j < 19 → ∃ x, ordN[j]? = some x ∧ x < 19 := by decide
theorem O19_at {j x : Nat} (h : ordN[j]? = some x) : O19[j]? = some (.int .i64 (x : Int)) := by
  unfold O19 its
  rw [List.getElem?_toArray, List.getElem?_map, List.getElem?_map, h]; rfl
theorem ord_len : ordN.length = 19 := rfl
theorem its_cell {l : List Int} {j : Nat} (h : j < l.length) : (its l).toArray[j]? = some (.int .i64 (l[j]?.getD 0)) := by
  unfold its
  rw [List.getElem?_toArray, List.getElem?_map, List.getElem?_eq_getElem h]; rfl
theorem its_set' (l : List Int) (j : Nat) (x : Int) : (its l).set j (.int .i64 x) = its (l.set j x) := by simp [its, List.map_set]
theorem its_setA (l : List Int) (j : Nat) (x : Int) : (its l).toArray.setIfInBounds j (.int .i64 x) = (its (l.set j x)).toArray := by
  rw [List.setIfInBounds_toArray, its_set']
/-- What stands while the lengths of lengths come. -/
def LlI (w : World) (g gi ge gl gr : Nat) (S : Nat → Prop) (L : List UInt8) (cs : Array Value) (k a3 j : Nat) (wr : World) : Prop :=
  ∃ (acc : List Int) (a' : Nat) (E : Int), NB wr g gi ge S L cs a' E ∧ Bk wr gl 106 (its acc).toArray ∧ acc.length = 19 ∧ Bk wr gr 106 O19 ∧ Ch (fun i => S i ∨ i = g) w wr ∧
    (E = 0 → llP (ordN.take k) zer19 (bitsB L) a3 = llP ((ordN.take k).drop j) acc (bitsB L) a') ∧ (E ≠ 0 → llP (ordN.take k) zer19 (bitsB L) a3 = none)
theorem drop_cons {α : Type} {l : List α} {j : Nat} {x : α} (h : l[j]? = some x) : l.drop j = x :: l.drop (j + 1) := by
  obtain ⟨h1, h2⟩ := List.getElem?_eq_some_iff.1 h
  rw [List.drop_eq_getElem_cons h1, h2]
section
variable {n d k a a1 a2 : Nat} {B : List Bool} {ll l : List Int} (h1 : llP (ordN.take k) zer19 B a = some (ll, a1))
include h1
theorem codT_1 (h2 : okC ll false = false) : codT n d k B a = none := by
  unfold codT; rw [bndP_of h1, if_pos h2]; rfl
variable (h2 : okC ll false = true)
include h2
theorem codT_2 (h3 : lenP ll (n + d) (n + d + 1) [] B a1 = none) : codT n d k B a = none := by
  unfold codT; rw [bndP_of h1, if_neg (by rw [h2]; decide), bndP_none h3]
variable (h3 : lenP ll (n + d) (n + d + 1) [] B a1 = some (l, a2))
include h3
theorem codT_3 (h4 : l[256]?.getD 0 = 0) : codT n d k B a = none := by
  unfold codT; rw [bndP_of h1, if_neg (by rw [h2]; decide), bndP_of h3, if_pos h4]; rfl
variable (h4 : ¬ l[256]?.getD 0 = 0)
include h4
theorem codT_4 (h5 : okC (l.take n) false = false) : codT n d k B a = none := by
  unfold codT; rw [bndP_of h1, if_neg (by rw [h2]; decide), bndP_of h3, if_neg h4, if_pos h5]; rfl
variable (h5 : okC (l.take n) false = true)
include h5
theorem codT_5 (h6 : okC (l.drop n) true = false) : codT n d k B a = none := by
  unfold codT; rw [bndP_of h1, if_neg (by rw [h2]; decide), bndP_of h3, if_neg h4, if_neg (by rw [h5]; decide), if_pos h6]; rfl
theorem codT_6 (h6 : okC (l.drop n) true = true) : codT n d k B a = some ((l.take n, l.drop n), a2) := by
  unfold codT; rw [bndP_of h1, if_neg (by rw [h2]; decide), bndP_of h3, if_neg h4, if_neg (by rw [h5]; decide), if_neg (by rw [h6]; decide)]; rfl
end
theorem HCl.rowsX {w w1 w' : World} {lo gc : Nat} {l : List Int} {X : Nat → Prop} (h : HCl w lo l gc) (h1 : ∀ k, lo ≤ k → k < w.heap.size → w1.heap[k]? = w.heap[k]?) (hz : w.heap.size ≤ w1.heap.size) (hX : ∀ k, X k → k < lo) (hc : Ch X w1 w') : HRw w' l gc :=
  h.rows (fun k hk hk2 => (hc.block k (by omega) (fun e => by have := hX k e; omega)).trans (h1 k hk hk2)) (Nat.le_trans hz hc.size)
theorem HCl.keep {w w' : World} {lo gc : Nat} {l : List Int} (h : HCl w lo l gc) (hk : ∀ k, lo ≤ k → k < w.heap.size → w'.heap[k]? = w.heap[k]?) (hz : w.heap.size ≤ w'.heap.size) : HCl w' lo l gc := by
  obtain ⟨vs, lv, h1, h2, h3⟩ := h
  refine ⟨vs, lv, (hk gc h2 h1.lt).trans h1, h2, fun k hk16 => ?_⟩
  obtain ⟨B, m, d, e, hd, hr, hb⟩ := h3 k hk16
  refine ⟨B, m, d, e, hd, ⟨hr.1, fun hm => ?_⟩, hb⟩
  obtain ⟨b, o, rfl, hlo⟩ := hb hm
  obtain ⟨b', o', e', hb', hc⟩ := hr.2 hm
  injection e' with e'
  injection e' with e1 e2
  subst e1 e2
  exact ⟨b, o, rfl, by omega, fun j u hu => (World.cell?_of_block (hk b hlo hb')).trans (hc j u hu)⟩
theorem HCl.set {w : World} {lo gc : Nat} {l : List Int} (h : HCl w lo l gc) {p : Addr} (hp : p.block < lo) (v : Value) : HCl (w.setCell p v) lo l gc :=
  h.keep (fun k hk _ => Below.heap_setCell w p v k (by omega)) (by simp [World.setCell])
theorem LlI.step {w wr w2 : World} {g gi ge gl gr : Nat} {S : Nat → Prop} {L : List UInt8} {cs : Array Value} {k a3 j x : Nat} {acc : List Int} {a' a2 v : Nat} {E E2 : Int} (hnb : NB wr g gi ge S L cs a' E) (hbl : Bk wr gl 106 (its acc).toArray) (hal : acc.length = 19) (hbr : Bk wr gr 106 O19) (hch : Ch (fun i => S i ∨ i = g) w wr)
    (hy : E = 0 → llP (ordN.take k) zer19 (bitsB L) a3 = llP ((ordN.take k).drop j) acc (bitsB L) a') (hn : E ≠ 0 → llP (ordN.take k) zer19 (bitsB L) a3 = none) (hx : (ordN.take k)[j]? = some x) (hge : w.heap.size ≤ ge) (hgl : w.heap.size ≤ gl) (hlr : gl ≠ gr) (hS : ∀ i, S i → i < w.heap.size) (hg : g < w.heap.size)
    (h2 : NB w2 g gi ge S L cs a2 E2) (hc : Ch (fun i => S i ∨ i = ge) wr w2) (hy2 : E2 = 0 → E = 0 ∧ ndP 3 (bitsB L) a' = some (v, a2)) (hn2 : E2 ≠ 0 → E = 0 → ndP 3 (bitsB L) a' = none) (hgr : w.heap.size ≤ gr) :
    Bk w2 gl 106 (its acc).toArray ∧ LlI w g gi ge gl gr S L cs k a3 (j + 1) (w2.setCell ⟨gl, x, none⟩ (.int .i64 (v : Int))) := by
  have hS' : ∀ i, w.heap.size ≤ i → ¬ S i := fun i hi h => by have := hS i h; omega
  have b1 : Bk w2 gl 106 (its acc).toArray := hbl.ch hc (fun h => by rcases h with h | h; exact hS' _ hgl h; exact hbl.ne hnb.er (by decide) h)
  have b2 : Bk w2 gr 106 O19 := hbr.ch hc (fun h => by rcases h with h | h; exact hS' _ hgr h; exact hbr.ne hnb.er (by decide) h)
  have hc2 : Ch (fun i => i = gl) w2 (w2.setCell ⟨gl, x, none⟩ (.int .i64 (v : Int))) := (Ch.refl (fun i => i = gl) w2).set (p := ⟨gl, x, none⟩) (.inl rfl) _
  refine ⟨b1, acc.set x (v : Int), a2, E2, h2.ch hc2 (fun e => by omega) (fun e => b1.ne h2.er (by decide) e.symm) (fun i hi e => hS' _ hgl (e ▸ hi)), by rw [← its_setA]; exact b1.set x _, by rw [List.length_set]; exact hal, b2.far (p := ⟨gl, x, none⟩) (fun e => hlr e.symm) _, ?_, fun hE => ?_, fun hE => ?_⟩
  · refine (hch.trans hc (fun i h => ?_)).set (p := ⟨gl, x, none⟩) (.inr hgl) _
    rcases h with h | rfl
    · exact .inl (.inl h)
    · exact .inr hge
  · obtain ⟨h1, h3⟩ := hy2 hE
    rw [hy h1, drop_cons hx]
    show bndP (ndP 3) _ (bitsB L) a' = _
    rw [bndP_of h3]
  · by_cases h1 : E = 0
    · rw [hy h1, drop_cons hx]
      show bndP (ndP 3) _ (bitsB L) a' = _
      rw [bndP_none (hn2 hE h1)]
    · exact hn h1
set_option maxHeartbeats 8000000 in
set_option maxRecDepth 100000 in
theorem codes_any (g gi : Nat) (S : Nat → Prop) (L : List UInt8) (a : Nat) (vo c2 c3 c4 c5 c6 c7 c8 : Value) (w : World) (hb : Bk w g 95 #[.pointer (some ⟨gi, 0, none⟩), vo, c2, c3, c4, c5, c6, c7, c8]) (hr : RdS w S gi L a) (hS : ¬ S g) :
    Calls Try.prog 72 #[.pointer (some ⟨g, 0, none⟩)] w fun e w' => CoR (bitsB L) a g gi S L vo c2 c3 c4 c5 c6 w.heap.size e w' ∧ Ch (fun i => S i ∨ i = g) w w' := by
  have hSlt := hr.lt
  have hglt := hb.lt
  have hgel : ¬ S w.heap.size := fun h => by have := hSlt _ h; omega
  have hnb := NB.start hb rfl hr hS 0
  have Hnb := Lib.hid hnb
  have HSlt := Lib.hid hSlt
  have hch0 : Ch (fun i => S i ∨ i = g) w (w.alloc (.cells #[.int .i64 0] 34)) := (Ch.refl _ _).alloc _
  have Hch0 := Lib.hid hch0
  have Hb := Lib.hid hb
  clear hnb hSlt hch0 hb hr
  go_enter Try.func72, Try.ntmps72
  go_wp2_with fail
  refine (need_b 5 Hnb.out (by omega)).mono ?_
  rintro e w1 ⟨n, a1, E1, rfl, hn, hnb1, hc1, hy1, hno1⟩
  have hch1 := Hch0.out.trans hc1 (fun i h => by rcases h with h | rfl; exact .inl (.inl h); exact .inr (Nat.le_refl _))
  have Hch1 := Lib.hid hch1
  have Hnb1 := Lib.hid hnb1
  have Hy1 := Lib.hid hy1
  have Hno1 := Lib.hid hno1
  clear Hnb Hch0 hnb1 hc1 hy1 hno1 hch1
  go_wp2_with fail
  refine (need_b 5 Hnb1.out (by omega)).mono ?_
  rintro e w2 ⟨d, a2, E2, rfl, hd, hnb2, hc2, hy2, hno2⟩
  have hch2 := Hch1.out.trans hc2 (fun i h => by rcases h with h | rfl; exact .inl (.inl h); exact .inr (Nat.le_refl _))
  have Hch2 := Lib.hid hch2
  have Hnb2 := Lib.hid hnb2
  have Hy2 := Lib.hid hy2
  have Hno2 := Lib.hid hno2
  clear Hnb1 Hch1 hnb2 hc2 hy2 hno2 hch2
  go_wp2_with fail
  refine (need_b 4 Hnb2.out (by omega)).mono ?_
  rintro e w3 ⟨k, a3, E3, rfl, hk, hnb3, hc3, hy3, hno3⟩
  have hch3 := Hch2.out.trans hc3 (fun i h => by rcases h with h | rfl; exact .inl (.inl h); exact .inr (Nat.le_refl _))
  have hce : w3.cell? ⟨w.heap.size, 0, none⟩ = some (.int .i64 E3) := hnb3.er.cell 0
  have Hch3 := Lib.hid hch3
  have Hnb3 := Lib.hid hnb3
  have Hy3 := Lib.hid hy3
  have Hno3 := Lib.hid hno3
  clear Hnb2 Hch2 hnb3 hc3 hy3 hno3 hch3
  simp only [Nat.reducePow] at hn hd hk
  have Hend := Lib.hid (show ∀ w' E a', NB w' g gi w.heap.size S L #[.pointer (some ⟨gi, 0, none⟩), vo, c2, c3, c4, c5, c6, c7, c8] a' E → ∀ x : Int, x ≠ 0 → codP (bitsB L) a = none → CoR (bitsB L) a g gi S L vo c2 c3 c4 c5 c6 w.heap.size (.returned (.int .i64 x)) w' from
    fun w' E a' h x hx hcod => ⟨x, a', c7, c8, rfl, h.bk, h.rd, .inr ⟨hx, hcod⟩⟩)
  by_cases hE3 : ¬ E3 = 0
  · have hcod : codP (bitsB L) a = none := by
      unfold codP
      by_cases h1 : E1 = 0
      · obtain ⟨_, e1⟩ := Hy1.out h1
        rw [bndP_of e1]
        by_cases h2 : E2 = 0
        · obtain ⟨_, e2⟩ := Hy2.out h2
          rw [bndP_of e2, bndP_none (Hno3.out hE3 h2)]
        · rw [bndP_none (Hno2.out h2 h1)]
      · rw [bndP_none (Hno1.out h1 (by simp))]
    have hEb : (E3 != 0) = true := by rw [bne_iff_ne]; exact hE3
    have Hf := Lib.hid (Hend.out w3 E3 a3 Hnb3.out E3 hE3 hcod)
    clear hcod hE3
    go_wp2
    go_ret
    exact ⟨Hf.out, Hch3.out⟩
  have hE3 : E3 = 0 := by omega
  obtain ⟨hE2, e3⟩ := Hy3.out hE3
  obtain ⟨hE1, e2⟩ := Hy2.out hE2
  obtain ⟨_, e1⟩ := Hy1.out hE1
  have hcod : codP (bitsB L) a = if 286 < 257 + n ∨ 30 < 1 + d then none else codT (257 + n) (1 + d) (4 + k) (bitsB L) a3 := by
    unfold codP
    rw [bndP_of e1, bndP_of e2, bndP_of e3]
    split <;> rfl
  subst hE3
  have Hcod := Lib.hid hcod
  clear Hy1 Hy2 Hy3 Hno1 Hno2 Hno3 hE2 hE1 e1 e2 e3 hcod
  by_cases hbig : 286 < 257 + n ∨ 30 < 1 + d
  · have Hf := Lib.hid (Hend.out w3 0 a3 Hnb3.out 12 (by decide) (by rw [Hcod.out, if_pos hbig]))
    by_cases h1 : 286 < 257 + n
    · have hi : (286 : Int) < 257 + (n : Int) := by omega
      clear hbig
      go_wp2
      go_ret
      exact ⟨Hf.out, Hch3.out⟩
    · have hi : ¬ (286 : Int) < 257 + (n : Int) := by omega
      have hi2 : (30 : Int) < 1 + (d : Int) := by omega
      clear hbig
      go_wp2
      go_ret
      exact ⟨Hf.out, Hch3.out⟩
  have hi : ¬ (286 : Int) < 257 + (n : Int) := by omega
  have hi2 : ¬ (30 : Int) < 1 + (d : Int) := by omega
  have hcod2 := Hcod.out
  rw [if_neg hbig] at hcod2
  have Hcod2 := Lib.hid hcod2
  clear hcod2 hbig Hcod
  have hbl : Bk (w3.alloc (.cells #[.int .i64 0, .int .i64 0, .int .i64 0, .int .i64 0, .int .i64 0, .int .i64 0, .int .i64 0, .int .i64 0, .int .i64 0, .int .i64 0, .int .i64 0, .int .i64 0, .int .i64 0, .int .i64 0, .int .i64 0, .int .i64 0, .int .i64 0, .int .i64 0, .int .i64 0] 106)) w3.heap.size 106 (its zer19).toArray := Bk.new w3 106 Z19
  have Hbl := Lib.hid hbl
  have hnb4 := Hnb3.out.alloc (.cells #[.int .i64 0, .int .i64 0, .int .i64 0, .int .i64 0, .int .i64 0, .int .i64 0, .int .i64 0, .int .i64 0, .int .i64 0, .int .i64 0, .int .i64 0, .int .i64 0, .int .i64 0, .int .i64 0, .int .i64 0, .int .i64 0, .int .i64 0, .int .i64 0, .int .i64 0] 106)
  have Hnb4 := Lib.hid hnb4
  have hch4 := Hch3.out.alloc (.cells #[.int .i64 0, .int .i64 0, .int .i64 0, .int .i64 0, .int .i64 0, .int .i64 0, .int .i64 0, .int .i64 0, .int .i64 0, .int .i64 0, .int .i64 0, .int .i64 0, .int .i64 0, .int .i64 0, .int .i64 0, .int .i64 0, .int .i64 0, .int .i64 0, .int .i64 0] 106)
  have Hch4 := Lib.hid hch4
  have hz3 := Hch3.out.size
  clear hbl hnb4 hch4 Hnb3 Hch3
  go_wp2_with fail
  generalize w3.alloc (.cells #[.int .i64 0, .int .i64 0, .int .i64 0, .int .i64 0, .int .i64 0, .int .i64 0, .int .i64 0, .int .i64 0, .int .i64 0, .int .i64 0, .int .i64 0, .int .i64 0, .int .i64 0, .int .i64 0, .int .i64 0, .int .i64 0, .int .i64 0, .int .i64 0, .int .i64 0] 106) = w4 at *
  refine (order_any w4).mono ?_
  rintro e w5 ⟨rfl, hb5⟩
  have hz5 := hb5.size
  have hl4 := Hbl.out.lt
  have hz4 := Hch4.out.size
  have hnb5 := (Hnb4.out.below hb5).alloc (.cells O19 106)
  have hbl5 := (Hbl.out.below hb5 hl4).alloc (.cells O19 106)
  have hbr5 := Bk.new w5 106 O19
  have hch5 := (Hch4.out.trans (Ch.of_below (S := fun _ => False) hb5 (Nat.le_refl _)) (fun _ h => h.elim)).alloc (.cells O19 106)
  have hll : LlI w g gi w.heap.size w3.heap.size w5.heap.size S L #[.pointer (some ⟨gi, 0, none⟩), vo, c2, c3, c4, c5, c6, c7, c8] (4 + k) a3 0 (w5.alloc (.cells O19 106)) :=
    ⟨zer19, a3, 0, hnb5, hbl5, rfl, hbr5, hch5, fun _ => rfl, fun h => absurd rfl h⟩
  have Hll := Lib.hid hll
  have Hz := Lib.hid (heap_alloc_last w5 (.cells Z19 106))
  have e4 : ((4 : Int) + (k : Int)).toNat = 4 + k := by omega
  have k0 : (0 : Int) ≤ 4 + (k : Int) := by omega
  have k1 : (4 : Int) + (k : Int) ≤ 19 := by omega
  clear hnb5 hbl5 hbr5 hch5 hll hb5 Hnb4 Hbl Hch4
  go_wp2_with (((with_reducible refine at_store 106 ?_); refine wpList_store_row (by rfl) _ _ _ (by rfl) w5.heap.size O19 (by rfl) (by rfl) 106 Z19 Hz.out i19 (by rfl) one19 ?_; rw [World.setRow_alloc_new]))
  clear e4 k0 k1 Hz
  go_loopw [35] (fun i wr => ∃ j : Nat, i = .int .i64 j ∧ j ≤ 4 + k ∧ Hid (LlI w g gi w.heap.size w3.heap.size w5.heap.size S L #[.pointer (some ⟨gi, 0, none⟩), vo, c2, c3, c4, c5, c6, c7, c8] (4 + k) a3 j wr)) (fun i _ => 4 + k - (intOf i).toNat)
  case atStart => exact ⟨0, rfl, Nat.zero_le _, Hll⟩
  case round =>
    obtain ⟨j, rfl, hj, hI⟩ := hrel
    clear Hll
    by_cases hlt : j < 4 + k
    · obtain ⟨acc, a', E, hnb, hbl, hal, hbr, hch, hyes, hno⟩ := hI.out
      obtain ⟨x, hx, hx19⟩ := ord_at j (by omega)
      have hxk : (ordN.take (4 + k))[j]? = some x := by rw [List.getElem?_take, if_pos hlt]; exact hx
      have hcx := (hbr.cell j).trans (O19_at hx)
      have hstep := fun w2 a2 v E2 => LlI.step (w2 := w2) (a2 := a2) (v := v) (E2 := E2) hnb hbl hal hbr hch hyes hno hxk (Nat.le_refl _) (by omega) (by omega) HSlt.out hglt
      have hnd := need_b 3 hnb (by omega)
      have hcl2 : ∀ y : Nat, y < 19 → ∃ z, (its acc).toArray[y]? = some (.int .i64 z) := fun y hy => ⟨_, its_cell (by omega)⟩
      obtain ⟨z, hz⟩ := hcl2 x hx19
      have Hstep := Lib.hid hstep
      have Hnd := Lib.hid hnd
      have Hz' := Lib.hid hz
      have i0 : (0 : Int) ≤ (j : Int) := by omega
      have i1 : (j : Int) < 4 + (k : Int) := by omega
      have i2 : (0 : Int) ≤ (x : Int) := by omega
      have i3 : (x : Int) < 19 := by omega
      clear hnb hbl hbr hch hyes hno hx hxk hstep hnd hcl2 hz hI
      go_wp2_with fail
      refine Hnd.out.mono ?_
      rintro e w6 ⟨v, a6, E6, rfl, hv, hnb6, hc6, hy6, hn6⟩
      obtain ⟨hb6, hI6⟩ := Hstep.out w6 a6 v E6 hnb6 hc6 hy6 hn6 (by omega)
      have hcz := (hb6.cell x).trans Hz'.out
      have hfz := hb6.free x
      have HI6 := Lib.hid hI6
      clear hI6 hb6 hnb6 hc6 hy6 hn6 Hnd Hstep hcx
      go_wp2_with fail
      go_roundw
      case rel => exact ⟨j + 1, by go_num, by omega, HI6⟩
      case measure => simp [intOf]; omega
    · have hjK : j = 4 + k := by omega
      subst hjK
      have hjI : ¬ ((4 + k : Nat) : Int) < 4 + (k : Int) := by omega
      obtain ⟨acc, a', E, hnb, hbl, hal, hbr, hch, hyes, hno⟩ := hI.out
      have hce : wr.cell? ⟨w.heap.size, 0, none⟩ = some (.int .i64 E) := hnb.er.cell 0
      have Hnb := Lib.hid hnb
      have Hbl := Lib.hid hbl
      have Hch := Lib.hid hch
      by_cases hE : ¬ E = 0
      · have hcn : codP (bitsB L) a = none := by
          rw [Hcod2.out]
          unfold codT
          rw [bndP_none (hno hE)]
        have hEb : (E != 0) = true := by rw [bne_iff_ne]; exact hE
        have Hf := Lib.hid (Hend.out wr E a' hnb E hE hcn)
        clear hcn hE hyes hno hbr hnb hbl hch hI
        go_wp2
        go_ret
        exact ⟨Hf.out, Hch.out⟩
      have hE : E = 0 := by omega
      have hll := hyes hE
      rw [List.drop_of_length_le (by rw [List.length_take, ord_len]; omega)] at hll
      have Hll := Lib.hid (show llP (ordN.take (4 + k)) zer19 (bitsB L) a3 = some (acc, a') from hll)
      subst hE
      have hcd := code_any (some ⟨w3.heap.size, 0, none⟩) 19 19 acc false wr (Rd.of_bk hbl hal.symm) (by omega)
      have Hcd := Lib.hid hcd
      have Hal := Lib.hid hal
      obtain ⟨w6, rfl⟩ : ∃ w6 : World, w6 = wr := ⟨_, rfl⟩
      clear hll hyes hno hbr hnb hbl hch hI hcd hal
      go_wp2_with fail
      refine Hcd.out.mono ?_
      rintro e w7 ⟨hC, hb7⟩
      have hz7 := hb7.size
      have hz6 := Hch.out.size
      have hnb7 := Hnb.out.below hb7
      have hce7 : w7.cell? ⟨w.heap.size, 0, none⟩ = some (.int .i64 0) := hnb7.er.cell 0
      have hfe7 : w7.frozen? ⟨w.heap.size, 0, none⟩ = false := hnb7.er.free 0
      have hlt7 := hnb7.er.lt
      have Hch7 := Lib.hid (Hch.out.trans (Ch.of_below (S := fun _ => False) hb7 (Nat.le_refl _)) (fun _ h => h.elim))
      have hle6 : w.heap.size < w6.heap.size := Hnb.out.er.lt
      rcases hC with ⟨hok, gc, rfl, hcl, hm1, ho1⟩ | ⟨hok, rfl⟩
      rotate_left
      · have hcn : codP (bitsB L) a = none := by rw [Hcod2.out]; exact codT_1 Hll.out hok
        have hf := Hend.out _ 12 a' (hnb7.setE 12) 12 (by decide) hcn
        have Hf := Lib.hid hf
        have Hc7 := Lib.hid (Hch7.out.set (p := ⟨w.heap.size, 0, none⟩) (.inr (Nat.le_refl _)) (.int .i64 12))
        clear hf hcn hok hnb7 hb7 Hch7 Hcd Hnb
        go_wp2
        go_ret
        exact ⟨Hf.out, Hc7.out⟩
      have hnb8 := hnb7.setE 0
      have hce8 : (w7.setCell ⟨w.heap.size, 0, none⟩ (.int .i64 0)).cell? ⟨w.heap.size, 0, none⟩ = some (.int .i64 0) := hnb8.er.cell 0
      have hz8 : (w7.setCell ⟨w.heap.size, 0, none⟩ (.int .i64 0)).heap.size = w7.heap.size := by simp [World.setCell]
      have hch8 := Hch7.out.set (p := ⟨w.heap.size, 0, none⟩) (.inr (Nat.le_refl _)) (.int .i64 0)
      have hlc := lengths_any g gi gc S L a' (257 + n + (1 + d)) acc (w7.setCell ⟨w.heap.size, 0, none⟩ (.int .i64 0)) (fun w' hc => hcl.rowsX (fun k hk hk2 => Below.heap_setCell w7 _ _ k (by show k ≠ w.heap.size; omega)) (by rw [hz8]; exact Nat.le_refl _) (fun k hk => by have := HSlt.out k hk; omega) hc) hnb8.rd ((hnb8.bk.cell 0).trans hnb8.c0) hnb8.bk.lt hS (by omega) hm1 ho1
      rw [show ((257 + n + (1 + d) : Nat) : Int) = 257 + (n : Int) + (1 + (d : Int)) by omega] at hlc
      have Hlc := Lib.hid hlc
      have Hnb8 := Lib.hid hnb8
      have Hch8 := Lib.hid hch8
      have Hok := Lib.hid hok
      have Hz8 := Lib.hid hz8
      have b0 : (0 : Int) ≤ 257 + (n : Int) := by omega
      have b1 : (0 : Int) ≤ 1 + (d : Int) := by omega
      clear hlc hnb8 hch8 hok hcl hm1 ho1 hnb7 hb7 Hch7 Hcd Hnb Hbl Hch hz8
      go_wp2_with fail
      refine Hlc.out.mono ?_
      rintro e w8 ⟨hL, hc8⟩
      have hz9 := hc8.size
      have hbk8 := Hnb8.out.bk.ch hc8 hS
      have her8 := Hnb8.out.er.ch hc8 hgel
      have hch9 := Hch8.out.trans hc8 (fun i h => .inl (.inl h))
      have hce9 : w8.cell? ⟨w.heap.size, 0, none⟩ = some (.int .i64 0) := her8.cell 0
      have hfe9 : w8.frozen? ⟨w.heap.size, 0, none⟩ = false := her8.free 0
      have Hch9 := Lib.hid hch9
      rcases hL with ⟨l, a8, Al, cA, hl, rfl, hln, hlA, hown, hr8⟩ | ⟨hl, E8, a8, rfl, hE8, hr8⟩
      rotate_left
      · have hnb9 : NB w8 g gi w.heap.size S L _ a8 0 := ⟨hbk8, rfl, hr8, her8, hS, hgel⟩
        have hcn : codP (bitsB L) a = none := by rw [Hcod2.out]; exact codT_2 Hll.out Hok.out hl
        have hf := Hend.out _ E8 a8 (hnb9.setE E8) E8 hE8 hcn
        have Hf := Lib.hid hf
        have Hc9 := Lib.hid (Hch9.out.set (p := ⟨w.heap.size, 0, none⟩) (.inr (Nat.le_refl _)) (.int .i64 E8))
        have hEb : (E8 != 0) = true := by rw [bne_iff_ne]; exact hE8
        clear hf hcn hl hE8 hnb9 hbk8 her8 hch9 hc8 Hch9 hr8 Hlc
        go_wp2
        go_ret
        exact ⟨Hf.out, Hc9.out⟩
      have hnb9 : NB w8 g gi w.heap.size S L _ a8 0 := ⟨hbk8, rfl, hr8, her8, hS, hgel⟩
      have hnb10 := hnb9.setE 0
      have hown10 : (w8.setCell ⟨w.heap.size, 0, none⟩ (.int .i64 0)).ownsRow (w7.setCell ⟨w.heap.size, 0, none⟩ (.int .i64 0)).heap.size 3 1 (.slice Al (257 + n + (1 + d)) cA) (257 + n + (1 + d)) (its l) := own_apart' hown her8 (by decide)
      have hch10 := Hch9.out.set (p := ⟨w.heap.size, 0, none⟩) (.inr (Nat.le_refl _)) (.int .i64 0)
      have hce10 : (w8.setCell ⟨w.heap.size, 0, none⟩ (.int .i64 0)).cell? ⟨w.heap.size, 0, none⟩ = some (.int .i64 0) := hnb10.er.cell 0
      have hrd10 := Rd.of_own hown10
      obtain ⟨bA, oA, y, rfl, hbA, hy, hcy⟩ := hrd10.num (k := 256) (by omega)
      have hy' : l[256]?.getD 0 = y := by rw [hy]; rfl
      have Hl := Lib.hid hl
      have Hy := Lib.hid hy'
      have Hnb10 := Lib.hid hnb10
      have Hch10 := Lib.hid hch10
      have Hrd10 := Lib.hid hrd10
      have HownA := Lib.hid hown10
      have Hln := Lib.hid hln
      have i256 : (256 : Int) < 257 + (n : Int) + (1 + (d : Int)) := by omega
      have i256' : (256 : Int) < ((257 + n + (1 + d) : Nat) : Int) := by omega
      have j256 : (256 : Nat) < 257 + n + (1 + d) := by omega
      clear hl hy hy' hnb10 hch10 hrd10 hown10 hown hnb9 hbk8 her8 hch9 hc8 Hch9 hr8 Hlc hbA hln
      by_cases hy0 : y = 0
      · have hcn : codP (bitsB L) a = none := by rw [Hcod2.out]; exact codT_3 Hll.out Hok.out Hl.out (by rw [Hy.out]; exact hy0)
        have Hf := Lib.hid (Hend.out _ 0 a8 Hnb10.out 12 (by decide) hcn)
        have hyb : (y == 0) = true := by rw [hy0]; rfl
        clear hcn hy0
        go_wp2
        go_ret
        exact ⟨Hf.out, Hch10.out⟩
      have hyb : (y == 0) = false := by rw [beq_eq_false_iff_ne]; exact hy0
      have Hy0 := Lib.hid hy0
      have hr1 : Rd (w8.setCell ⟨w.heap.size, 0, none⟩ (.int .i64 0)) (w8.setCell ⟨w.heap.size, 0, none⟩ (.int .i64 0)).heap.size 1 (some ⟨bA, oA, none⟩) (257 + n) (its (l.take (257 + n))) := by
        have h := Hrd10.out.icut (k := 0) (m := 257 + n) (by omega) (A' := some ⟨bA, oA, none⟩) (fun _ => by rw [Option.map_some, addLit]; rfl)
        rwa [List.drop_zero] at h
      have hcd := code_any (some ⟨bA, oA, none⟩) (257 + n) cA (l.take (257 + n)) false _ hr1 (by omega)
      have Hcd := Lib.hid hcd
      have m0 : (0 : Int) ≤ 257 + (n : Int) := by omega
      have m1 : (257 : Int) + (n : Int) ≤ (cA : Int) := by omega
      have m2 : ((257 : Int) + (n : Int)).toNat = 257 + n := by omega
      clear hcd hr1 hy0
      go_wp2_with fail
      refine Hcd.out.mono ?_
      rintro e w11 ⟨hC, hb11⟩
      have hz10 : (w8.setCell ⟨w.heap.size, 0, none⟩ (.int .i64 0)).heap.size = w8.heap.size := by simp [World.setCell]
      have hz11 := hb11.size
      have hz8o := Hz8.out
      have hnb11 := Hnb10.out.below hb11
      have hch11 := Hch10.out.trans (Ch.of_below (S := fun _ => False) hb11 (Nat.le_refl _)) (fun _ h => h.elim)
      have hr11 := Hrd10.out.below hb11 (Nat.le_refl _)
      have hcg7 : w11.cell? ⟨g, 7, none⟩ = some c7 := hnb11.bk.cell 7
      have hfg7 : w11.frozen? ⟨g, 7, none⟩ = false := hnb11.bk.free 7
      rcases hC with ⟨hok2, g1, rfl, hcl1, hm1, ho1⟩ | ⟨hok2, rfl⟩
      rotate_left
      · have hcn : codP (bitsB L) a = none := by rw [Hcod2.out]; exact codT_4 Hll.out Hok.out Hl.out (by rw [Hy.out]; exact Hy0.out) hok2
        have hnb12 := hnb11.setR (i := 7) (by omega) (.pointer none)
        have hce12 : (w11.setCell ⟨g, 7, none⟩ (.pointer none)).cell? ⟨w.heap.size, 0, none⟩ = some (.int .i64 0) := hnb12.er.cell 0
        have hfe12 : (w11.setCell ⟨g, 7, none⟩ (.pointer none)).frozen? ⟨w.heap.size, 0, none⟩ = false := hnb12.er.free 0
        have hnb13 := hnb12.setE 12
        have hf : CoR (bitsB L) a g gi S L vo c2 c3 c4 c5 c6 w.heap.size (.returned (.int .i64 12)) ((w11.setCell ⟨g, 7, none⟩ (.pointer none)).setCell ⟨w.heap.size, 0, none⟩ (.int .i64 12)) := ⟨12, a8, .pointer none, c8, rfl, hnb13.bk, hnb13.rd, .inr ⟨by decide, hcn⟩⟩
        have Hf := Lib.hid hf
        have Hc13 := Lib.hid ((hch11.set (p := ⟨g, 7, none⟩) (.inl (.inr rfl)) (.pointer none)).set (p := ⟨w.heap.size, 0, none⟩) (.inr (Nat.le_refl _)) (.int .i64 12))
        clear hf hcn hok2 hnb11 hnb12 hnb13 hch11 hb11 Hcd Hnb10 Hch10 Hrd10 hr11 hz10 hz8o
        go_wp2
        go_ret
        exact ⟨Hf.out, Hc13.out⟩
      have hnb12 := hnb11.setR (i := 7) (by omega) (.pointer (some ⟨g1, 0, none⟩))
      have hce12 : (w11.setCell ⟨g, 7, none⟩ (.pointer (some ⟨g1, 0, none⟩))).cell? ⟨w.heap.size, 0, none⟩ = some (.int .i64 0) := hnb12.er.cell 0
      have hfe12 : (w11.setCell ⟨g, 7, none⟩ (.pointer (some ⟨g1, 0, none⟩))).frozen? ⟨w.heap.size, 0, none⟩ = false := hnb12.er.free 0
      have hnb13 := hnb12.setE 0
      have hce13 : ((w11.setCell ⟨g, 7, none⟩ (.pointer (some ⟨g1, 0, none⟩))).setCell ⟨w.heap.size, 0, none⟩ (.int .i64 0)).cell? ⟨w.heap.size, 0, none⟩ = some (.int .i64 0) := hnb13.er.cell 0
      have hch13 := (hch11.set (p := ⟨g, 7, none⟩) (.inl (.inr rfl)) (.pointer (some ⟨g1, 0, none⟩))).set (p := ⟨w.heap.size, 0, none⟩) (.inr (Nat.le_refl _)) (.int .i64 0)
      have hcl13 := (hcl1.set (p := ⟨g, 7, none⟩) (by show g < _; omega) (.pointer (some ⟨g1, 0, none⟩))).set (p := ⟨w.heap.size, 0, none⟩) (by show w.heap.size < _; omega) (.int .i64 0)
      have hz13 : ((w11.setCell ⟨g, 7, none⟩ (.pointer (some ⟨g1, 0, none⟩))).setCell ⟨w.heap.size, 0, none⟩ (.int .i64 0)).heap.size = w11.heap.size := by simp [World.setCell]
      have hrd13 : Rd ((w11.setCell ⟨g, 7, none⟩ (.pointer (some ⟨g1, 0, none⟩))).setCell ⟨w.heap.size, 0, none⟩ (.int .i64 0)) w11.heap.size 1 (some ⟨bA, oA, none⟩) (257 + n + (1 + d)) (its l) := by
        have h1 := (Hrd10.out.below hb11 (Nat.le_refl _)).more hz11
        obtain ⟨e1, e2⟩ := h1
        refine ⟨e1, fun hm => ?_⟩
        obtain ⟨b, o, e, hb', hc'⟩ := e2 hm
        injection e with e
        injection e with e3 e4
        subst e3 e4
        have hne : ∀ q, q = g ∨ q = w.heap.size → bA ≠ q := by
          rintro q hq rfl
          obtain ⟨g', _, e5, e6, _, _⟩ := own_pos HownA.out (by omega)
          injection e5 with e5 _ _
          injection e5 with e5
          injection e5 with e5 _
          omega
        exact ⟨bA, oA, rfl, hb', fun j u hu => (World.cell?_setCell_other _ _ _ _ (fun e => hne _ (.inr rfl) (by injection e with e; exact e.symm))).trans ((World.cell?_setCell_other _ _ _ _ (fun e => hne _ (.inl rfl) (by injection e with e; exact e.symm))).trans (hc' j u hu))⟩
      have hr2 : ∀ A', (0 < 1 + d → A' = (some (⟨bA, oA, none⟩ : Addr)).map (·.add (257 + n))) → Rd ((w11.setCell ⟨g, 7, none⟩ (.pointer (some ⟨g1, 0, none⟩))).setCell ⟨w.heap.size, 0, none⟩ (.int .i64 0)) w11.heap.size 1 A' (1 + d) (its (l.drop (257 + n))) := fun A' hA' => by
        have h := hrd13.icut (k := 257 + n) (m := 1 + d) (by omega) (A' := A') hA'
        rwa [List.take_of_length_le (by rw [List.length_drop, Hln.out]; omega)] at h
      have hcd := fun c' => code_any (some ⟨bA, oA + (257 + n), none⟩) (1 + d) c' (l.drop (257 + n)) true ((w11.setCell ⟨g, 7, none⟩ (.pointer (some ⟨g1, 0, none⟩))).setCell ⟨w.heap.size, 0, none⟩ (.int .i64 0)) ((hr2 _ (fun _ => by rw [Option.map_some, addLit])).more (by rw [hz13]; exact Nat.le_refl _)) (by omega)
      have Hcd2 := Lib.hid hcd
      have Hnb13 := Lib.hid hnb13
      have Hch13 := Lib.hid hch13
      have Hcl13 := Lib.hid hcl13
      have Hok2 := Lib.hid hok2
      have Hz13 := Lib.hid hz13
      have q1 : 257 + n + (1 + d) - (257 + n) = 1 + d := by omega
      have q2 : ¬ cA = 257 + n := by omega
      have q3 : (257 : Int) + (n : Int) ≤ 257 + (n : Int) + (1 + (d : Int)) := by omega
      have Hz10 := Lib.hid hz10
      clear hnb11 hnb12 hnb13 hch11 hch13 hcl1 hcl13 hcd hr2 hrd13 hok2 hb11 Hcd Hnb10 Hch10 Hrd10 hr11 hz13 hz10 hz8o
      go_wp2_with fail
      refine (Hcd2.out _).mono ?_
      rintro e w14 ⟨hC, hb14⟩
      have hz14 := hb14.size
      have hz13o := Hz13.out
      have hz10o := Hz10.out
      have hz8o := Hz8.out
      have hnb14 := Hnb13.out.below hb14
      have hch14 := Hch13.out.trans (Ch.of_below (S := fun _ => False) hb14 (Nat.le_refl _)) (fun _ h => h.elim)
      have hcg8 : w14.cell? ⟨g, 8, none⟩ = some c8 := hnb14.bk.cell 8
      have hfg8 : w14.frozen? ⟨g, 8, none⟩ = false := hnb14.bk.free 8
      have hcl14 := Hcl13.out.below hb14
      rcases hC with ⟨hok3, g2, rfl, hcl2, hm2, ho2⟩ | ⟨hok3, rfl⟩
      rotate_left
      · have hcn : codP (bitsB L) a = none := by rw [Hcod2.out]; exact codT_5 Hll.out Hok.out Hl.out (by rw [Hy.out]; exact Hy0.out) Hok2.out hok3
        have hnb15 := hnb14.setR (i := 8) (by omega) (.pointer none)
        have hce15 : (w14.setCell ⟨g, 8, none⟩ (.pointer none)).cell? ⟨w.heap.size, 0, none⟩ = some (.int .i64 0) := hnb15.er.cell 0
        have hfe15 : (w14.setCell ⟨g, 8, none⟩ (.pointer none)).frozen? ⟨w.heap.size, 0, none⟩ = false := hnb15.er.free 0
        have hnb16 := hnb15.setE 12
        have hf : CoR (bitsB L) a g gi S L vo c2 c3 c4 c5 c6 w.heap.size (.returned (.int .i64 12)) ((w14.setCell ⟨g, 8, none⟩ (.pointer none)).setCell ⟨w.heap.size, 0, none⟩ (.int .i64 12)) := ⟨12, a8, .pointer (some ⟨g1, 0, none⟩), .pointer none, rfl, hnb16.bk, hnb16.rd, .inr ⟨by decide, hcn⟩⟩
        have Hf := Lib.hid hf
        have Hc16 := Lib.hid ((hch14.set (p := ⟨g, 8, none⟩) (.inl (.inr rfl)) (.pointer none)).set (p := ⟨w.heap.size, 0, none⟩) (.inr (Nat.le_refl _)) (.int .i64 12))
        clear hf hcn hok3 hnb14 hnb15 hnb16 hch14 hb14 hcl14 Hcd2 Hnb13 Hch13 Hcl13 hz13o hz10o hz8o
        go_wp2
        go_ret
        exact ⟨Hf.out, Hc16.out⟩
      have hcn := codT_6 Hll.out Hok.out Hl.out (by rw [Hy.out]; exact Hy0.out) Hok2.out hok3
      rw [← Hcod2.out] at hcn
      have hnb15 := hnb14.setR (i := 8) (by omega) (.pointer (some ⟨g2, 0, none⟩))
      have hce15 : (w14.setCell ⟨g, 8, none⟩ (.pointer (some ⟨g2, 0, none⟩))).cell? ⟨w.heap.size, 0, none⟩ = some (.int .i64 0) := hnb15.er.cell 0
      have hfe15 : (w14.setCell ⟨g, 8, none⟩ (.pointer (some ⟨g2, 0, none⟩))).frozen? ⟨w.heap.size, 0, none⟩ = false := hnb15.er.free 0
      have hnb16 := hnb15.setE 0
      have hA := (hcl14.set (p := ⟨g, 8, none⟩) (by show g < _; omega) (.pointer (some ⟨g2, 0, none⟩))).set (p := ⟨w.heap.size, 0, none⟩) (by show w.heap.size < _; omega) (.int .i64 0)
      have hB := (hcl2.set (p := ⟨g, 8, none⟩) (by show g < _; omega) (.pointer (some ⟨g2, 0, none⟩))).set (p := ⟨w.heap.size, 0, none⟩) (by show w.heap.size < _; omega) (.int .i64 0)
      have hf : CoR (bitsB L) a g gi S L vo c2 c3 c4 c5 c6 w.heap.size (.returned (.int .i64 0)) ((w14.setCell ⟨g, 8, none⟩ (.pointer (some ⟨g2, 0, none⟩))).setCell ⟨w.heap.size, 0, none⟩ (.int .i64 0)) :=
        ⟨0, a8, .pointer (some ⟨g1, 0, none⟩), .pointer (some ⟨g2, 0, none⟩), rfl, hnb16.bk, hnb16.rd, .inl ⟨rfl, _, _, hcn, fun X hX => ⟨hA.ok (fun k hk => by have := hX k hk; omega) hm1 ho1, hB.ok (fun k hk => by have := hX k hk; omega) hm2 ho2⟩⟩⟩
      have Hf := Lib.hid hf
      have Hc16 := Lib.hid ((hch14.set (p := ⟨g, 8, none⟩) (.inl (.inr rfl)) (.pointer (some ⟨g2, 0, none⟩))).set (p := ⟨w.heap.size, 0, none⟩) (.inr (Nat.le_refl _)) (.int .i64 0))
      have hce16 : ((w14.setCell ⟨g, 8, none⟩ (.pointer (some ⟨g2, 0, none⟩))).setCell ⟨w.heap.size, 0, none⟩ (.int .i64 0)).cell? ⟨w.heap.size, 0, none⟩ = some (.int .i64 0) := hnb16.er.cell 0
      clear hf hcn hok3 hnb14 hnb15 hnb16 hch14 hb14 hcl14 hcl2 hA hB Hcd2 Hnb13 Hch13 Hcl13 hm1 ho1 hm2 ho2 hz13o hz10o hz8o
      go_wp2
      go_ret
      exact ⟨Hf.out, Hc16.out⟩
end Go.Proofs.Ytnedboomhbdecaa
