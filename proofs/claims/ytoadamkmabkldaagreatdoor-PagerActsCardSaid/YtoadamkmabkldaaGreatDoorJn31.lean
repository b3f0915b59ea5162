/- Contracts of package pager: Read and Frees, whatever is kept of page 0 (which is read when a pager is opened, and never again). -/
import Derived.Test.YtoadamkmabkldaaGreatDoorJn21
import Derived.Test.YtoadamkmabkldaaGreatDoorJn30
import Derived.Test.YtoadamkmabkldaaGreatDoorJn29
set_option linter.unusedVariables false
set_option linter.unusedSimpArgs false
namespace Go.Proofs.YtoadamkmabkldaaGreatDoor
open Go.RowKit Go.Shelf
attribute [local go_sem ↓] Go.wp_at_zero Go.wp_at_succ
/-- What is kept is what the file has. -/
def KeptN (P : PgP) (c : Nat → List UInt8) : Prop := ∀ k ∈ P.row, k ≠ 0 → P.cv k = c k
theorem pgR_keptN {P : PgP} {c : Nat → List UInt8} (h : KeptN P c) (no : Nat) : KeptN (pgR P no (c no)) c := by
  unfold pgR
  split
  · exact h
  · split
    · exact h
    · have h1 : ∀ k ∈ P.row ++ [no], k ≠ 0 → (if k = no then c no else P.cv k) = c k := fun k hk h0 => by
        by_cases e : k = no
        · rw [if_pos e, e]
        · rw [if_neg e]
          refine h k ?_ h0
          rcases List.mem_append.1 hk with h | h
          · exact h
          · simp at h; exact absurd h e
      intro k hk h0
      unfold keepP at hk ⊢
      dsimp only at hk ⊢
      refine h1 k ?_ h0
      split at hk
      · exact List.mem_of_mem_tail hk
      · exact hk
theorem contN_of {P : PgP} {c : Nat → List UInt8} (h : KeptN P c) {no : Nat} (h0 : 1 ≤ no) : contB P no (c no) = (P.ch.lookup no).getD (c no) := by
  unfold contB
  cases P.ch.lookup no with
  | some b => rfl
  | none =>
    dsimp only [Option.getD_none]
    split
    · rename_i hr; exact h no hr (by omega)
    · rfl
/-- Two pagers that differ by what was read alone. -/
structure PgSN (P Q : PgP) (c : Nat → List UInt8) (k : Nat) : Prop where
  now : Q.now = P.now
  last : Q.last = P.last
  ch : Q.ch = P.ch
  dead : Q.dead = P.dead
  ok : Q.Ok
  kept : KeptN Q c
  reads : Q.reads ≤ P.reads + k
theorem PgSN.refl {P : PgP} {c : Nat → List UInt8} (h : P.Ok) (hk : KeptN P c) : PgSN P P c 0 := ⟨rfl, rfl, rfl, rfl, h, hk, Nat.le_refl _⟩
theorem PgSN.step {P Q : PgP} {c : Nat → List UInt8} {k no : Nat} (h : PgSN P Q c k) (hn : no ≤ 65536) : PgSN P (pgR Q no (c no)) c (k + 1) := by
  obtain ⟨h1, h2, h3, h4, h5⟩ := pgR_same Q no (c no)
  exact ⟨h1.trans h.now, h2.trans h.last, h3.trans h.ch, h4.trans h.dead, pgR_ok h.ok _ hn, pgR_keptN h.kept no, by have := h.reads; omega⟩
/-- A pager and its store, as they are to be. -/
structure GoodN (P : PgP) (S : FsP) (nm : List UInt8) (c : Nat → List UInt8) : Prop where
  ok : P.Ok
  kept : KeptN P c
  dead : P.dead = false
  many : P.now.many ≤ 65536
  hold : ∀ no, 1 ≤ no → no < P.now.many → P.ch.lookup no = none → Holds S nm no (c no)
  len : ∀ no, 1 ≤ no → no < P.now.many → (cont P c no).length = 508
theorem GoodN.same {P Q : PgP} {S : FsP} {nm : List UInt8} {c : Nat → List UInt8} {k : Nat} (h : GoodN P S nm c) (hs : PgSN P Q c k) : GoodN Q S nm c ∧ cont Q c = cont P c := by
  have e : cont Q c = cont P c := by funext no; unfold cont; rw [hs.ch]
  refine ⟨⟨hs.ok, hs.kept, hs.dead.trans h.dead, by rw [hs.now]; exact h.many, fun no h0 h1 h2 => ?_, fun no h1 h2 => ?_⟩, e⟩
  · rw [hs.now] at h1
    rw [hs.ch] at h2
    exact h.hold no h0 h1 h2
  · rw [e]
    rw [hs.now] at h2
    exact h.len no h1 h2
theorem GoodN.page {P : PgP} {S : FsP} {nm : ByteArray} {c : Nat → List UInt8} (h : GoodN P S nm.data.toList c) {f p no : Nat} {O1 O2 : Nat → Prop} {w : World} (hA : PgA w O2 f p nm P) (hF : FsA w O1 f S) (hs : nm.size ≤ 100) (h0 : 1 ≤ no) (h2 : no < P.now.many) (hrd : P.reads ≤ 1000000) :
    Calls Tryz.prog 39 #[.pointer (some ⟨p, 0, none⟩), .int .i64 (no : Int)] w fun e w' => ∃ t, e = .returned (.tuple #[slV t, .int .i64 0]) ∧ PgA w' (fun i => O2 i ∨ w.heap.size ≤ i) f p nm (pgR P no (c no)) ∧ PgB w' t (cont P c no) ∧ Ch O2 w w' ∧ (O2 t.1 ∨ w.heap.size ≤ t.1) := by
  have := page_at f p no O1 O2 S nm P (c no) w hA hF hs h.ok (by have := h.many; omega) hrd (fun h3 _ => h.hold no h0 h2 h3)
  rw [contN_of h.kept h0] at this
  exact this
/-- A row of numbers of the call's own, apart from the pager. -/
structure FrN (w W : World) (O : Nat → Prop) (f p : Nat) (nm : ByteArray) (v : Value) (l : List Nat) (P Q : PgP) (c : Nat → List UInt8) (k : Nat) : Prop where
  own : W.ownsRow w.heap.size 3 1 v l.length (its (natI l))
  same : PgSN P Q c k
  ch : Ch O w W
  pg : ∃ Oi : Nat → Prop, PgA W Oi f p nm Q ∧ (∀ i, Oi i → O i ∨ w.heap.size ≤ i) ∧ (∀ i, v.ownBlock = some i → w.heap.size ≤ i ∧ i < W.heap.size ∧ ¬ Oi i)
section
variable {w wr w1 w2 : World} {O : Nat → Prop} {f p : Nat} {nm : ByteArray} {v v2 : Value} {l : List Nat} {P Q Q2 : PgP} {c : Nat → List UInt8} {k : Nat}
theorem FrN.below (h : FrN w w1 O f p nm v l P Q c k) (hb : Below w1.heap.size w1 w2) : FrN w w2 O f p nm v l P Q c k := by
  obtain ⟨Oi, h1, h2, h3⟩ := h.pg
  exact ⟨own_ch h.own (Ch.of_below (S := fun _ => False) hb (Nat.le_refl _)) (fun _ _ e => e), h.same, h.ch.trans (Ch.of_below (S := fun _ => False) hb (Nat.le_refl _)) (fun i e => e.elim), Oi, h1.below hb, h2, fun i hi => by
    obtain ⟨a1, a2, a3⟩ := h3 i hi
    have := hb.size
    exact ⟨a1, by omega, a3⟩⟩
theorem FrN.step {Oi : Nat → Prop} {g x : Nat} {b : List UInt8} {o : Obj} (h : FrN w wr O f p nm v l P Q c k) (hOi : ∀ i, Oi i → O i ∨ w.heap.size ≤ i) (hv : ∀ i, v.ownBlock = some i → w.heap.size ≤ i ∧ i < wr.heap.size ∧ ¬ Oi i)
    (k1 : PgA w1 (fun k => (Oi k ∨ wr.heap.size ≤ k) ∧ k < w1.heap.size) f p nm Q2) (kr : Rd w1 w1.heap.size 1 (some ⟨g, 0, none⟩) 508 (bys b)) (kc : Ch Oi wr w1) (kg : Oi g ∨ wr.heap.size ≤ g) (kgl : g < w1.heap.size)
    (g2 : (w1.alloc o).grownBy w2 v.ownBlock) (x2 : v2.ownBlock = v.ownBlock ∨ v2.ownBlock = some (w1.alloc o).heap.size) (o2 : w2.ownsRow w.heap.size 3 1 v2 (l.length + 1) (its (natI l ++ [(x : Int)]))) (hs : PgSN P Q2 c (k + 1)) :
    FrN w w2 O f p nm v2 (l ++ [x]) P Q2 c (k + 1) ∧ Rd w2 w2.heap.size 1 (some ⟨g, 0, none⟩) 508 (bys b) := by
  have hz := kc.size
  have hz2 := g2.size
  have hz1 : (w1.alloc o).heap.size = w1.heap.size + 1 := by simp
  have hzw := h.ch.size
  have hk : ∀ i, i < w1.heap.size → v.ownBlock ≠ some i → w2.heap[i]? = w1.heap[i]? := fun i hi hn => (g2.block i (by omega) (fun e => hn e.symm)).trans (Below.heap_alloc w1 o i hi)
  have hvO : ∀ i, (Oi i ∨ wr.heap.size ≤ i) → v.ownBlock ≠ some i := fun i hi e => by
    obtain ⟨_, a2, a3⟩ := hv i e
    rcases hi with e | e
    · exact a3 e
    · omega
  refine ⟨⟨?_, hs, (h.ch.trans kc hOi).trans ((Ch.refl (fun i => v.ownBlock = some i) w1).alloc o |>.grown g2 (fun i e => .inl e)) (fun i e => .inr (hv i e).1), _, k1.heap (by omega) (fun i hi hl => hk i hl (hvO i hi.1)), fun i hi => ?_, fun i hi => ?_⟩, ?_⟩
  · rw [List.length_append, List.length_singleton, show natI (l ++ [x]) = natI l ++ [(x : Int)] by simp [natI]]
    exact o2
  · rcases hi.1 with e | e
    · exact hOi i e
    · exact .inr (by omega)
  · rcases x2 with e | e
    · rw [e] at hi
      obtain ⟨a1, a2, a3⟩ := hv i hi
      exact ⟨a1, by omega, fun e => hvO i e.1 hi⟩
    · rw [e] at hi
      injection hi with hi
      have h1 := o2.1
      have hlt : i < w2.heap.size := by
        obtain ⟨g', c', hv', _, h4, _⟩ := own_pos o2 (by omega)
        rw [hv'] at e
        simp [Value.ownBlock] at e
        omega
      exact ⟨by omega, hlt, fun e => by have := e.2; omega⟩
  · refine ⟨kr.1, fun h0 => ?_⟩
    obtain ⟨b', o', e, _, hc⟩ := kr.2 h0
    injection e with e
    injection e with e1 e2 _
    subst e1 e2
    exact ⟨g, 0, rfl, by omega, fun j u hu => (World.cell?_of_block (a := ⟨g, 0 + j, none⟩) (hk g kgl (hvO g kg))).trans (hc j u hu)⟩
end
set_option maxHeartbeats 4000000 in
set_option maxRecDepth 100000 in
theorem freesN_any (f p : Nat) (O1 O2 : Nat → Prop) (S : FsP) (nm : ByteArray) (P : PgP) (c : Nat → List UInt8) (F : List Nat) (w : World) (hA : PgA w O2 f p nm P) (hF : FsA w O1 f S) (h12 : ∀ i, O1 i → ¬ O2 i) (hs : nm.size ≤ 100) (hG : GoodN P S nm.data.toList c) (hrd : P.reads + F.length ≤ 1000000)
    (hC : Chain (cont P c) P.now.free F) (hFl : F.length < P.now.many) (hFm : ∀ k ∈ F, k < P.now.many) :
    Calls Tryz.prog 24 #[.pointer (some ⟨p, 0, none⟩)] w fun e w' => ∃ A cc Q, e = .returned (.tuple #[.slice A F.length cc, .int .i64 0]) ∧ FrN w w' O2 f p nm (.slice A F.length cc) F P Q c F.length := by
  obtain ⟨c26, c2, c3, c0, hOp, _⟩ := pc0 hA hG.dead
  have HU := Lib.hid (up_any p false w c26)
  obtain ⟨F0, hF0⟩ : ∃ F0, F0 = P.now.free := ⟨_, rfl⟩
  rw [← hF0] at c3 hC
  have HH := Lib.hid (And.intro hF (And.intro h12 (And.intro hs (And.intro hG (And.intro hrd (And.intro hFl hFm))))))
  have H0 := Lib.hid (And.intro hA hC)
  clear hA hF h12 hs hG hrd hFl hFm hC c2 c0 hOp hF0
  go_enter Tryz.func24, Tryz.ntmps24
  go_wp2_with fail
  with_reducible refine HU.out.mono ?_
  rintro e wz ⟨rfl, hwz⟩
  replace hwz := hwz.symm
  subst hwz
  go_wp2_with fail
  go_loopw [5, 6] (fun s5 s6 wr => ∃ (i x : Nat) (Q : PgP) (A : Option Addr) (cc : Nat), s6 = .int .i64 (x : Int) ∧ s5 = .slice A i cc ∧ Hid (i ≤ F.length ∧ Chain (cont P c) x (F.drop i) ∧ FrN w wr O2 f p nm (.slice A i cc) (F.take i) P Q c i)) (fun s5 _ _ => F.length - slLen s5)
  case atStart => exact ⟨0, F0, P, none, 0, rfl, rfl, Lib.hid ⟨Nat.zero_le _, H0.out.2, ⟨World.ownsRow_nil _ _ _ _, .refl HH.out.2.2.2.1.ok HH.out.2.2.2.1.kept, Ch.refl _ _, O2, H0.out.1, fun i hi => .inl hi, fun i hi => by cases hi⟩⟩⟩
  case round =>
    obtain ⟨i, x, Q, A, cc, rfl, rfl, HI⟩ := hrel
    obtain ⟨hi, hC, hL⟩ := HI.out
    obtain ⟨hF, h12, hs, hG, hrd, hFl, hFm⟩ := HH.out
    obtain ⟨hG2, hce⟩ := hG.same hL.same
    obtain ⟨Oi, hPg, hOi, hv⟩ := hL.pg
    obtain ⟨d26, d2, d3, d0, hOp, hpl⟩ := pc0 hPg hG2.dead
    by_cases hx : x = 0
    · have hdr : F.drop i = [] := by
        cases hd : F.drop i with
        | nil => rfl
        | cons y r =>
          rw [hd] at hC
          have := hC.1
          have := hC.2.1
          omega
      have hiF : i = F.length := by
        have := congrArg List.length hdr
        simp at this; omega
      subst hx
      have HL := Lib.hid hL
      have HI2 := Lib.hid hiF
      clear hC hL hF h12 hs hG hrd hFl hFm hG2 hce hPg hOi hv hOp hpl hi hdr hiF d26 d2 d3 d0
      go_wp2_with fail
      go_ret2
      have hiF := HI2.out
      subst hiF
      have := HL.out
      rw [List.take_of_length_le (Nat.le_refl _)] at this
      exact ⟨A, cc, Q, rfl, this⟩
    · obtain ⟨r, hr⟩ := hC.head hx
      rw [hr] at hC
      obtain ⟨_, hx1, hx2, n, hcx, hn, hC2⟩ := hC
      have hil : i < F.length := by
        rcases Nat.lt_or_ge i F.length with h | h
        · exact h
        · rw [List.drop_of_length_le h] at hr; cases hr
      have hxF : x ∈ F := List.mem_of_mem_drop (i := i) (by rw [hr]; exact List.mem_cons_self ..)
      have hxi : F[i]? = some x := by
        have := congrArg List.head? hr
        simpa [List.head?_drop] using this
      have hr2 : F.drop (i + 1) = r := by
        have := congrArg List.tail hr
        simpa [List.tail_drop] using this
      have hFW : FsA wr O1 f S := hF.ch hL.ch h12
      have hxm : x < Q.now.many := by rw [hL.same.now]; exact hFm x hxF
      have hPa := hG2.page hPg hFW hs hx1 hxm (by have := hL.same.reads; omega)
      rw [hce, hcx] at hPa
      have hPa2 := hPa.mono (R' := fun e w' => ∃ g cg, e = .returned (.tuple #[.slice (some ⟨g, 0, none⟩) 508 cg, .int .i64 0]) ∧ Hid (PgA w' (fun k => (Oi k ∨ wr.heap.size ≤ k) ∧ k < w'.heap.size) f p nm (pgR Q x (c x)) ∧ Rd w' w'.heap.size 1 (some ⟨g, 0, none⟩) 508 (bys (frB n)) ∧ Ch Oi wr w' ∧ (Oi g ∨ wr.heap.size ≤ g) ∧ g < w'.heap.size ∧ 508 ≤ cg)) (by
        rintro e w' ⟨t, rfl, k1, k2, k3, k4⟩
        have k7 := k2.lt
        obtain ⟨g, cg, rfl, k5, k6, _⟩ := k2.rd2 (frB_len _)
        exact ⟨g, cg, rfl, Lib.hid ⟨k1.mono (fun i hi hl => ⟨hi, hl⟩), k5, k3, k4, k7, k6⟩⟩)
      have HPa := Lib.hid hPa2
      have hiM : i < P.now.many := by omega
      rw [hL.same.now] at d2
      obtain ⟨M, hM⟩ : ∃ M, M = P.now.many := ⟨_, rfl⟩
      rw [← hM] at hiM d2
      have hx0 : ¬ (x : Int) = 0 := by omega
      have HJ := Lib.hid (And.intro hL (And.intro hOi (And.intro hv (And.intro hxi (And.intro hr2 (And.intro hC2 (And.intro hn (And.intro hx2 (And.intro hil hce)))))))))
      clear hC2 hL hF h12 hs hG hrd hFl hFm hG2 hce hPg hOi hv hOp hpl hi hr hcx hil hxF hxi hr2 hFW hxm hPa hPa2 hn hx1 hx2 hM hx d26 d3 d0
      go_wp2_with fail
      with_reducible refine HPa.out.mono ?_
      rintro e w1 ⟨g, cg, rfl, H1⟩
      have hown1 : w1.ownsRow w.heap.size 3 1 (.slice A i cc) i (its (natI (F.take i))) := by
        have := own_ch HJ.out.1.own H1.out.2.2.1 (fun j hj => (HJ.out.2.2.1 j hj).2.2)
        rwa [List.length_take, Nat.min_eq_left (by have := HJ.out.2.2.2.2.2.2.2.2.1; omega)] at this
      have HO := Lib.hid hown1
      have HB := Lib.hid (show w.heap.size ≤ w1.heap.size by have := HJ.out.1.ch.size; have := H1.out.2.2.1.size; omega)
      have HN := Lib.hid (fun W (hr : Rd W W.heap.size 1 (some ⟨g, 0, none⟩) 508 (bys (frB n))) => by
        have := get_ok (some ⟨g, 0, none⟩) 508 cg 0 4 (frB n) W hr H1.out.2.2.2.2.2 (by show (0 : Int) + wid 4 ≤ 508; decide) (by omega)
        rw [show (wid 4).toNat = 4 by decide, frB_next HJ.out.2.2.2.2.2.2.1, show ((0 : Nat) : Int) = 0 from rfl] at this
        exact this)
      clear hown1
      go_wp2_with (with_reducible refine at_append ?_; go_loud ((apply ap_its (c := 1) (base := w.heap.size) (w0 := w1) (HO.out.alloc _) (Rd.oneI w1 3 (x : Int)) ((Below.refl _ _).alloc HB.out _) (by have := HB.out; simp; omega) (by have := HH.out.2.2.2.2.1; have := HJ.out.2.2.2.2.2.2.2.2.1; omega)); (case hs => kernel_rfl); (case hx => kernel_rfl); (case hw => kernel_rfl); intro v2 w2 o2 b2 g2 x2; obtain ⟨A2, c2, hv2, _, _⟩ := own_form o2; have HS := HJ.out.1.step (x := x) HJ.out.2.1 HJ.out.2.2.1 H1.out.1 H1.out.2.1 H1.out.2.2.1 H1.out.2.2.2.1 H1.out.2.2.2.2.1 g2 x2 (by rw [List.length_take, Nat.min_eq_left (by have := HJ.out.2.2.2.2.2.2.2.2.1; omega)]; exact o2) (HJ.out.1.same.step (by have := HJ.out.2.2.2.2.2.2.2.1; omega)); have HN2 := HN.out w2 HS.2; replace HN2 := Lib.hid HN2; replace HS := Lib.hid HS; clear o2 b2 g2 x2; subst hv2; try go_frame))
      with_reducible refine HN2.out.mono ?_
      rintro e w3 ⟨rfl, b3⟩
      have HS3 := Lib.hid (HS.out.1.below b3)
      clear b3
      go_wp2_with fail
      go_roundw
      case rel => exact ⟨i + 1, n, _, A2, c2, by rfl, by rfl, Lib.hid ⟨by have := HJ.out.2.2.2.2.2.2.2.2.1; omega, by rw [HJ.out.2.2.2.2.1]; exact HJ.out.2.2.2.2.2.1, by rw [take_step HJ.out.2.2.2.1]; exact HS3.out⟩⟩
      case measure => have := HJ.out.2.2.2.2.2.2.2.2.1; simp [slLen]; omega
/-- A page's bytes are read. -/
theorem GoodN.read {P : PgP} {S : FsP} {nm : ByteArray} {c : Nat → List UInt8} (h : GoodN P S nm.data.toList c) {f p no : Nat} {O1 O2 : Nat → Prop} {w : World} (hA : PgA w O2 f p nm P) (hF : FsA w O1 f S) (hs : nm.size ≤ 100) (h0 : 1 ≤ no) (h2 : no < P.now.many) (hrd : P.reads ≤ 1000000) :
    Calls Tryz.prog 16 #[.pointer (some ⟨p, 0, none⟩), .int .i64 (no : Int)] w fun e w' => ∃ A k B, e = .returned (.tuple #[.slice A 508 k, .int .i64 0]) ∧ w.heap.size ≤ B ∧ w'.ownsRow B 5 1 (.slice A 508 k) 508 (bys (cont P c no)) ∧
      PgA w' (fun i => (O2 i ∨ w.heap.size ≤ i) ∧ i < B) f p nm (pgR P no (c no)) ∧ Ch O2 w w' := by
  have hc : contB P no (c no) = cont P c no := contN_of h.kept h0
  have := pread_any f p no O1 O2 S nm P (c no) w hA hF hs h.ok h.dead h0 h2 h.many hrd (fun h3 _ => h.hold no h0 h2 h3) (by rw [hc]; exact h.len no h0 h2)
  rw [hc] at this
  exact this
end Go.Proofs.YtoadamkmabkldaaGreatDoor
/- The document's pages, free ones and roots; a pager that is what they tell; in plain words. -/
namespace Go.Proofs.YtoadamkmabkldaaGreatDoor

/-- All pages, the free ones (the first one first), the roots. -/
structure StP where
  L : List (List UInt8)
  free : List Nat
  roots : List Nat
def zerosP : List UInt8 := List.replicate 508 0
def newS : StP := ⟨[[]], [], List.replicate 8 0⟩
def allocS (s : StP) : Nat × StP := match s.free with
  | x :: r => (x, { s with L := s.L.set x zerosP, free := r })
  | [] => (s.L.length, { s with L := s.L ++ [zerosP] })
def dropS (s : StP) (no : Nat) : StP := { s with free := no :: s.free }
def writeS (s : StP) (no : Nat) (b : List UInt8) : StP := { s with L := s.L.set no (padB b) }
def rootS (s : StP) (k no : Nat) : StP := { s with roots := s.roots.set k no }
/-- The pages that are neither free nor 0. -/
def usedL (s : StP) : List Nat := (List.range s.L.length).filter fun no => decide (1 ≤ no) && !decide (no ∈ s.free)
def usedS (s : StP) (n : Int) : Nat := (usedL s)[min (max n 0).toNat ((usedL s).length - 1)]?.getD 0
theorem used_ok {s : StP} {n : Int} (h : usedS s n ≠ 0) : 1 ≤ usedS s n ∧ usedS s n < s.L.length ∧ usedS s n ∉ s.free := by
  unfold usedS at *
  cases e : (usedL s)[min (max n 0).toNat ((usedL s).length - 1)]? with
  | none => rw [e] at h; exact absurd rfl h
  | some x =>
    have hx := List.mem_of_getElem? e
    unfold usedL at hx
    rw [List.mem_filter] at hx
    obtain ⟨h1, h2⟩ := hx
    simp at h1 h2
    exact ⟨h2.1, h1, h2.2⟩
/-- What page 0 tells, and the pages, are what the document says. -/
structure RelC (h : HdP) (c : Nat → List UInt8) (s : StP) : Prop where
  ok : h.Ok
  many : s.L.length = h.many
  free : Chain c h.free s.free
  nd : s.free.Nodup
  fb : ∀ k ∈ s.free, 1 ≤ k ∧ k < h.many
  roots : s.roots = h.roots
  pages : ∀ no, 1 ≤ no → no < h.many → no ∉ s.free → s.L[no]? = some (c no)
theorem Chain.congr {c c' : Nat → List UInt8} : ∀ {F : List Nat} {x : Nat}, (∀ k ∈ F, c' k = c k) → Chain c x F → Chain c' x F
  | [], _, _, h => h
  | y :: r, _, he, ⟨h1, h2, h3, n, h4, h5, h6⟩ => ⟨h1, h2, h3, n, by rw [he y (List.mem_cons_self ..)]; exact h4, h5, h6.congr (fun k hk => he k (List.mem_cons_of_mem _ hk))⟩
theorem RelC.congr {h : HdP} {c c' : Nat → List UInt8} {s : StP} (hr : RelC h c s) (he : ∀ k, 1 ≤ k → k < h.many → c' k = c k) : RelC h c' s :=
  ⟨hr.ok, hr.many, hr.free.congr (fun k hk => he k (hr.fb k hk).1 (hr.fb k hk).2), hr.nd, hr.fb, hr.roots, fun no h1 h2 h3 => by rw [he no h1 h2]; exact hr.pages no h1 h2 h3⟩
/-- Two answers that are told alike. -/
theorem RelC.other {h : HdP} {c : Nat → List UInt8} {s t : StP} (hr : RelC h c s) (h1 : t.free = s.free) (h2 : t.L.length = s.L.length) (h3 : t.roots = s.roots) (h4 : ∀ no, 1 ≤ no → no < h.many → no ∉ t.free → t.L[no]? = some (c no)) : RelC h c t :=
  ⟨hr.ok, h2.trans hr.many, by rw [h1]; exact hr.free, by rw [h1]; exact hr.nd, by rw [h1]; exact hr.fb, h3.trans hr.roots, h4⟩
section
variable {h : HdP} {c : Nat → List UInt8} {s : StP}
theorem RelC.new (h0 : h = hd1) (c : Nat → List UInt8) : RelC h c newS := by
  subst h0
  exact ⟨⟨by decide, by decide, by decide, rfl, by decide⟩, rfl, rfl, List.nodup_nil, (fun k hk => by cases hk), rfl, fun no h1 h2 => (by have : no < 1 := h2; omega)⟩
theorem RelC.nochain (hr : RelC h c s) : h.free = 0 ↔ s.free = [] := by
  have hf := hr.free
  cases hs : s.free with
  | nil => rw [hs] at hf; exact ⟨fun _ => rfl, fun _ => hf⟩
  | cons x r =>
    rw [hs] at hf
    refine ⟨fun e => ?_, fun e => by cases e⟩
    have := hf.1; have := hf.2.1; omega
/-- A page at the end. -/
theorem RelC.alloc0 (hr : RelC h c s) (hf : s.free = []) (hm : h.many < 65536) {c' : Nat → List UInt8} (hc : ∀ k, c' k = if k = h.many then zerosP else c k) :
    (allocS s).1 = h.many ∧ RelC { h with many := h.many + 1 } c' (allocS s).2 := by
  have hl := hr.many
  have h0 := hr.nochain.2 hf
  unfold allocS
  rw [hf]
  dsimp only
  refine ⟨hl, ⟨by show 1 ≤ h.many + 1; omega, by show h.many + 1 ≤ 65536; omega, by show h.free < h.many + 1; omega, hr.ok.rl, fun k hk => by have := hr.ok.rt k hk; show k < h.many + 1; omega⟩, by rw [List.length_append, hl]; rfl, h0, List.nodup_nil, (fun k hk => by cases hk), hr.roots, fun no h1 h2 h3 => ?_⟩
  have h2 : no < h.many + 1 := h2
  rw [hc]
  by_cases e : no = h.many
  · rw [if_pos e, e, List.getElem?_append_right (by omega), hl]
    simp
  · rw [if_neg e, List.getElem?_append_left (by omega)]
    exact hr.pages no h1 (by omega) (by rw [hf]; simp)
/-- The first free page. -/
theorem RelC.alloc1 (hr : RelC h c s) {x : Nat} {r : List Nat} (hf : s.free = x :: r) : h.free = x ∧ 1 ≤ x ∧ x < h.many ∧ ∃ n, c x = frB n ∧ n ≤ 65536 ∧ ∀ c' : Nat → List UInt8, (∀ k, c' k = if k = x then zerosP else c k) →
    (allocS s).1 = x ∧ RelC { h with free := n } c' (allocS s).2 := by
  have hl := hr.many
  have hC := hr.free
  rw [hf] at hC
  obtain ⟨h1, h2, h3, n, h4, h5, h6⟩ := hC
  have hnd := hr.nd
  rw [hf] at hnd
  obtain ⟨n1, n2⟩ := List.nodup_cons.1 hnd
  have hfb := hr.fb
  rw [hf] at hfb
  have hx := hfb x (List.mem_cons_self ..)
  refine ⟨h1, h2, hx.2, n, h4, h5, fun c' hc => ?_⟩
  unfold allocS
  rw [hf]
  dsimp only
  have hn : n < h.many := by
    cases r with
    | nil => have : n = 0 := h6; have := hr.ok.m1; omega
    | cons y t => have e := h6.1; have := (hfb y (List.mem_cons_of_mem _ (List.mem_cons_self ..))).2; omega
  refine ⟨rfl, ⟨hr.ok.m1, hr.ok.m2, hn, hr.ok.rl, hr.ok.rt⟩, by rw [List.length_set]; exact hl, ?_, n2, fun k hk => hfb k (List.mem_cons_of_mem _ hk), hr.roots, fun no k1 k2 k3 => ?_⟩
  · exact h6.congr (fun k hk => by rw [hc, if_neg (by rintro rfl; exact n1 hk)])
  · have k2 : no < h.many := k2
    have k3 : no ∉ r := k3
    rw [hc]
    by_cases e : no = x
    · rw [if_pos e, e, List.getElem?_set_self (by omega)]
    · rw [if_neg e, List.getElem?_set_ne (fun e2 => e e2.symm)]
      exact hr.pages no k1 k2 (by rw [hf]; simp [e, k3])
theorem RelC.drop (hr : RelC h c s) {no : Nat} (h1 : 1 ≤ no) (h2 : no < h.many) (h3 : no ∉ s.free) {c' : Nat → List UInt8} (hc : ∀ k, c' k = if k = no then frB h.free else c k) : RelC { h with free := no } c' (dropS s no) := by
  refine ⟨⟨hr.ok.m1, hr.ok.m2, h2, hr.ok.rl, hr.ok.rt⟩, hr.many, ?_, List.nodup_cons.2 ⟨h3, hr.nd⟩, fun k hk => ?_, hr.roots, fun k k1 k2 k3 => ?_⟩
  · refine ⟨rfl, h1, by have := hr.ok.m2; omega, h.free, by rw [hc, if_pos rfl], by have := hr.ok.fr; have := hr.ok.m2; omega, ?_⟩
    exact hr.free.congr (fun k hk => by rw [hc, if_neg (by rintro rfl; exact h3 hk)])
  · rcases List.mem_cons.1 hk with rfl | hk
    · exact ⟨h1, h2⟩
    · exact hr.fb k hk
  · have k3 : k ∉ no :: s.free := k3
    rw [List.mem_cons, not_or] at k3
    rw [hc, if_neg k3.1]
    exact hr.pages k k1 k2 k3.2
theorem RelC.write (hr : RelC h c s) {no : Nat} {b : List UInt8} (h1 : 1 ≤ no) (h2 : no < h.many) (h3 : no ∉ s.free) {c' : Nat → List UInt8} (hc : ∀ k, c' k = if k = no then padB b else c k) : RelC h c' (writeS s no b) := by
  have hl := hr.many
  refine ⟨hr.ok, by show (s.L.set no (padB b)).length = _; rw [List.length_set]; exact hl, hr.free.congr (fun k hk => by rw [hc, if_neg (by rintro rfl; exact h3 hk)]), hr.nd, hr.fb, hr.roots, fun k k1 k2 k3 => ?_⟩
  show (s.L.set no (padB b))[k]? = _
  rw [hc]
  by_cases e : k = no
  · rw [if_pos e, e, List.getElem?_set_self (by omega)]
  · rw [if_neg e, List.getElem?_set_ne (fun e2 => e e2.symm)]
    exact hr.pages k k1 k2 k3
theorem RelC.root (hr : RelC h c s) {k no : Nat} (h2 : no < h.many) : RelC { h with roots := h.roots.set k no } c (rootS s k no) := by
  refine ⟨⟨hr.ok.m1, hr.ok.m2, hr.ok.fr, by show (h.roots.set k no).length = 8; rw [List.length_set]; exact hr.ok.rl, fun j hj => ?_⟩, hr.many, hr.free, hr.nd, hr.fb, by show s.roots.set k no = h.roots.set k no; rw [hr.roots], hr.pages⟩
  rcases List.mem_or_eq_of_mem_set hj with hj | hj
  · exact hr.ok.rt j hj
  · rw [hj]; exact h2
end
/-- What the file has at a number. -/
def cF (L : List (List UInt8)) (no : Nat) : List UInt8 := L[no]?.getD []
theorem cont_put {P : PgP} {c : Nat → List UInt8} (hs : P.ch.Pairwise fun p q => p.1 < q.1) (no : Nat) (b : List UInt8) (now : HdP) (k : Nat) : cont { P with now := now, ch := putK no b P.ch } c k = if k = no then b else cont P c k := by
  unfold cont
  show ((putK no b P.ch).lookup k).getD (c k) = _
  rw [lookup_putK _ _ _ _ hs]
  by_cases e : k = no
  · rw [if_pos e, if_pos e]; rfl
  · rw [if_neg e, if_neg e]
end Go.Proofs.YtoadamkmabkldaaGreatDoor
/- A new store, a pager opened on it. -/
namespace Go.Proofs.YtoadamkmabkldaaGreatDoor
open Go.RowKit Go.Shelf
attribute [local go_sem ↓] Go.wp_at_zero Go.wp_at_succ
@[reducible] def xS : ByteArray := ⟨#[120]⟩
def xN : List UInt8 := [120]
theorem fresh_st (n : Int) : ∃ S1 S2, thereP (newP n) (dbN xN) = (0, S1) ∧ thereP S1 (logN xN) = (0, S2) ∧ St S2 xN [] (newP n).most ∧ S2.fuse = -1 ∧ S1.stamp ≤ 1 ∧ S2.stamp ≤ 2 := by
  have h0 := up_new n
  have hf0 : ∀ s, findP (newP n) s = none := fun s => rfl
  have hr1 : rightP (dbN xN) = true := by decide
  have hr2 : rightP (logN xN) = true := by decide
  have hdl := db_log xN
  have hw0 : (newP n).WF := ⟨by show 1 ≤ (min (max n 1) 65536).toNat; omega, by show (min (max n 1) 65536).toNat ≤ 65536; omega, by show (-1 : Int) ≤ -1; omega, by show (-1 : Int) ≤ 9223372036854775807; omega, fun p hp => (by cases hp), List.Pairwise.nil, by show 0 ≤ _; omega, fun p hp => (by cases hp)⟩
  obtain ⟨c1, u1, us1, m1, s1⟩ := create0 h0 hr1 (hf0 _)
  have w1 : (madeF (newP n) (dbN xN)).WF := madeF_wf hw0 (hf0 _) (by decide)
  have f1 : ∀ s, findP (madeF (newP n) (dbN xN)) s = if s = dbN xN then some ⟨[], [], [], 1⟩ else none := fun s => find_made (hf0 _) s
  have g1 : findP (madeF (newP n) (dbN xN)) (logN xN) = none := by rw [f1, if_neg (Ne.symm hdl)]
  obtain ⟨c2, u2, us2, m2, s2⟩ := create0 u1 hr2 g1
  have w2 := madeF_wf w1 g1 (n := logN xN) (by decide)
  have f2 := fun s => find_made g1 s
  refine ⟨_, _, ?_, ?_, ⟨u2.d, w2, by rw [m2, m1], ⟨⟨[], [], [], 1⟩, by rw [f2, if_neg hdl, f1, if_pos rfl], rfl, fun m => rfl⟩, ⟨_, by rw [f2, if_pos rfl], rfl⟩, by rw [us2, us1]; rfl, fun b hb => (by cases hb)⟩, u2.f, by rw [s1]; exact Nat.le_refl _, by rw [s2, s1]; exact Nat.le_refl _⟩
  · unfold thereP lenP
    rw [h0.d, hf0]
    exact c1
  · unfold thereP lenP
    rw [u1.d, g1]
    exact c2
/-- A pager and its store in memory that the call has made. -/
structure Pw (w W : World) (O1 O2 : Nat → Prop) (f p : Nat) (nm : ByteArray) (P : PgP) (S : FsP) : Prop where
  fs : FsA W O1 f S
  pg : PgA W O2 f p nm P
  l1 : ∀ i, O1 i → w.heap.size ≤ i ∧ i < W.heap.size
  l2 : ∀ i, O2 i → w.heap.size ≤ i ∧ i < W.heap.size
  ne : ∀ i, O1 i → ¬ O2 i
  bl : Below w.heap.size w W
/-- .. after a call. -/
def PwX (w W w' : World) (O1 O2 : Nat → Prop) (f p : Nat) (nm : ByteArray) (P : PgP) (S : FsP) : Prop :=
  ∃ O1' O2' : Nat → Prop, Pw w w' O1' O2' f p nm P S ∧ (∀ i, O1' i → O1 i ∨ W.heap.size ≤ i) ∧ (∀ i, O2' i → O2 i ∨ W.heap.size ≤ i) ∧ Ch (fun i => O1 i ∨ O2 i) W w'
section
variable {w W w' : World} {O1 O2 : Nat → Prop} {f p : Nat} {nm : ByteArray} {P P' : PgP} {S S' : FsP}
theorem Pw.bel (h : Pw w W O1 O2 f p nm P S) (hc : Ch (fun i => O1 i ∨ O2 i) W w') : Below w.heap.size w w' :=
  h.bl.trans (hc.below h.bl.size (fun i hi => by
    rcases hi with e | e
    · exact (h.l1 i e).1
    · exact (h.l2 i e).1))
/-- The pager alone was touched. -/
theorem Pw.pager (h : Pw w W O1 O2 f p nm P S) (hA : PgA w' (fun i => O2 i ∨ W.heap.size ≤ i) f p nm P') (hc : Ch O2 W w') : PwX w W w' O1 O2 f p nm P' S := by
  have hz := hc.size
  have hz2 := h.bl.size
  have hc2 : Ch (fun i => O1 i ∨ O2 i) W w' := hc.mono (fun i e => .inr e)
  refine ⟨O1, fun i => (O2 i ∨ W.heap.size ≤ i) ∧ i < w'.heap.size, ⟨h.fs.ch hc h.ne, hA.mono (fun i hi hl => ⟨hi, hl⟩), fun i hi => ⟨(h.l1 i hi).1, by have := (h.l1 i hi).2; omega⟩, fun i hi => ⟨?_, hi.2⟩, fun i hi e => ?_, h.bel hc2⟩, fun i hi => .inl hi, fun i hi => hi.1, hc2⟩
  · rcases hi.1 with e | e
    · exact (h.l2 i e).1
    · omega
  · rcases e.1 with e | e
    · exact h.ne i hi e
    · have := (h.l1 i hi).2; omega
/-- Both were touched. -/
theorem Pw.both (h : Pw w W O1 O2 f p nm P S) (hF : FsA w' (fun i => O1 i ∨ W.heap.size ≤ i) f S') (hA : PgA w' O2 f p nm P') (hc : Ch (fun i => O1 i ∨ O2 i) W w') : PwX w W w' O1 O2 f p nm P' S' := by
  have hz := hc.size
  have hz2 := h.bl.size
  refine ⟨fun i => (O1 i ∨ W.heap.size ≤ i) ∧ i < w'.heap.size, O2, ⟨hF.mono (fun i hi hl => ⟨hi, hl⟩), hA, fun i hi => ⟨?_, hi.2⟩, fun i hi => ⟨(h.l2 i hi).1, by have := (h.l2 i hi).2; omega⟩, fun i hi e => ?_, h.bel hc⟩, fun i hi => hi.1, fun i hi => .inl hi, hc⟩
  · rcases hi.1 with e | e
    · exact (h.l1 i e).1
    · omega
  · rcases hi.1 with e2 | e2
    · exact h.ne i e2 e
    · have := (h.l2 i e).2; omega
end
/-- The pager of a new file. -/
def pgN : PgP := comD { pg0 with now := hd1 }
def lN : List (List UInt8) := [padB (hdB hd1)]
theorem next_new : nextL [] hd1 [] = lN := rfl
theorem bat_new : BatOk [] hd1 [] := ⟨rfl, Nat.le_refl _, by decide, List.Pairwise.nil, fun q hq => (by cases hq), Nat.zero_le _, fun k h1 h2 h3 => absurd h2 (by show ¬ k < 1; omega)⟩
theorem needC_new : needC 1 1 0 = 17 := by decide
/-- What Open gives on a new store of so many sectors. -/
def OnR (w W w' : World) (O : Nat → Prop) (f M : Nat) (e : Ending) : Prop :=
  (17 ≤ M ∧ ∃ p O1 O2 S, e = .returned (.tuple #[.pointer (some ⟨p, 0, none⟩), .int .i64 0]) ∧ Pw w w' O1 O2 f p xS pgN S ∧ St S xN lN M ∧ S.fuse = -1 ∧ S.stamp ≤ 40000 ∧ (∀ i, O1 i → O i ∨ W.heap.size ≤ i) ∧ (∀ i, O2 i → W.heap.size ≤ i) ∧ Ch O W w') ∨
  (M < 17 ∧ e = .returned (.tuple #[.pointer none, .int .i64 8]) ∧ Ch O W w')
set_option maxHeartbeats 2000000 in
theorem open_new (n : Int) (f : Nat) (O : Nat → Prop) (w W : World) (hF : FsA W O f (newP n)) (hO : ∀ i, O i → w.heap.size ≤ i ∧ i < W.heap.size) (hb : Below w.heap.size w W) :
    Calls Tryz.prog 11 #[.pointer (some ⟨f, 0, none⟩), .string xS] W fun e w' => OnR w W w' O f (newP n).most e := by
  obtain ⟨S1, S2, t1, t2, hSt, hfu, hs1, hs2⟩ := fresh_st n
  have hM : 1 ≤ (newP n).most := by show 1 ≤ (min (max n 1) 65536).toNat; omega
  refine (open_run f O (newP n) S1 S2 S2 0 0 0 xS W (fun p m1 m2 O1 W1 k w' => ∃ w1 e, e = .returned (.int .i64 (k : Int)) ∧ Ch (fun i => i = p) W1 w1 ∧ ComR w1 w' O1 f p m1 m2 xS { pg0 with now := hd1 } S2 0 (fun _ => (0, 0, 0)) (fun _ => (0, 0, 0)) (.slice none 0 0) e ∧ (∀ i, O1 i → i ≠ p ∧ i ≠ m1 ∧ i ≠ m2) ∧ p < W1.heap.size ∧ m1 < W1.heap.size ∧ m2 < W1.heap.size ∧ (∀ i, O1 i → True)) hF rfl (by decide) (by decide) (by show 0 ≤ _; omega) (by omega) t1 (fun _ => t2) ?_ ?_).mono ?_
  · intro _ _ W1 O1 p bp cs hF1 hK hbk
    refine (again_zero f p O1 S2 xS W1 hF1 hK.p0 hK.p1 (by decide) hSt.len.2).mono ?_
    rintro e w' ⟨rfl, q, rfl⟩
    exact ⟨rfl, (hF1.heap (W' := W1.drewN q) (fun _ _ _ => rfl)).mono (fun i hi _ => .inl hi), (Ch.refl _ _).drewN q⟩
  · intro _ _ _ W1 O1 p m1 m2 hM1 hF1 hne
    refine (first_new f p m1 m2 O1 S2 xS _ _ _ W1 hM1 hF1 (fun i hi e => ?_) (by decide) (by omega) hSt.up hSt.len.1).mono ?_
    · obtain ⟨n1, n2, n3⟩ := hne i e
      rcases hi with h | h | h | h | ⟨k, c, hk, _⟩ | ⟨k, hk, _⟩
      · exact n1 h
      · exact n2 h
      · exact n3 h
      · cases h
      · cases hk
      · cases hk
    · rintro e w' ⟨w1, hc, hR⟩
      obtain ⟨k, rfl⟩ := hR.ret
      refine ⟨k, rfl, ⟨w1, _, rfl, hc, hR, hne, hM1.hd.lt, hM1.ch.lt, hM1.cl.lt, fun _ _ => trivial⟩, ?_⟩
      have hc1 : Ch (fun i => O1 i ∨ i = p ∨ i = m1 ∨ i = m2) W1 w1 := hc.mono (fun i e => .inr (.inl e))
      obtain ⟨tch2, _, ⟨_, _, _, _, h5⟩ | ⟨_, rc, S3, _, _, _, _, _, h5⟩ | ⟨_, S3, _, _, _, v2, _, _, h5⟩⟩ := hR
      · exact hc1.trans h5 (fun i e => .inl (.inr (.inr (.inl e))))
      · refine hc1.trans h5 (fun i e => .inl ?_)
        rcases e with e | e | e
        · exact .inl e
        · exact .inr (.inr (.inl e))
        · exact .inr (.inl e)
      · refine hc1.trans h5 (fun i e => .inl ?_)
        rcases e with e | e | e | e | e
        · exact .inl e
        · exact .inr (.inr (.inl e))
        · exact .inr (.inr (.inr e))
        · exact .inr (.inl e)
        · cases e
  · rintro e w' hR
    rcases hR with ⟨h, _⟩ | ⟨_, h, _⟩ | ⟨_, _, h, _⟩ | ⟨_, _, _, p, m1, m2, O1, W1, k, h1, h2, h3, h4, h5, rfl, ⟨w1, e, he, hc1, hR, hne, z1, z2, z3, _⟩, h6⟩
    · exact absurd rfl h
    · exact absurd rfl h
    · exact absurd rfl h
    subst he
    have hz1 := hc1.size
    have hzW := h5.size
    have hbW := hb.size
    have hu : useP S2.fs = 0 := hSt.use
    obtain ⟨tch2, ht2, hR⟩ := hR
    have hmost := hSt.most
    rcases hR with ⟨r1, r2, _⟩ | ⟨r1, rc, S3, r2, r3, _⟩ | ⟨r1, S3, r2, r3, r4, v2, r5, r6, r7⟩
    · injection r2 with r2
      injection r2 with _ r2
      have hk : k = 8 := by omega
      subst hk
      refine .inr ⟨?_, by rw [if_neg (by decide)]; rfl, h6⟩
      have : S2.most - useP S2.fs < 17 := r1
      omega
    · have hroom : needC (0 + 1) 1 0 ≤ S2.most - useP S2.fs := r1
      obtain ⟨S', k1, _⟩ := com_ok (L := []) (h := hd1) (ch := []) hSt hfu bat_new (by show 0 < 180; omega) (by show needC (0 + 1) 1 0 ≤ _; show _ ≤ (newP n).most - 0; omega) (by show 0 ≤ _; omega)
      have : (rc, S3) = (0, S') := r2.trans k1
      exact absurd (congrArg (·.1) this) r3
    · have hroom : needC (0 + 1) 1 0 ≤ S2.most - useP S2.fs := r1
      obtain ⟨S', k1, k2, k3⟩ := com_ok (L := []) (h := hd1) (ch := []) hSt hfu bat_new (by show 0 < 180; omega) (by show needC (0 + 1) 1 0 ≤ _; show _ ≤ (newP n).most - 0; omega) (by show 0 ≤ _; omega)
      have hS : S3 = S' := congrArg (·.2) (r2.trans k1)
      subst hS
      injection r3 with r3
      injection r3 with _ r3
      have hk : k = 0 := by omega
      subst hk
      have hst : S3.stamp ≤ 40000 := by
        have := runS_stamp 5000 (comSteps xN (walB (wls (batP hd1 []))) (batP hd1 [])) S2 (fun k hk S => comStep_stamp (by show 1 ≤ 4096; omega) hk S)
        have e : (comP xN (walB (wls (batP hd1 []))) (batP hd1 []) S2).2 = S3 := congrArg (·.2) k1
        unfold comP at e
        rw [e] at this
        have h6 : (comSteps xN (walB (wls (batP hd1 []))) (batP hd1 [])).length = 6 := rfl
        rw [h6] at this
        omega
      have hz7 := r7.size
      refine .inl ⟨?_, p, fun i => (O1 i ∨ w1.heap.size ≤ i) ∧ i < w'.heap.size, fun i => i = p ∨ i = m1 ∨ i = m2, S3, by rw [if_pos rfl]; rfl, ⟨r4.mono (fun i hi hl => ⟨hi, hl⟩), ⟨m1, m2, tch2, _, v2, r5, fun i hi => ?_⟩, fun i hi => ⟨?_, hi.2⟩, fun i hi => ⟨?_, ?_⟩, fun i hi e => ?_, hb.trans (h6.below hbW (fun i hi => (hO i hi).1))⟩, k2, k3, hst, fun i hi => ?_, fun i hi => ?_, h6⟩
      · have h17 : needC (0 + 1) 1 0 = 17 := needC_new
        omega
      · rcases hi with h | h | h | h | ⟨k, c, hk, _⟩ | ⟨k, hk, _⟩
        · exact .inl h
        · exact .inr (.inl h)
        · exact .inr (.inr h)
        · rw [r6] at h; cases h
        · cases hk
        · cases hk
      · rcases hi.1 with h | h
        · rcases h1 i h with h | h
          · exact (hO i h).1
          · omega
        · omega
      · rcases hi with h | h | h <;> omega
      · rcases hi with h | h | h <;> omega
      · rcases hi.1 with h | h
        · obtain ⟨n1, n2, n3⟩ := hne i h
          rcases e with e | e | e
          · exact n1 e
          · exact n2 e
          · exact n3 e
        · rcases e with e | e | e <;> omega
      · rcases hi.1 with h | h
        · rcases h1 i h with h | h
          · exact .inl h
          · exact .inr h.1
        · exact .inr (by omega)
      · rcases hi with h | h | h <;> omega
end Go.Proofs.YtoadamkmabkldaaGreatDoor
