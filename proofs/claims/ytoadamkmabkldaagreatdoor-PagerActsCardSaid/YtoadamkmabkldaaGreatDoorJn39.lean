/- Contracts of package pager: Write of whatever slice of bytes; SetRoot. -/
import Derived.Test.YtoadamkmabkldaaGreatDoorJn38
set_option linter.unusedVariables false
set_option linter.unusedSimpArgs false
namespace Go.Proofs.YtoadamkmabkldaaGreatDoor
open Go.RowKit Go.Shelf
attribute [local go_sem ↓] Go.wp_at_zero Go.wp_at_succ
set_option maxHeartbeats 1000000 in
set_option maxRecDepth 100000 in
/-- slices.Clone of no bytes, wherever they lie. -/
theorem clone_zero (a : Addr) (c : Nat) (w : World) : Calls Tryz.prog 43 #[.slice (some a) 0 c] w fun e w' => ∃ A' c', e = .returned (.slice A' 0 c') ∧ w'.ownsRow w.heap.size 5 1 (.slice A' 0 c') 0 (bys []) ∧ Below w.heap.size w w' := by
  have q22 : ∀ (w : World) (a : Option Addr) (n c n' c' : Nat), (binOp .eql 22 (.slice a n c) (.slice none n' c')).run Tryz.prog w = .ok (.bool a.isNone) w := fun w a n c n' c' => Lib.run_eql_slice_nil w _ _ a n c n' c' Tryz.underlying22
  have HO := Lib.hid (own_lit0 w 5)
  have HB := Lib.hid ((Below.refl w.heap.size w).alloc (Nat.le_refl _) (.cells #[] 5))
  go_enter Tryz.func43, Tryz.ntmps43
  go_wp2_with (with_reducible refine at_append ?_; go_loud ((apply ap_bys (c := c) (A := some a) (news := []) (B := 0) (base := w.heap.size) (w0 := w) HO.out Rd.empty HB.out (by simp) (by omega)); (case hs => kernel_rfl); (case hx => kernel_rfl); (case hw => kernel_rfl); intro v2 w2 o2 b2 _ _; obtain ⟨A2, c2, hv2, _, _⟩ := own_form o2; subst hv2; replace o2 := Lib.hid (And.intro o2 b2); clear b2; try go_frame))
  go_ret
  exact ⟨A2, c2, rfl, o2.out.1, o2.out.2⟩
theorem clone_all (A : Option Addr) (n c : Nat) (l : List UInt8) (w : World) (hr : Rd w w.heap.size 1 A n (bys l)) (hn : n ≤ 1000000) :
    Calls Tryz.prog 43 #[.slice A n c] w fun e w' => ∃ A' c', e = .returned (.slice A' n c') ∧ w'.ownsRow w.heap.size 5 1 (.slice A' n c') n (bys l) ∧ Below w.heap.size w w' := by
  cases A with
  | none => exact clone_any none n c l w hr (.inl rfl) hn
  | some a =>
    rcases Nat.eq_zero_or_pos n with h | h
    · subst h
      obtain rfl : l = [] := List.eq_nil_of_length_eq_zero hr.blen
      exact clone_zero a c w
    · obtain ⟨b, o, e, _⟩ := hr.2 h
      injection e with e
      subst e
      exact clone_any _ n c l w hr (.inr ⟨b, o, rfl⟩) hn
theorem pwrite_all (f p no n c : Nat) (O : Nat → Prop) (nm : ByteArray) (P : PgP) (A : Option Addr) (b : List UInt8) (w : World) (hP : PgA w O f p nm P) (hok : P.Ok) (hd : P.dead = false) (h1 : 1 ≤ no) (h2 : no < P.now.many) (hm : P.now.many ≤ 65536)
    (hr : Rd w w.heap.size 1 A n (bys b)) (hn : n ≤ 508) :
    Calls Tryz.prog 13 #[.pointer (some ⟨p, 0, none⟩), .int .i64 (no : Int), .slice A n c] w fun e w' => e = .returned (.int .i64 0) ∧ PgA w' (fun i => O i ∨ w.heap.size ≤ i) f p nm { P with ch := putK no (padB b) P.ch } ∧ Ch O w w' := by
  obtain ⟨mch, mcl, tch, tcl, vrow, h, hO⟩ := hP
  have hbl := hr.blen
  have HU := has_any p P.now.many (no : Int) 1 w (by have := h.hd.cell 26; rw [← hd]; exact this) (h.hd.cell 2)
  rw [if_neg (by omega)] at HU
  replace HU := Lib.hid HU
  have HC := Lib.hid (clone_all A n c b w hr (by omega))
  obtain ⟨K, hK⟩ : ∃ K, K = 508 - n := ⟨_, rfl⟩
  have q1 : IntKind.i64.wrap (508 - (n : Int)) = (K : Int) := by rw [IntWalk.i64_in _ (by omega)]; omega
  have hnk : n + K = 508 := by omega
  have HX := Lib.hid (fun w3 A3 c3 (hb : Below w.heap.size w w3) (ho : w3.ownsRow w.heap.size 5 1 (.slice A3 508 c3) 508 (bys (padB b))) =>
    change_any f p mch mcl no 508 c3 nm P tch tcl vrow A3 (padB b) w3 (h.below hb) hok.srt (by have := hok.len; omega) (Rd.of_own ho) (by omega) (by omega) (by omega))
  have hpad : b ++ List.replicate K 0 = padB b := by unfold padB; rw [hbl, hK]
  have HE := Lib.hid (And.intro hnk hpad)
  have HO := Lib.hid (And.intro hO hok.srt)
  have HLt := Lib.hid h.lt
  have hn508 : ¬ (508 : Int) < (n : Int) := by omega
  clear h hO hok hd h1 h2 hm hr hn hbl hK hnk hpad
  go_enter Tryz.func13, Tryz.ntmps13
  go_wp2_with fail
  with_reducible refine HU.out.mono ?_
  rintro e wz ⟨rfl, hwz⟩
  replace hwz := hwz.symm
  subst hwz
  go_wp2_with fail
  with_reducible refine HC.out.mono ?_
  rintro e w2 ⟨A2, c2, rfl, o2, b2⟩
  have H2 := Lib.hid (And.intro o2 b2)
  clear o2 b2
  go_wp2_with (with_reducible refine at_append ?_; go_loud ((apply ap_zeros (w0 := w) H2.out.1 K (K : Int) rfl H2.out.2 H2.out.2.size (by have := HE.out.1; omega)); (case hs => kernel_rfl); (case hx => kernel_rfl); (case hw => kernel_rfl); intro v3 w3 o3 b3 g3 x3; rw [HE.out.1, HE.out.2] at o3; obtain ⟨A3, c3, hv3, _, _⟩ := own_form o3; subst hv3; have H3 := HX.out w3 A3 c3 b3 o3; replace H3 := Lib.hid H3; replace b3 := Lib.hid b3; clear o3 g3 x3; try go_frame))
  with_reducible refine H3.out.mono ?_
  rintro e w4 ⟨rfl, t, k1, k2, k3⟩
  have H4 := Lib.hid (And.intro k1 (And.intro k2 k3))
  clear k1 k2 k3
  go_wp2_with fail
  go_ret
  have z3 := b3.out.size
  refine ⟨rfl, (PgA.put (now := P.now) H4.out.1 HO.out.1 HO.out.2 H4.out.2.1).mono (fun i hi _ => ?_), (Ch.of_below b3.out (Nat.le_refl _)).trans H4.out.2.2 (fun i e => .inl ?_)⟩
  · rcases hi with e | e
    · exact .inl e
    · exact .inr (by omega)
  · rw [e]; exact HO.out.1 _ (.inr (.inl rfl))
/-- A root in memory. -/
theorem rf_root {W : World} {O K : Nat → Prop} {s : Nat} {st : StP} (h : RfA W O K s st) (hR : st.roots.length = 8) (hOK : ∀ i, O i → ¬ K i) (hO : ∀ i, O i → i < W.heap.size) : ∃ rb cR, O rb ∧ rb ≠ s ∧ W.cell? ⟨s, 2, none⟩ = some (.slice (some ⟨rb, 0, none⟩) 8 cR) ∧ rb < W.heap.size ∧
    ∀ k : Nat, k < 8 → (∃ u, W.cell? ⟨rb, k, none⟩ = some u) ∧ W.frozen? ⟨rb, k, none⟩ = false ∧ ∀ (no : Nat) (W2 : World), Below W.heap.size W W2 → RfX W (W2.setCell ⟨rb, k, none⟩ (.int .i64 (no : Int))) O K s (rootS st k no) := by
  obtain ⟨vL, vF, vR, cs, t, hM, hO2, hK2⟩ := h
  have hRr := hM.R
  rw [hR] at hRr
  obtain ⟨rb, cR, rfl, _, hrl, _⟩ := own_pos hRr (by omega)
  obtain ⟨cb, hb⟩ := own_bk hRr (g := rb) rfl
  have hrbO : O rb := hO2 rb (.inr (.inr rfl))
  have hne : rb ≠ s := bk_ne hM.hd hb (by decide)
  refine ⟨rb, cR, hrbO, hne, hM.hd.cell 2, hrl, fun k hk => ⟨?_, hb.free k, fun no W2 hbl => ?_⟩⟩
  · obtain ⟨x, hx⟩ : ∃ x, st.roots[k]? = some x := ⟨_, List.getElem?_eq_getElem (by omega)⟩
    have := hRr.cells (g := rb) rfl k (.int .i64 (x : Int)) (by simp [its, natI, hx])
    rw [addLit, Nat.zero_add] at this
    exact ⟨_, this⟩
  · have hRr2 : W2.ownsRow 0 3 1 (.slice (some ⟨rb, 0, none⟩) 8 cR) 8 (its (natI st.roots)) := own_same hRr (fun i hi => hbl.block i (hRr.lt i hi).2)
    have hst := (hRr2.stored k (.int .i64 (no : Int))).1
    have far : ∀ {j : Nat} {e : TypeId} {c2 : Array Value}, Bk W j e c2 → j ≠ rb → (W2.setCell ⟨rb, k, none⟩ (.int .i64 (no : Int))).heap[j]? = W.heap[j]? := fun hj hne => (Below.heap_setCell W2 ⟨rb, k, none⟩ _ _ hne).trans (hbl.block _ hj.lt)
    have hz := hbl.size
    refine ⟨O, K, ⟨vL, vF, .slice (some ⟨rb, 0, none⟩) 8 cR, cs, t, ⟨(far hM.hd hne.symm).trans hM.hd, own_same hM.L (fun i hi => ?_), ?_, hM.F.heap (by simpa using hz) (fun i hi _ => ?_), fun k2 b h1 h2 => ⟨(hM.rows k2 b h1 h2).1, ?_⟩, fun i hi => ?_, hM.one⟩, hO2, hK2⟩, fun i hi => .inl hi, fun i hi => .inl hi, fun i hi => hi, hOK, ?_⟩
    · obtain ⟨c2, hj⟩ := own_bk hM.L hi
      exact far hj (bk_ne hb hj (by decide))
    · show World.ownsRow _ _ _ _ _ (st.roots.set k no).length (its (natI (st.roots.set k no)))
      rw [List.length_set, hR]
      have e : its (natI (st.roots.set k no)) = (its (natI st.roots)).set k (.int .i64 (no : Int)) := by simp [its, natI, List.map_set]
      rw [e]
      exact hst
    · obtain ⟨c2, hj⟩ := hM.Fi i hi
      refine far hj ?_
      rintro rfl
      exact hOK _ hrbO (hK2 _ (.inl hi))
    · obtain ⟨c2, hj, hj2⟩ := (hM.rows k2 b h1 h2).2
      exact PgB.heap ⟨c2, hj, hj2⟩ (far hj (bk_ne hb hj (by decide)))
    · obtain ⟨c2, hj⟩ := hM.Fi i hi
      refine ⟨c2, (far hj ?_).trans hj⟩
      rintro rfl
      exact hOK _ hrbO (hK2 _ (.inl hi))
    · exact (Ch.of_below (S := O) hbl (Nat.le_refl _)).set (p := ⟨rb, k, none⟩) (.inl hrbO) _
section
variable {w W W' : World} {bx : Nat → Option Obj} {f p s1 s2 : Nat} {P P2 : PgP} {S S2 : FsP} {nw nw2 ls : StP} {L : List (List UInt8)} {i : Nat}
theorem ac_pwr (h : AcM w W bx f p s1 s2 P S nw2 ls) (hI : InvA P S L nw ls i) (hi : i ≤ 1000) {no : Nat} {A : Option Addr} {n c : Nat} {b : List UInt8} (h1 : 1 ≤ no) (h2 : no < nw.L.length) (h3 : no ∉ nw.free) (hr : Rd W W.heap.size 1 A n (bys b)) (hn : n ≤ 508) (hw : nw2 = writeS nw no b) :
    Calls Tryz.prog 13 #[.pointer (some ⟨p, 0, none⟩), .int .i64 (no : Int), .slice A n c] W fun e w' => e = .returned (.int .i64 0) ∧ ∃ P2, AcM w w' bx f p s1 s2 P2 S nw2 ls ∧ InvA P2 S L nw2 ls (i + 1) := by
  subst hw
  obtain ⟨O1, O2, O3, K, h⟩ := h
  have hm : no < P.now.many := by rw [← hI.rn.many]; exact h2
  have hlen := hr.blen
  refine (pwrite_all f p no n c O2 xS P A b W h.pw.pg hI.ok hI.dead h1 hm hI.bat.m2 hr hn).mono ?_
  rintro e w' ⟨rfl, k1, k2⟩
  exact ⟨rfl, _, h.pwx (h.pw.pager k1 k2), hI.write h1 hm h3 (by omega) hi⟩
theorem ac_cells (h : AcM w W bx f p s1 s2 P S nw ls) (hd : P.dead = false) : W.cell? ⟨p, 26, none⟩ = some (.bool false) ∧ W.cell? ⟨p, 2, none⟩ = some (.int .i64 (P.now.many : Int)) := by
  obtain ⟨O1, O2, O3, K, h⟩ := h
  obtain ⟨m1, m2, _, _, _, hM, _⟩ := h.pw.pg
  rw [← hd]
  exact ⟨hM.hd.cell 26, hM.hd.cell 2⟩
theorem ac_sroot (h : AcM w W bx f p s1 s2 P S nw2 ls) (hI : InvA P S L nw ls i) {k no : Nat} (hk : k < 8) (h2 : no < P.now.many) (hn : nw2 = rootS nw k no) :
    Calls Tryz.prog 22 #[.pointer (some ⟨p, 0, none⟩), .int .i64 (k : Int), .int .i64 (no : Int)] W fun e w' => e = .returned (.int .i64 0) ∧ ∃ P2, AcM w w' bx f p s1 s2 P2 S nw2 ls ∧ InvA P2 S L nw2 ls (i + 1) := by
  subst hn
  obtain ⟨O1, O2, O3, K, h⟩ := h
  obtain ⟨mch, mcl, tch, tcl, vrow, hM, hO⟩ := h.pw.pg
  refine (setroot_any f p mch mcl xS P tch tcl vrow W k no hM hI.dead hI.bat.r8 hk h2).mono ?_
  rintro e w' ⟨rfl, k1, k2⟩
  exact ⟨rfl, _, h.pwx (h.pw.pager (P' := { P with now := { P.now with roots := P.now.roots.set k no } }) ⟨mch, mcl, tch, tcl, vrow, k1, fun j hj => .inl (hO j hj)⟩ (k2.mono (fun j hj => by rw [hj]; exact hO _ (.inl rfl)))), hI.root h2⟩
/-- A root of the document. -/
theorem ac_droot (h : AcM w W bx f p s1 s2 P S nw ls) (hR : nw.roots.length = 8) : ∃ rb cR, W.cell? ⟨s1, 2, none⟩ = some (.slice (some ⟨rb, 0, none⟩) 8 cR) ∧ (∀ k : Nat, k < 8 → (∃ u, W.cell? ⟨rb, k, none⟩ = some u) ∧ W.frozen? ⟨rb, k, none⟩ = false ∧ ∀ (no : Nat) q, AcM w ((W.drewN q).setCell ⟨rb, k, none⟩ (.int .i64 (no : Int))) bx f p s1 s2 P S (rootS nw k no) ls) ∧ rb ≠ s1 ∧ ∀ X o, bx X = some o → rb ≠ X := by
  obtain ⟨O1, O2, O3, K, h⟩ := h
  obtain ⟨rb, cR, a1, a2, a3, a4, a5⟩ := rf_root h.now hR h.ok (fun i hi => (h.dis i (.inl hi)).2.2.1)
  refine ⟨rb, cR, a3, fun k hk => ⟨(a5 k hk).1, (a5 k hk).2.1, fun no q => h.state ((a5 k hk).2.2 no (W.drewN q) (below_drewN (Below.refl _ W) q))⟩, a2, fun X o hX e => ?_⟩
  rw [← e] at hX
  exact (h.box rb o hX).2.2.2.1 a1
end
end Go.Proofs.YtoadamkmabkldaaGreatDoor
/- Law 17: change. -/
namespace Go.Proofs.YtoadamkmabkldaaGreatDoor
open Go.RowKit Go.Shelf
attribute [local go_sem ↓] Go.wp_at_zero Go.wp_at_succ
/-- What change leaves. -/
def ChR (w w' : World) (bx : Nat → Option Obj) (f p s1 s2 : Nat) (S : FsP) (ls : StP) (L : List (List UInt8)) (i : Nat) : Prop := ∃ P2 nw2, AcM w w' bx f p s1 s2 P2 S nw2 ls ∧ InvA P2 S L nw2 ls (i + 1)
def actO (kind n k : Int) (AB : Option Addr) (nB cB : Nat) (keep : Int) : Obj := .cells #[.int .i64 kind, .int .i64 n, .int .i64 k, .slice AB nB cB, .int .u64 keep] 54 (0, 0)
section
variable {w W : World} {bx : Nat → Option Obj} {f p s1 s2 : Nat} {P : PgP} {S : FsP} {nw ls : StP} {L : List (List UInt8)} {i : Nat}
theorem act_cells {X : Nat} {kind n k keep : Int} {AB : Option Addr} {nB cB : Nat} (h : AcM w W bx f p s1 s2 P S nw ls) (hb : bx X = some (actO kind n k AB nB cB keep)) :
    W.cell? ⟨X, 0, none⟩ = some (.int .i64 kind) ∧ W.cell? ⟨X, 1, none⟩ = some (.int .i64 n) ∧ W.cell? ⟨X, 2, none⟩ = some (.int .i64 k) ∧ W.cell? ⟨X, 3, none⟩ = some (.slice AB nB cB) ∧ W.cell? ⟨X, 4, none⟩ = some (.int .u64 keep) := by
  have hk := h.bk (X := X) hb
  exact ⟨hk.cell 0, hk.cell 1, hk.cell 2, hk.cell 3, hk.cell 4⟩
set_option maxHeartbeats 8000000 in
set_option maxRecDepth 100000 in
theorem change_any17 (h : AcM w W bx f p s1 s2 P S nw ls) (hI : InvA P S L nw ls i) (hi : i ≤ 1000) (kind n k : Int) (AB : Option Addr) (nB cB : Nat) (b : List UInt8) (keep : Int) (hkind : kind = 0 ∨ kind = 1 ∨ kind = 2 ∨ kind = 3) (hn : -9223372036854775808 ≤ n ∧ n ≤ 9223372036854775807) (hk : -9223372036854775808 ≤ k ∧ k ≤ 9223372036854775807)
    (hB : Rd w w.heap.size 1 AB nB (bys b)) (hn6 : nB ≤ 600) :
    Calls Tryz.prog 26 #[.pointer (some ⟨p, 0, none⟩), .pointer (some ⟨s1, 0, none⟩), .agg #[.int .i64 kind, .int .i64 n, .int .i64 k, .slice AB nB cB, .int .u64 keep]] W fun e w' => e = .returned (.bool true) ∧ ChR w w' bx f p s1 s2 S ls L i := by
  have h0 := h.boxed (actO kind n k AB nB cB keep)
  obtain ⟨bx2, hbx2⟩ : ∃ bx2 : Nat → Option Obj, bx2 = fun i => if i = W.heap.size then some (actO kind n k AB nB cB keep) else bx i := ⟨_, rfl⟩
  rw [← hbx2] at h0
  have hbX : bx2 W.heap.size = some (actO kind n k AB nB cB keep) := by rw [hbx2]; exact if_pos rfl
  have hun : ∀ i o, bx i = some o → bx2 i = some o := fun i o hio => by
    have hlt : i < W.heap.size := by
      obtain ⟨_, _, _, _, h⟩ := h
      exact lt_of_heap (h.box i o hio).1
    rw [hbx2]
    show (if i = W.heap.size then _ else bx i) = _
    rw [if_neg (by omega)]
    exact hio
  have HC := Lib.hid (fun (P : PgP) (nw : StP) (W2 : World) (h : AcM w W2 bx2 f p s1 s2 P S nw ls) => act_cells h hbX)
  have HUn := Lib.hid (fun (P : PgP) (nw : StP) (W2 : World) (h : AcM w W2 bx2 f p s1 s2 P S nw ls) => AcM.unbox h hun)
  have HI := Lib.hid (And.intro hI hi)
  have HBr := Lib.hid (fun (P : PgP) (nw : StP) (W2 : World) (h : AcM w W2 bx2 f p s1 s2 P S nw ls) => show Rd W2 W2.heap.size 1 AB nB (bys b) from (hB.below h.low (Nat.le_refl _)).more h.low.size)
  have HUs := Lib.hid (ac_used h0 hI (by omega) n hn)
  obtain ⟨no, hno⟩ : ∃ no, no = usedS nw n := ⟨_, rfl⟩
  rw [← hno] at HUs
  have HNo := Lib.hid (show no ≠ 0 → 1 ≤ no ∧ no < nw.L.length ∧ no ∉ nw.free from fun e => by rw [hno] at e ⊢; exact used_ok e)
  have HNm := Lib.hid (show no < P.now.many from by
    have h1 := hI.rn.many
    have h2 := hI.bat.m1
    rcases Nat.eq_zero_or_pos no with e | e
    · omega
    · have := (HNo.out (by omega)).2.1; omega)
  have HBx := Lib.hid (show ∀ rb, (∀ X o, bx2 X = some o → rb ≠ X) → rb ≠ W.heap.size from fun rb h => h _ _ hbX)
  have hc0 : (W.alloc (actO kind n k AB nB cB keep)).cell? ⟨W.heap.size, 1, none⟩ = some (.int .i64 n) := (act_cells h0 hbX).2.1
  unfold actO at hc0 HUs
  have hbl := hB.blen
  have HBl := Lib.hid hbl
  clear h h0 hI hi hn hB hbx2 hbX hun hno hbl
  go_enter Tryz.func26, Tryz.ntmps26
  go_wp2_with fail
  with_reducible refine HUs.out.mono ?_
  rintro e w2 ⟨rfl, h2⟩
  have H2 := Lib.hid h2
  clear h2 HUs hc0
  rcases hkind with rfl | rfl | rfl | rfl
  · -- Alloc
    obtain ⟨d0, d1, d2, d3, _⟩ := HC.out _ _ _ H2.out
    have HA := Lib.hid (ac_palloc H2.out HI.out.1 (by have := HI.out.2; omega))
    go_wp2_with fail
    with_reducible refine HA.out.mono ?_
    rintro e w3 ⟨rfl, P3, h3, hI3⟩
    have HS := Lib.hid (ac_salloc h3 hI3 HI.out.1 (by have := HI.out.2; omega))
    have HI3 := Lib.hid hI3
    clear h3 hI3 HA d0 d1 d2 d3
    go_wp2_with fail
    with_reducible refine HS.out.mono ?_
    rintro e w4 ⟨rfl, h4⟩
    have H4 := Lib.hid h4
    clear h4 HS
    go_wp2_with fail
    go_ret
    exact ⟨rfl, P3, _, HUn.out _ _ _ H4.out, HI3.out⟩
  · -- Free
    obtain ⟨d0, d1, d2, d3, _⟩ := HC.out _ _ _ H2.out
    rcases Nat.eq_zero_or_pos no with hz | hp
    · subst hz
      go_wp2_with fail
      go_ret
      exact ⟨rfl, P, nw, HUn.out _ _ _ H2.out, HI.out.1.more (Nat.le_succ _)⟩
    · obtain ⟨n1, n2, n3⟩ := HNo.out (by omega)
      have hp2 : (0 : Int) < (no : Int) := by omega
      have HD := Lib.hid (ac_sdrop H2.out HI.out.1 (by have := HI.out.2; omega) no)
      have HN := Lib.hid (And.intro n1 (And.intro n2 n3))
      clear n1 n2 n3
      go_wp2_with fail
      with_reducible refine HD.out.mono ?_
      rintro e w3 ⟨rfl, h3⟩
      have HFr := Lib.hid (ac_pfree h3 HI.out.1 (by have := HI.out.2; omega) HN.out.1 HN.out.2.1 HN.out.2.2 rfl)
      clear h3 HD d0 d1 d2 d3
      go_wp2_with fail
      with_reducible refine HFr.out.mono ?_
      rintro e w4 ⟨rfl, P4, h4, hI4⟩
      have H4 := Lib.hid (And.intro h4 hI4)
      clear h4 hI4 HFr
      go_wp2_with fail
      go_ret
      exact ⟨rfl, P4, _, HUn.out _ _ _ H4.out.1, H4.out.2⟩
  · -- Write
    obtain ⟨d0, d1, d2, d3, _⟩ := HC.out _ _ _ H2.out
    rcases Nat.eq_zero_or_pos no with hz | hp
    · subst hz
      go_wp2_with fail
      go_ret
      exact ⟨rfl, P, nw, HUn.out _ _ _ H2.out, HI.out.1.more (Nat.le_succ _)⟩
    · obtain ⟨n1, n2, n3⟩ := HNo.out (by omega)
      have hp2 : (0 : Int) < (no : Int) := by omega
      have hp3 : ¬ (no : Int) = 0 := by omega
      by_cases hl : nB ≤ 508
      · have hl2 : (nB : Int) ≤ 508 := by omega
        have HWr := Lib.hid (ac_swrite (c := cB) H2.out HI.out.1 (by have := HI.out.2; omega) n1 n2 (HBr.out _ _ _ H2.out) hl)
        have HN := Lib.hid (And.intro n1 (And.intro n2 n3))
        clear n1 n2 n3
        go_wp2_with fail
        with_reducible refine HWr.out.mono ?_
        rintro e w3 ⟨rfl, h3⟩
        obtain ⟨d0', d1', d2', d3', _⟩ := HC.out _ _ _ h3
        have HPw := Lib.hid (ac_pwr (c := cB) h3 HI.out.1 (by have := HI.out.2; omega) HN.out.1 HN.out.2.1 HN.out.2.2 (HBr.out _ _ _ h3) hl rfl)
        clear h3 HWr d0 d1 d2 d3
        go_wp2_with fail
        with_reducible refine HPw.out.mono ?_
        rintro e w4 ⟨rfl, P4, h4, hI4⟩
        have H4 := Lib.hid (And.intro h4 hI4)
        clear h4 hI4 HPw
        go_wp2_with fail
        go_ret
        exact ⟨rfl, P4, _, HUn.out _ _ _ H4.out.1, H4.out.2⟩
      · have hl2 : ¬ (nB : Int) ≤ 508 := by omega
        obtain ⟨k26, k2⟩ := ac_cells H2.out HI.out.1.dead
        have HPw := Lib.hid (pwrite_long p P.now.many (no : Int) AB nB cB w2 k26 k2 (by have := HNm.out; omega) (by omega))
        clear n1 n2 n3 k26 k2
        go_wp2_with fail
        with_reducible refine HPw.out.mono ?_
        rintro e w3 ⟨rfl, hw3⟩
        subst hw3
        go_wp2_with fail
        go_ret
        exact ⟨rfl, P, nw, HUn.out _ _ _ H2.out, HI.out.1.more (Nat.le_succ _)⟩
  · -- SetRoot
    obtain ⟨d0, d1, d2, d3, _⟩ := HC.out _ _ _ H2.out
    by_cases hkr : 0 ≤ k ∧ k < 8
    · obtain ⟨k1, rfl⟩ : ∃ k1 : Nat, k = (k1 : Int) := ⟨k.toNat, by omega⟩
      have hk8 : k1 < 8 := by omega
      have hk80 : (0 : Int) ≤ (k1 : Int) := by omega
      have hk81 : (k1 : Int) < 8 := by omega
      obtain ⟨rb, cR, g1, g2, g3, g4⟩ := ac_droot H2.out (by rw [HI.out.1.rn.roots]; exact HI.out.1.bat.r8)
      obtain ⟨⟨u, hu⟩, hfz, hroot⟩ := g2 k1 hk8
      have hX := HBx.out rb g4
      have H3 := Lib.hid (show AcM w (w2.setCell ⟨rb, k1, none⟩ (.int .i64 (no : Int))).drew bx2 f p s1 s2 P S (rootS nw k1 no) ls from AcM.below (W := w2.setCell ⟨rb, k1, none⟩ (.int .i64 (no : Int))) (hroot no 0) (Below.refl _ _).drew)
      have hS0 : w2.drew.cell? ⟨s1, 2, none⟩ = some (.slice (some ⟨rb, 0, none⟩) 8 cR) ∧ w2.drew.cell? ⟨W.heap.size, 2, none⟩ = some (.int .i64 (k1 : Int)) := ⟨g1, d2⟩
      have hS1 : ∀ v, (w2.drew.setCell ⟨rb, k1, none⟩ v).cell? ⟨s1, 2, none⟩ = some (.slice (some ⟨rb, 0, none⟩) 8 cR) ∧ (w2.drew.setCell ⟨rb, k1, none⟩ v).cell? ⟨W.heap.size, 2, none⟩ = some (.int .i64 (k1 : Int)) := fun v => ⟨(World.cell?_of_block (a := ⟨s1, 2, none⟩) (Below.heap_setCell w2.drew ⟨rb, k1, none⟩ v s1 g3.symm)).trans g1, (World.cell?_of_block (a := ⟨W.heap.size, 2, none⟩) (Below.heap_setCell w2.drew ⟨rb, k1, none⟩ v W.heap.size hX.symm)).trans d2⟩
      have hud : w2.drew.cell? ⟨rb, k1, none⟩ = some u := hu
      have hfd : w2.drew.frozen? ⟨rb, k1, none⟩ = false := hfz
      clear hroot g4
      go_wp2_with fail
      go_region_held3 (fun w' => w'.cell? ⟨s1, 2, none⟩ = some (.slice (some ⟨rb, 0, none⟩) 8 cR) ∧ w'.cell? ⟨W.heap.size, 2, none⟩ = some (.int .i64 (k1 : Int))) (first | exact hS0 | exact hS1 _ | go_keep) (fail)
      generalize (w2.setCell ⟨rb, k1, none⟩ (.int .i64 (no : Int))).drew = w3 at *
      obtain ⟨e0, e1, e2, e3, _⟩ := HC.out _ _ _ H3.out
      have HSr := Lib.hid (ac_sroot H3.out HI.out.1 hk8 HNm.out rfl)
      clear hS0 hS1 hud hfd d0 d1 d2 d3 hu hfz g1
      go_wp2_with fail
      with_reducible refine HSr.out.mono ?_
      rintro e w4 ⟨rfl, P4, h4, hI4⟩
      have H4 := Lib.hid (And.intro h4 hI4)
      clear h4 hI4 HSr
      go_wp2_with fail
      go_ret
      exact ⟨rfl, P4, _, HUn.out _ _ _ H4.out.1, H4.out.2⟩
    · obtain ⟨k26, k2⟩ := ac_cells H2.out HI.out.1.dead
      have HSb := Lib.hid (setroot_bad p P.now.many k (no : Int) w2 k26 k2 (by have := HNm.out; omega) (by omega))
      have hdk : (decide (0 ≤ k) && decide (k < 8)) = false := by
        rw [Bool.and_eq_false_iff]
        rcases Int.lt_or_le k 0 with e | e
        · left; simp; omega
        · right; simp; omega
      clear k26 k2
      rcases Int.lt_or_le k 0 with hk0 | hk0
      · have hk1 : ¬ (0 : Int) ≤ k := by omega
        clear hkr hdk
        go_wp2_with fail
        with_reducible refine HSb.out.mono ?_
        rintro e w3 ⟨rfl, hw3⟩
        subst hw3
        go_wp2_with fail
        go_ret
        exact ⟨rfl, P, nw, HUn.out _ _ _ H2.out, HI.out.1.more (Nat.le_succ _)⟩
      · have hk1 : ¬ k < 8 := by omega
        clear hkr hdk
        go_wp2_with fail
        with_reducible refine HSb.out.mono ?_
        rintro e w3 ⟨rfl, hw3⟩
        subst hw3
        go_wp2_with fail
        go_ret
        exact ⟨rfl, P, nw, HUn.out _ _ _ H2.out, HI.out.1.more (Nat.le_succ _)⟩
end
end Go.Proofs.YtoadamkmabkldaaGreatDoor
/- PagerActs: Commit, Abort, copies, the store's calls, opening anew, in the memory between acts. -/
namespace Go.Proofs.YtoadamkmabkldaaGreatDoor
open Go.RowKit Go.Shelf
attribute [local go_sem ↓] Go.wp_at_zero Go.wp_at_succ
/-- The pages L, page 0 telling h, are what st says. -/
structure PgV (L : List (List UInt8)) (h : HdP) (st : StP) (j : Nat) : Prop where
  l0 : L[0]? = some (padB (hdB h))
  ll : L.length = h.many
  rel : RelC h (cF L) st
  b : h.many ≤ j + 1
theorem PgV.more {L : List (List UInt8)} {h : HdP} {st : StP} {j k : Nat} (hp : PgV L h st j) (hj : j ≤ k) : PgV L h st k := ⟨hp.l0, hp.ll, hp.rel, by have := hp.b; omega⟩
/-- A store and what is told of it, no pager open. -/
def AcB (w W : World) (bx : Nat → Option Obj) (f s2 s3 : Nat) (S : FsP) (ls en : StP) : Prop :=
  ∃ O1 K : Nat → Prop, FsA W O1 f S ∧ RfA W K K s2 ls ∧ RfA W K K s3 en ∧ (∀ i, O1 i → w.heap.size ≤ i ∧ i < W.heap.size) ∧ (∀ i, K i → ¬ O1 i ∧ i < W.heap.size ∧ w.heap.size ≤ i) ∧ (∀ i o, bx i = some o → W.heap[i]? = some o ∧ ¬ O1 i ∧ ¬ K i ∧ w.heap.size ≤ i) ∧ Below w.heap.size w W
/-- A pager open on it. -/
def AcN (w W : World) (bx : Nat → Option Obj) (f p s2 s3 : Nat) (P : PgP) (S : FsP) (ls en : StP) : Prop :=
  ∃ O1 O2 K : Nat → Prop, Pw w W O1 O2 f p xS P S ∧ RfA W K K s2 ls ∧ RfA W K K s3 en ∧ (∀ i, K i → ¬ O1 i ∧ ¬ O2 i ∧ i < W.heap.size ∧ w.heap.size ≤ i) ∧ (∀ i o, bx i = some o → W.heap[i]? = some o ∧ ¬ O1 i ∧ ¬ O2 i ∧ ¬ K i ∧ w.heap.size ≤ i)
section
variable {w W W' : World} {bx : Nat → Option Obj} {f p s1 s2 s3 : Nat} {P P2 : PgP} {S S2 : FsP} {nw nw2 ls en st : StP} {L L2 : List (List UInt8)} {i j : Nat}
theorem ac_commit (h : AcM w W bx f p s1 s2 P S nw ls) (hI : InvA P S L nw ls j) (hj : j ≤ 177) : Calls Tryz.prog 14 #[.pointer (some ⟨p, 0, none⟩)] W fun e w' =>
    (e = .returned (.int .i64 0) ∧ ∃ P2 S2 L2, AcM w w' bx f p s1 s2 P2 S2 nw ls ∧ InvA P2 S2 L2 nw nw (j + 1)) ∨
    (e = .returned (.int .i64 9) ∧ ∃ P2 S2 L2, AcM w w' bx f p s1 s2 P2 S2 nw ls ∧ Dn S2 xN L L2 65536 ∧ S2.stamp ≤ 4600 * (j + 1) + 40000 ∧ PgV L P.last ls (j + 1) ∧ PgV L2 P.now nw (j + 1)) := by
  obtain ⟨O1, O2, O3, K, h⟩ := h
  have hb1 := hI.bm
  have hb2 := hI.bl
  have hb3 := hI.bc
  have hb4 := hI.bs
  have hll := hI.ll
  refine (com_pw h.pw hI.ok hI.dead hI.st hI.bat (by omega) (by omega) hI.l1 (by omega) (by omega)).mono ?_
  rintro e w' (⟨r1, r2, r3, r4⟩ | ⟨_, r1, _⟩ | ⟨_, _, S3, r1, r2, _, r4, r5⟩ | ⟨_, _, _, S3, r1, r2, r3, r4⟩)
  · exact .inl ⟨r3, P, S, L, h.pwx r4, hI.same r1 r2⟩
  · have := hI.room hj
    omega
  · exact .inl ⟨r1, _, S3, _, h.pwx r5, hI.commit r2 r4 hj⟩
  · have hI2 : RelC P.now (cF (nextL L P.now P.ch)) nw := hI.rn.congr (fun k k1 k2 => cF_next (by omega) k2)
    exact .inr ⟨r1, _, S3, _, h.pwx r4, r2, by omega, ⟨hI.l0, hI.ll, hI.rl, by omega⟩, ⟨by rw [nextL_at L P.now P.ch (by have := hI.bat.m1; omega), if_pos rfl], nextL_len _ _ _, hI2, by omega⟩⟩
theorem ac_abort (h : AcM w W bx f p s1 s2 P S nw ls) (hd : P.dead = false) : Calls Tryz.prog 25 #[.pointer (some ⟨p, 0, none⟩)] W fun e w' => e = .returned (.int .i64 0) ∧ AcM w w' bx f p s1 s2 (giveP P) S nw ls := by
  obtain ⟨O1, O2, O3, K, h⟩ := h
  obtain ⟨mch, mcl, tch, tcl, vrow, hM, hO⟩ := h.pw.pg
  refine (abort_any f p mch mcl xS P tch tcl vrow W hM hd).mono ?_
  rintro e w' ⟨rfl, k1, k2⟩
  refine ⟨rfl, h.pwx (h.pw.pager (P' := giveP P) ⟨mch, mcl, tch, tcl, vrow, k1, fun j hj => .inl (hO j ?_)⟩ (k2.mono (fun j hj => ?_)))⟩
  · rcases hj with e | e | e | e | ⟨k, b, e, _⟩ | e
    · exact .inl e
    · exact .inr (.inl e)
    · exact .inr (.inr (.inl e))
    · exact .inr (.inr (.inr (.inl e)))
    · cases e
    · exact .inr (.inr (.inr (.inr (.inr e))))
  · rcases hj with e | e
    · exact hO _ (.inl e)
    · exact hO _ (.inr (.inl e))
/-- A copy of `now`. -/
theorem ac_copy_now (h : AcM w W bx f p s1 s2 P S nw ls) (h1 : nw.L.length ≤ 100000) (h2 : nw.free.length ≤ 100000) (h3 : nw.roots.length = 8) : Calls Tryz.prog 27 #[.pointer (some ⟨s1, 0, none⟩)] W fun e w' => ∃ s4, e = .returned (.pointer (some ⟨s4, 0, none⟩)) ∧ Hid (∃ O1 O2 O3 K, AcS w w' O1 O2 O3 K bx f p s1 s2 P S nw ls ∧ RfA w' K K s4 nw) := by
  obtain ⟨O1, O2, O3, K, h⟩ := h
  have hbl := h.pw.bl.size
  refine (copy_any17 s1 nw O3 K W h.now (by omega) (by omega) h3).mono ?_
  rintro e w' ⟨s4, rfl, O4, K4, c1, c2, c3, c4, c5⟩
  have hz := c5.size
  obtain ⟨O1', O2', O3', K', hb⟩ := AcM.below ⟨O1, O2, O3, K, h⟩ c5
  refine ⟨s4, rfl, Lib.hid ⟨O1, O2, O3, fun i => K i ∨ K4 i ∨ O4 i, ⟨h.pw.keep (T := fun _ => False) (Ch.of_below c5 (Nat.le_refl _)) (fun i e => e.elim), (h.now.below c5).mono (fun i hi _ => hi) (fun i hi _ => .inl hi), (h.last.below c5).mono (fun i hi _ => .inl hi) (fun i hi _ => .inl hi), fun i hi => ?_, fun i hi e => ?_, fun i o hi => ?_⟩, c1.mono (fun i hi _ => .inr (.inr hi)) (fun i hi _ => ?_)⟩⟩
  · have hc : (O3 i ∨ K i) ∨ (W.heap.size ≤ i ∧ i < w'.heap.size) := by
      rcases hi with hi | hi | hi | hi
      · exact .inl (.inl hi)
      · exact .inl (.inr hi)
      · exact .inr (c3 i hi)
      · exact .inr (c2 i hi)
    rcases hc with e | e
    · obtain ⟨a1, a2, a3, a4⟩ := h.dis i e
      exact ⟨a1, a2, by omega, a4⟩
    · exact ⟨fun e2 => by have := (h.pw.l1 i e2).2; omega, fun e2 => by have := (h.pw.l2 i e2).2; omega, e.2, by omega⟩
  · have hlt := (h.dis i (.inl hi)).2.2.1
    rcases e with e | e | e
    · exact h.ok i hi e
    · have := c3 i e; omega
    · have := c2 i e; omega
  · obtain ⟨b1, b2, b3, b4, b5, b6⟩ := h.box i o hi
    have hl := lt_of_heap b1
    refine ⟨(c5.block i hl).trans b1, b2, b3, b4, fun e => ?_, b6⟩
    rcases e with e | e | e
    · exact b5 e
    · have := c3 i e; omega
    · have := c2 i e; omega
  · rcases hi with hi | hi
    · exact .inl hi
    · exact .inr (.inl hi)
theorem AcM.last {s4 : Nat} (h : Hid (∃ O1 O2 O3 K, AcS w W O1 O2 O3 K bx f p s1 s2 P S nw ls ∧ RfA W K K s4 nw)) : AcM w W bx f p s1 s4 P S nw nw := by
  obtain ⟨O1, O2, O3, K, h1, h2⟩ := h.out
  exact ⟨O1, O2, O3, K, h1.pw, h1.now, h2, h1.dis, h1.ok, h1.box⟩
theorem AcM.ended {s4 : Nat} (h : Hid (∃ O1 O2 O3 K, AcS w W O1 O2 O3 K bx f p s1 s2 P S nw ls ∧ RfA W K K s4 nw)) : AcB w W bx f s2 s4 S ls nw := by
  obtain ⟨O1, O2, O3, K, h1, h2⟩ := h.out
  exact ⟨O1, K, h1.pw.fs, h1.last, h2, h1.pw.l1, fun i hi => by obtain ⟨a1, a2, a3, a4⟩ := h1.dis i (.inr hi); exact ⟨a1, a3, a4⟩, fun i o hi => by obtain ⟨b1, b2, b3, b4, b5, b6⟩ := h1.box i o hi; exact ⟨b1, b2, b5, b6⟩, h1.pw.bl⟩
theorem AcM.close (h : AcM w W bx f p s1 s2 P S nw ls) : AcB w W bx f s2 s2 S ls ls := by
  obtain ⟨O1, O2, O3, K, h1⟩ := h
  exact ⟨O1, K, h1.pw.fs, h1.last, h1.last, h1.pw.l1, fun i hi => by obtain ⟨a1, a2, a3, a4⟩ := h1.dis i (.inr hi); exact ⟨a1, a3, a4⟩, fun i o hi => by obtain ⟨b1, b2, b3, b4, b5, b6⟩ := h1.box i o hi; exact ⟨b1, b2, b5, b6⟩, h1.pw.bl⟩
theorem AcM.open_ (h : AcM w W bx f p s1 s2 P S nw ls) : AcN w W bx f p s2 s2 P S ls ls := by
  obtain ⟨O1, O2, O3, K, h1⟩ := h
  exact ⟨O1, O2, K, h1.pw, h1.last, h1.last, fun i hi => h1.dis i (.inr hi), fun i o hi => by obtain ⟨b1, b2, b3, b4, b5, b6⟩ := h1.box i o hi; exact ⟨b1, b2, b3, b5, b6⟩⟩
/-- A copy of what lasts is `now`. -/
theorem an_copy (h : AcN w W bx f p s2 s3 P S ls en) (hs : st = ls ∧ i = s2 ∨ st = en ∧ i = s3) (h1 : st.L.length ≤ 100000) (h2 : st.free.length ≤ 100000) (h3 : st.roots.length = 8) : Calls Tryz.prog 27 #[.pointer (some ⟨i, 0, none⟩)] W fun e w' => ∃ s4, e = .returned (.pointer (some ⟨s4, 0, none⟩)) ∧ Hid (AcM w w' bx f p s4 i P S st st) := by
  obtain ⟨O1, O2, K, k1, k2, k3, k4, k5⟩ := h
  have hR : RfA W K K i st := by
    rcases hs with ⟨rfl, rfl⟩ | ⟨rfl, rfl⟩
    · exact k2
    · exact k3
  have hbl := k1.bl.size
  refine (copy_any17 i st K K W hR (by omega) (by omega) h3).mono ?_
  rintro e w' ⟨s4, rfl, O4, K4, c1, c2, c3, c4, c5⟩
  have hz := c5.size
  refine ⟨s4, rfl, Lib.hid ⟨O1, O2, O4, fun i => K i ∨ K4 i, k1.keep (T := fun _ => False) (Ch.of_below c5 (Nat.le_refl _)) (fun i e => e.elim), c1, (hR.below c5).mono (fun i hi _ => .inl hi) (fun i hi _ => .inl hi), fun i hi => ?_, fun i hi e => ?_, fun i o hi => ?_⟩⟩
  · have hc : K i ∨ (W.heap.size ≤ i ∧ i < w'.heap.size) := by
      rcases hi with hi | hi | hi
      · exact .inr (c2 i hi)
      · exact .inl hi
      · exact .inr (c3 i hi)
    rcases hc with e | e
    · obtain ⟨a1, a2, a3, a4⟩ := k4 i e
      exact ⟨a1, a2, by omega, a4⟩
    · exact ⟨fun e2 => by have := (k1.l1 i e2).2; omega, fun e2 => by have := (k1.l2 i e2).2; omega, e.2, by omega⟩
  · rcases e with e | e
    · have := (k4 i e).2.2.1; have := c2 i hi; omega
    · exact c4 i hi e
  · obtain ⟨b1, b2, b3, b4, b5⟩ := k5 i o hi
    have hl := lt_of_heap b1
    refine ⟨(c5.block i hl).trans b1, b2, b3, fun e => ?_, fun e => ?_, b5⟩
    · have := c2 i e; omega
    · rcases e with e | e
      · exact b4 e
      · have := c3 i e; omega
theorem ac_down (h : AcM w W bx f p s1 s2 P S nw ls) : Calls Tryz.prog 30 #[.pointer (some ⟨f, 0, none⟩)] W fun e w' => e = .returned (.bool S.down) ∧ w' = W := by
  obtain ⟨O1, O2, O3, K, h⟩ := h
  obtain ⟨m, bl, gl, sv, hM, _⟩ := h.pw.fs
  exact down_any f m bl gl sv S W hM
theorem ab_down (h : AcB w W bx f s2 s3 S ls en) : Calls Tryz.prog 30 #[.pointer (some ⟨f, 0, none⟩)] W fun e w' => e = .returned (.bool S.down) ∧ w' = W := by
  obtain ⟨O1, K, h, _⟩ := h
  obtain ⟨m, bl, gl, sv, hM, _⟩ := h
  exact down_any f m bl gl sv S W hM
theorem ac_fuse (h : AcM w W bx f p s1 s2 P S nw ls) (n : Int) (hn : n ≤ 9223372036854775807) : Calls Tryz.prog 29 #[.pointer (some ⟨f, 0, none⟩), .int .i64 n] W fun e w' => e = .returned (.tuple #[]) ∧ AcM w w' bx f p s1 s2 P (fuseP S n) nw ls := by
  obtain ⟨O1, O2, O3, K, h⟩ := h
  refine (fuse_any f O1 S n W h.pw.fs hn).mono ?_
  rintro e w' ⟨rfl, k1, k2⟩
  have hz := k2.size
  exact ⟨rfl, h.pwx (h.pw.both (k1.mono (fun i hi _ => .inl hi)) (h.pw.pg.heap hz (fun i hi hl => k2.block i hl (fun e => h.pw.ne i e hi))) (k2.mono (fun i hi => .inl hi)))⟩
theorem ab_crash (h : AcB w W bx f s2 s3 S ls en) (hst : S.stamp ≤ 1000000) (keep : UInt64) : Calls Tryz.prog 28 #[.pointer (some ⟨f, 0, none⟩), .int .u64 (keep.toNat : Int)] W fun e w' => e = .returned (.tuple #[]) ∧ AcB w w' bx f s2 s3 (crashP S keep) ls en := by
  obtain ⟨O1, K, k1, k2, k3, k4, k5, k6, k7⟩ := h
  refine (crash_any f O1 S keep W k1 hst).mono ?_
  rintro e w' ⟨rfl, r1, r2⟩
  have hz := r2.size
  refine ⟨rfl, O1, K, r1, k2.ch r2 (fun i hi => (k5 i hi).1) (fun i hi => (k5 i hi).1), k3.ch r2 (fun i hi => (k5 i hi).1) (fun i hi => (k5 i hi).1), fun i hi => ⟨(k4 i hi).1, by have := (k4 i hi).2; omega⟩, fun i hi => ⟨(k5 i hi).1, by have := (k5 i hi).2.1; omega, (k5 i hi).2.2⟩, fun i o hi => ?_, k7.trans (r2.below k7.size (fun i hi => (k4 i hi).1))⟩
  obtain ⟨b1, b2, b3, b4⟩ := k6 i o hi
  exact ⟨(r2.block i (lt_of_heap b1) b2).trans b1, b2, b3, b4⟩
theorem ab_open {S4 : FsP} {h : HdP} (hB : AcB w W bx f s2 s3 S ls en) (hup : S.down = false) (hst0 : S.stamp ≤ 900000) (hdb : ∃ n, lenP S (dbN xN) = some n) (hlg : ∃ n, lenP S (logN xN) = some n ∧ (n = 0 ∨ 4 ≤ n) ∧ n ≤ 200000) (hag : againP xN S = (0, S4)) (hSt : St S4 xN L 65536) (hL : L[0]? = some (padB (hdB h))) (hok : h.Ok) :
    Calls Tryz.prog 11 #[.pointer (some ⟨f, 0, none⟩), .string xS] W fun e w' => ∃ q, e = .returned (.tuple #[.pointer (some ⟨q, 0, none⟩), .int .i64 0]) ∧ Hid (AcN w w' bx f q s2 s3 (pgO h) S4 ls en) := by
  obtain ⟨O1, K, k1, k2, k3, k4, k5, k6, k7⟩ := hB
  refine (open_gen f 65536 O1 S S4 L h w W k1 k4 k7 hup hst0 hdb hlg hag hSt hL hok).mono ?_
  rintro e w' ⟨q, O3, O4, rfl, r1, r2, r3, r4⟩
  have hz := r4.size
  refine ⟨q, rfl, Lib.hid ⟨O3, O4, K, r1, k2.ch r4 (fun i hi => (k5 i hi).1) (fun i hi => (k5 i hi).1), k3.ch r4 (fun i hi => (k5 i hi).1) (fun i hi => (k5 i hi).1), fun i hi => ⟨fun e => ?_, fun e => ?_, by have := (k5 i hi).2.1; omega, (k5 i hi).2.2⟩, fun i o hi => ?_⟩⟩
  · rcases r2 i e with e | e
    · exact (k5 i hi).1 e
    · have := (k5 i hi).2.1; omega
  · have := r3 i e; have := (k5 i hi).2.1; omega
  · obtain ⟨b1, b2, b3, b4⟩ := k6 i o hi
    have hl := lt_of_heap b1
    refine ⟨(r4.block i hl b2).trans b1, fun e => ?_, fun e => ?_, b3, b4⟩
    · rcases r2 i e with e | e
      · exact b2 e
      · omega
    · have := r3 i e; omega
end
end Go.Proofs.YtoadamkmabkldaaGreatDoor
