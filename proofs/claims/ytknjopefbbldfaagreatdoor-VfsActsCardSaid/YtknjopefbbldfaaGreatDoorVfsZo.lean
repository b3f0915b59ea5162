/- The document's store, ahead of Write and Cut: what a byte more makes; cells of a file that turn. -/
import Derived.Test.YtknjopefbbldfaaGreatDoorVfsZl
import Derived.Test.YtknjopefbbldfaaGreatDoorVfs9
import Derived.Test.YtknjopefbbldfaaGreatDoorVfsG
namespace Go.Proofs.YtknjopefbbldfaaGreatDoor
open Go.RowKit

theorem sizeP_grow {x : FlP} (h : x.WF) {n : Nat} (hn : x.B.length ≤ n) : sizeP x n = growP x n := by
  have h1 := needN_le hn
  rw [← h.w] at h1
  have h2 := h.o
  unfold sizeP growP
  congr 1
  · rw [List.take_of_length_le]; simp only [List.length_append, List.length_replicate]; omega
  · rw [List.take_of_length_le]; simp only [List.length_append, List.length_replicate]; omega
  · rw [List.take_of_length_le]; simp only [List.length_append, List.length_replicate]; omega
theorem sizeP_cut {x : FlP} (h : x.WF) {n : Nat} (hn : n ≤ x.B.length) : sizeP x n = { x with B := x.B.take n, W := x.W.take (needN n), O := x.O.take (64 * needN n) } := by
  have h1 := needN_le hn
  rw [← h.w] at h1
  have h2 := h.o
  unfold sizeP
  rw [show n - x.B.length = 0 by omega, show needN n - x.W.length = 0 by omega, show 64 * needN n - x.O.length = 0 by omega]
  simp only [List.replicate_zero, List.append_nil]
theorem cutP_size {x : FlP} (h : x.WF) {n : Nat} (hn : n ≤ x.B.length) : cutP x n = if n % 64 = 0 then sizeP x n else { sizeP x n with W := (sizeP x n).W.set (n / 64) true } := by
  rw [sizeP_cut h hn]
  unfold cutP
  by_cases h0 : n % 64 = 0
  · rw [if_pos h0, if_pos h0]
  · rw [if_neg h0, if_neg h0]
theorem putP_stepB {y : FlP} {p k : Nat} {b : List UInt8} {u : UInt8} (hu : b[k]? = some u) (hp : p + b.length ≤ y.B.length) : (putP y p (b.take k)).B.set (p + k) u = (putP y p (b.take (k + 1))).B := by
  have hk := (List.getElem?_eq_some_iff.1 hu).1
  have l1 : (b.take k).length = k := by rw [List.length_take]; omega
  have l2 : (b.take (k + 1)).length = k + 1 := by rw [List.length_take]; omega
  have l3 : (y.B.take p).length = p := by rw [List.length_take]; omega
  unfold putP
  dsimp only
  rw [l1, l2, List.set_append_right _ _ (by omega), l3, Nat.add_sub_cancel_left, List.set_append_right _ _ (by omega), l1, Nat.sub_self, take_step hu]
  have hd : y.B.drop (p + k) = y.B[p + k]'(by omega) :: y.B.drop (p + k + 1) := List.drop_eq_getElem_cons (by omega)
  rw [hd, List.set_cons_zero, List.append_assoc, ← Nat.add_assoc]
  rfl
theorem putP_stepW {y : FlP} {p k : Nat} {b : List UInt8} (hk : k < b.length) : (putP y p (b.take k)).W.set ((p + k) / 64) true = (putP y p (b.take (k + 1))).W := by
  have l1 : (b.take k).length = k := by rw [List.length_take]; omega
  have l2 : (b.take (k + 1)).length = k + 1 := by rw [List.length_take]; omega
  unfold putP
  dsimp only
  rw [l1, l2]
  apply List.ext_getElem?
  intro j
  rw [List.getElem?_set]
  unfold markW
  simp only [List.getElem?_mapIdx, List.length_mapIdx]
  by_cases e : (p + k) / 64 = j
  · subst e
    rw [if_pos rfl]
    by_cases hl : (p + k) / 64 < y.W.length
    · rw [if_pos hl, List.getElem?_eq_getElem hl, Option.map_some, decide_eq_true (show 64 * ((p + k) / 64) < p + (k + 1) by omega), decide_eq_true (show p < 64 * ((p + k) / 64) + 64 by omega), decide_eq_true (show p < p + (k + 1) by omega)]
      simp
    · rw [if_neg hl, List.getElem?_eq_none (by omega)]; rfl
  · rw [if_neg e]
    have e2 : ∀ v : Bool, (v || (decide (64 * j < p + k) && decide (p < 64 * j + 64) && decide (p < p + k))) = (v || (decide (64 * j < p + (k + 1)) && decide (p < 64 * j + 64) && decide (p < p + (k + 1)))) := fun v => by
      congr 1
      rw [Bool.eq_iff_iff]
      simp only [Bool.and_eq_true, decide_eq_true_eq]
      omega
    cases y.W[j]? with
    | none => rfl
    | some v => simp only [Option.map_some]; rw [e2]
theorem blsV_set (l : List Bool) (j : Nat) (t : Bool) : (blsV l).set j (.bool t) = blsV (l.set j t) := by simp [blsV]
section
variable {W : World} {R : RfR} {n : List UInt8} {y : FlP} {g L c : Nat}
/-- One byte of a file turns. -/
theorem RfF.byteB (h : RfF W R n y) (hv : R.vB = .slice (some ⟨g, 0, none⟩) L c) (j : Nat) (u : UInt8) : RfF (W.setCell ⟨g, j, none⟩ (.int .u8 (u.toNat : Int))) R n { y with B := y.B.set j u } := by
  have hb : R.vB.ownBlock = some g := by rw [hv]; rfl
  have ho := h.b
  have hL : L = y.B.length := by
    obtain ⟨A, c', e, _⟩ := own_form ho
    rw [hv] at e; injection e
  rw [hv, hL] at ho
  refine ⟨h.hd.far (p := ⟨g, j, none⟩) (Ne.symm (own_bk_ne h.b h.hd (by decide) hb)) _, ?_, own_heap' h.o (fun i hi => Below.heap_setCell W ⟨g, j, none⟩ _ i (fun e => h.ne g hb (by rw [show g = i from Eq.symm e]; exact hi))), own_heap' h.w (fun i hi => Below.heap_setCell W ⟨g, j, none⟩ _ i (fun e => own_two h.b h.w (by decide) hb (by rw [show g = i from Eq.symm e]; exact hi))), h.ne⟩
  rw [hv, hL]
  have := (own_set ho j u).1
  rw [show y.B.length = (y.B.set j u).length by rw [List.length_set]] at this
  simpa using this
theorem RfF.byteO (h : RfF W R n y) (hv : R.vO = .slice (some ⟨g, 0, none⟩) L c) (j : Nat) (u : UInt8) : RfF (W.setCell ⟨g, j, none⟩ (.int .u8 (u.toNat : Int))) R n { y with O := y.O.set j u } := by
  have hb : R.vO.ownBlock = some g := by rw [hv]; rfl
  have ho := h.o
  have hL : L = y.O.length := by
    obtain ⟨A, c', e, _⟩ := own_form ho
    rw [hv] at e; injection e
  rw [hv, hL] at ho
  refine ⟨h.hd.far (p := ⟨g, j, none⟩) (Ne.symm (own_bk_ne h.o h.hd (by decide) hb)) _, own_heap' h.b (fun i hi => Below.heap_setCell W ⟨g, j, none⟩ _ i (fun e => h.ne g (by rw [show g = i from Eq.symm e]; exact hi) hb)), ?_, own_heap' h.w (fun i hi => Below.heap_setCell W ⟨g, j, none⟩ _ i (fun e => own_two h.o h.w (by decide) hb (by rw [show g = i from Eq.symm e]; exact hi))), h.ne⟩
  rw [hv, hL]
  have := (own_set ho j u).1
  rw [show y.O.length = (y.O.set j u).length by rw [List.length_set]] at this
  simpa using this
theorem RfF.boolW (h : RfF W R n y) (hv : R.vW = .slice (some ⟨g, 0, none⟩) L c) (j : Nat) (t : Bool) : RfF (W.setCell ⟨g, j, none⟩ (.bool t)) R n { y with W := y.W.set j t } := by
  have hb : R.vW.ownBlock = some g := by rw [hv]; rfl
  have ho := h.w
  have hL : L = y.W.length := by
    obtain ⟨A, c', e, _⟩ := own_form ho
    rw [hv] at e; injection e
  rw [hv, hL] at ho
  refine ⟨h.hd.far (p := ⟨g, j, none⟩) (Ne.symm (own_bk_ne h.w h.hd (by decide) hb)) _, own_heap' h.b (fun i hi => Below.heap_setCell W ⟨g, j, none⟩ _ i (fun e => own_two h.w h.b (by decide) hb (by rw [show g = i from Eq.symm e]; exact hi))), own_heap' h.o (fun i hi => Below.heap_setCell W ⟨g, j, none⟩ _ i (fun e => own_two h.w h.o (by decide) hb (by rw [show g = i from Eq.symm e]; exact hi))), ?_, h.ne⟩
  rw [hv, hL]
  have := (ho.stored j (.bool t)).1
  rw [blsV_set] at this
  rw [show y.W.length = (y.W.set j t).length by rw [List.length_set]] at this
  simpa using this
/-- Cells of a file's rows. -/
theorem RfF.rowB (h : RfF W R n y) (h0 : 0 < y.B.length) : ∃ g c, R.vB = .slice (some ⟨g, 0, none⟩) y.B.length c ∧ y.B.length ≤ c ∧ (∀ j u, y.B[j]? = some u → W.cell? ⟨g, j, none⟩ = some (.int .u8 (u.toNat : Int))) ∧ ∀ j, W.frozen? ⟨g, j, none⟩ = false := by
  obtain ⟨g, c, hv, _, _, hc⟩ := own_pos h.b h0
  refine ⟨g, c, hv, hc, fun j u hu => ?_, fun j => by have := h.b; rw [hv] at this; exact this.frozenAt j⟩
  have := h.b.cells (g := g) (by rw [hv]; rfl) j (.int .u8 (u.toNat : Int)) (by unfold bys; rw [List.getElem?_map, hu]; rfl)
  rwa [addLit, Nat.zero_add] at this
theorem RfF.rowO (h : RfF W R n y) (h0 : 0 < y.O.length) : ∃ g c, R.vO = .slice (some ⟨g, 0, none⟩) y.O.length c ∧ y.O.length ≤ c ∧ (∀ j u, y.O[j]? = some u → W.cell? ⟨g, j, none⟩ = some (.int .u8 (u.toNat : Int))) ∧ ∀ j, W.frozen? ⟨g, j, none⟩ = false := by
  obtain ⟨g, c, hv, _, _, hc⟩ := own_pos h.o h0
  refine ⟨g, c, hv, hc, fun j u hu => ?_, fun j => by have := h.o; rw [hv] at this; exact this.frozenAt j⟩
  have := h.o.cells (g := g) (by rw [hv]; rfl) j (.int .u8 (u.toNat : Int)) (by unfold bys; rw [List.getElem?_map, hu]; rfl)
  rwa [addLit, Nat.zero_add] at this
theorem RfF.rowW (h : RfF W R n y) (h0 : 0 < y.W.length) : ∃ g c, R.vW = .slice (some ⟨g, 0, none⟩) y.W.length c ∧ y.W.length ≤ c ∧ (∀ j t, y.W[j]? = some t → W.cell? ⟨g, j, none⟩ = some (.bool t)) ∧ ∀ j, W.frozen? ⟨g, j, none⟩ = false := by
  obtain ⟨g, c, hv, _, _, hc⟩ := own_pos h.w h0
  refine ⟨g, c, hv, hc, fun j t ht => ?_, fun j => by have := h.w; rw [hv] at this; exact this.frozenAt j⟩
  have := h.w.cells (g := g) (by rw [hv]; rfl) j (.bool t) (by unfold blsV; rw [List.getElem?_map, ht]; rfl)
  rwa [addLit, Nat.zero_add] at this
end
end Go.Proofs.YtknjopefbbldfaaGreatDoor
/- The document's store: Write. -/
namespace Go.Proofs.YtknjopefbbldfaaGreatDoor
open Go.RowKit
attribute [local go_sem ↓] Go.wp_at_zero Go.wp_at_succ

/-- A file that has turned is put back into its store, with a new stamp. -/
theorem turned_fs {w1 w5 : World} {r : Nat} {vL : Value} {Rs : List RfR} {S1 : FsP} {i : Nat} {R R2 : RfR} {n : List UInt8} {x y : FlP} (h : RfM w1 r vL Rs S1) (hR : Rs[i]? = some R) (hx : S1.fs[i]? = some (n, x)) (hb : R2.b = R.b) (hf : RfF w5 R2 n y) (hh : ∀ k, R2.has k → R.has k ∨ w1.heap.size ≤ k) (hk : Ch R.has w1 w5)
    (hy : y.WF) (hr : useP S1.fs + y.W.length ≤ S1.most + x.W.length) (hst : S1.stamp ≤ 1000000) :
    Calls Tryz.prog 48 #[.pointer (some ⟨r, 0, none⟩), .pointer (some ⟨R.b, 0, none⟩)] w5 fun e w' => e = .returned (.tuple #[]) ∧ ∃ Rs', RfM w' r vL Rs' { S1 with stamp := S1.stamp + 1, fs := S1.fs.set i (n, { y with stamp := S1.stamp + 1 }) } ∧ (∀ k, RfO r vL Rs' k → RfO r vL Rs k ∨ w1.heap.size ≤ k) ∧ Ch (fun k => RfO r vL Rs k) w1 w' := by
  have hm : R ∈ Rs := List.mem_of_getElem? hR
  have hiR := (List.getElem?_eq_some_iff.1 hR).1
  have hiS := (List.getElem?_eq_some_iff.1 hx).1
  obtain ⟨a1, a2⟩ := h.setF (S' := { S1 with fs := S1.fs.set i (n, y) }) hR hb hf ((hk.block r h.hd.lt (fun e => (h.fl i R _ hR hx).ner h.hd r e rfl)).trans h.hd) (fun k h1 _ h3 => hk.block k h1 h3) hh rfl (setAt_wf h.wf hx hy hr S1.stamp)
  have hst' := rstamped_fs r vL (Rs.set i R2) _ i R2 n y w5 a1 (List.getElem?_set_self hiR) (by show (S1.fs.set i (n, y))[i]? = _; exact List.getElem?_set_self hiS) hst
  rw [hb] at hst'
  refine hst'.mono ?_
  rintro e w6 ⟨rfl, h1, h2, h3⟩
  refine ⟨rfl, _, ?_, fun k hk2 => a2 k (h2 k hk2), (hk.mono (fun k hk2 => .inr (.inr ⟨R, hm, hk2⟩))).trans h3 (fun k hk2 => ?_)⟩
  · have e : { S1 with stamp := S1.stamp + 1, fs := S1.fs.set i (n, { y with stamp := S1.stamp + 1 }) } = ({ ({ S1 with fs := S1.fs.set i (n, y) } : FsP) with stamp := ({ S1 with fs := S1.fs.set i (n, y) } : FsP).stamp + 1, fs := ({ S1 with fs := S1.fs.set i (n, y) } : FsP).fs.set i (n, { y with stamp := ({ S1 with fs := S1.fs.set i (n, y) } : FsP).stamp + 1 }) } : FsP) := by
      dsimp only
      rw [List.set_set]
    rw [e]; exact h1
  · rcases hk2 with hk2 | hk2
    · exact .inl (.inl hk2)
    · rw [hk2]; exact .inl (.inr (.inr ⟨R, hm, .inl rfl⟩))
/-- What is read of a file of a store. -/
theorem RfM.file {W : World} {r : Nat} {vL : Value} {Rs : List RfR} {S : FsP} (h : RfM W r vL Rs S) {i : Nat} {n : List UInt8} {x : FlP} (hx : S.fs[i]? = some (n, x)) :
    ∃ R g c, Rs[i]? = some R ∧ vL = .slice (some ⟨g, 0, none⟩) Rs.length c ∧ i < Rs.length ∧ W.cell? ⟨g, i, none⟩ = some (.pointer (some ⟨R.b, 0, none⟩)) ∧ RfF W R n x := by
  have hi : i < Rs.length := by rw [h.len]; exact (List.getElem?_eq_some_iff.1 hx).1
  obtain ⟨g, c, h1, h2⟩ := h.ptr (List.getElem?_eq_getElem hi)
  exact ⟨Rs[i], g, c, List.getElem?_eq_getElem hi, h1, hi, h2, h.fl i _ _ (List.getElem?_eq_getElem hi) hx⟩
theorem RfF.heads {W : World} {R : RfR} {n : List UInt8} {x : FlP} (h : RfF W R n x) : ∃ AB cB AO cO AW cW, W.cell? ⟨R.b, 1, none⟩ = some (.slice AB x.B.length cB) ∧ W.cell? ⟨R.b, 2, none⟩ = some (.slice AO x.O.length cO) ∧ W.cell? ⟨R.b, 3, none⟩ = some (.slice AW x.W.length cW) := by
  obtain ⟨AB, cB, e1, _⟩ := own_form h.b
  obtain ⟨AO, cO, e2, _⟩ := own_form h.o
  obtain ⟨AW, cW, e3, _⟩ := own_form h.w
  exact ⟨AB, cB, AO, cO, AW, cW, by rw [← e1]; exact h.hd.cell 1, by rw [← e2]; exact h.hd.cell 2, by rw [← e3]; exact h.hd.cell 3⟩
set_option maxHeartbeats 4000000 in
set_option maxRecDepth 100000 in
theorem rwrite_any (r : Nat) (O : Nat → Prop) (S : FsP) (s : ByteArray) (q : Int) (n c b0 : Nat) (bs : List UInt8) (A : Option Addr) (w : World) (h : RfA w O r S) (hst : S.stamp ≤ 1000000) (hm : S.fs.length ≤ 1000)
    (hn : n = bs.length) (hnm : n ≤ 100000) (hnc : n ≤ c) (hc : c ≤ maxLen) (hsr : Rs w b0 A bs) (hb0 : 0 < n → ¬ O b0) (hb1 : 0 < n → b0 < w.heap.size) :
    Calls Tryz.prog 21 #[.pointer (some ⟨r, 0, none⟩), .string s, .int .i64 q, .slice A n c] w fun e w' => e = .returned (.int .i64 ((writeP S s.data.toList q bs).1 : Int)) ∧ RfA w' (fun i => O i ∨ w.heap.size ≤ i) r (writeP S s.data.toList q bs).2 ∧ Ch O w w' := by
  have H := Lib.hid h
  obtain ⟨vL, Rs0, hM, hO⟩ := h
  have HM := Lib.hid hM
  have HO := Lib.hid hO
  have d4 : w.cell? ⟨r, 4, none⟩ = some (.bool S.down) := hM.hd.cell 4
  have HF := Lib.hid (find_any r vL Rs0 S s w hM)
  have HB := Lib.hid (rburn_fs r vL Rs0 S w hM)
  have HX := Lib.hid (And.intro hst (And.intro hm (And.intro hn (And.intro hnc (And.intro hc (And.intro hsr (And.intro hb0 hb1)))))))
  have hwf := hM.wf
  clear hO hst hm hn hnc hc hsr hb0 hb1
  cases hd : S.down with
  | true =>
    have e0 : writeP S s.data.toList q bs = (9, S) := by unfold writeP; rw [hd]; rfl
    rw [e0]
    rw [hd] at d4
    clear hd hwf hM e0 hnm
    go_enter Tryz.func21, Tryz.ntmps21
    go_wp2_with fail
    go_ret
    exact ⟨rfl, H.out.wide, Ch.refl _ _⟩
  | false =>
    rw [hd] at d4
    cases hf : findP S s.data.toList with
    | none =>
      have e0 : writeP S s.data.toList q bs = (6, S) := by unfold writeP; rw [hd, hf]; rfl
      rw [e0]
      have hi := idx_no hwf hf
      rw [hi] at HF
      clear hd hwf hf hi hM e0 hnm
      go_enter Tryz.func21, Tryz.ntmps21
      go_wp2_with fail
      with_reducible refine (HF.out).mono ?_
      rintro e wz ⟨rfl, hwz⟩
      replace hwz := hwz.symm
      subst hwz
      go_wp2_with fail
      go_ret
      exact ⟨rfl, H.out.wide, Ch.refl _ _⟩
    | some x =>
      obtain ⟨i, hi, hfs⟩ := idx_yes hwf hf
      rw [hi] at HF
      have hi0 : ¬ (i : Int) < (0 : Int) := by omega
      have hwx : x.WF := hwf.files _ (lookup_mem hf)
      have huse : x.W.length ≤ 65536 := by
        have h1 := use_le (lookup_mem hf)
        have h2 := hwf.room
        have h3 := hwf.most2
        simp only at h1
        omega
      obtain ⟨R, gL, cL, hR, hvL, hiR, dp, hff⟩ := hM.file hfs
      have d0 : w.cell? ⟨r, 0, none⟩ = some (.slice (some ⟨gL, 0, none⟩) Rs0.length cL) := by rw [← hvL]; exact hM.hd.cell 0
      have hNb : Rs0.length ≤ 1000 := by rw [hM.len]; exact HX.out.2.1
      obtain ⟨AB, cB, AO, cO, AW, cW, dB, dO, dW⟩ := hff.heads
      have hWn := hwx.w
      have hBb : x.B.length ≤ 4300000 := by rw [hwx.w] at huse; unfold needN at huse; omega
      obtain ⟨LB, hLB⟩ : ∃ k, k = x.B.length := ⟨_, rfl⟩
      obtain ⟨LW, hLW⟩ : ∃ k, k = x.W.length := ⟨_, rfl⟩
      obtain ⟨N, hN⟩ : ∃ k, k = Rs0.length := ⟨_, rfl⟩
      rw [← hLB] at dB hBb
      rw [← hLW] at dW huse
      rw [← hN] at d0 hNb hiR
      have HL := Lib.hid (And.intro hLB (And.intro hLW (And.intro hN (And.intro hwx (And.intro hR (And.intro hfs (And.intro hff (And.intro hd (And.intro hf hwf)))))))))
      clear hLB hLW hN hwx hR hfs hff hvL hM hd hf hi hwf dO hWn
      by_cases hbad : q < 0 ∨ (LB : Int) < q
      · have e0 : writeP S s.data.toList q bs = (1, S) := by
          obtain ⟨h1, h2, h3, h4, h5, h6, h7, h8, h9, h10⟩ := HL.out
          unfold writeP; rw [h8, h9]; simp only [Bool.false_eq_true, if_false]; rw [if_pos (by rw [← h1]; exact hbad)]
        rw [e0]
        clear e0
        by_cases hq0 : q < 0
        · clear hbad hnm huse dW
          go_enter Tryz.func21, Tryz.ntmps21
          go_wp2_with fail
          with_reducible refine (HF.out).mono ?_
          rintro e wz ⟨rfl, hwz⟩
          replace hwz := hwz.symm
          subst hwz
          go_wp2_with fail
          go_ret
          exact ⟨rfl, H.out.wide, Ch.refl _ _⟩
        · have hq1 : (LB : Int) < q := by omega
          obtain ⟨K, hK⟩ : ∃ K : Nat, q = (K : Int) := ⟨q.toNat, by omega⟩
          subst hK
          have hq2 : LB < K := by omega
          clear hbad hnm huse dW hq1
          go_enter Tryz.func21, Tryz.ntmps21
          go_wp2_with fail
          with_reducible refine (HF.out).mono ?_
          rintro e wz ⟨rfl, hwz⟩
          replace hwz := hwz.symm
          subst hwz
          go_wp2_with fail
          go_ret
          exact ⟨rfl, H.out.wide, Ch.refl _ _⟩
      · obtain ⟨p, hp⟩ : ∃ p : Nat, q = (p : Int) := ⟨q.toNat, by omega⟩
        subst hp
        have hpB : p ≤ LB := by omega
        have hW := writeP_some (S := S) (n := s.data.toList) (x := x) (p := p) bs HL.out.2.2.2.2.2.2.2.1 HL.out.2.2.2.2.2.2.2.2.1 (by rw [← HL.out.1]; exact hpB)
        rw [← HL.out.1, ← HL.out.2.1, ← HX.out.2.2.1] at hW
        rw [hW]
        have i0 : ¬ ((p : Int) < 0) := by omega
        have i1 : ¬ (LB < p) := by omega
        have HpB := Lib.hid hpB
        clear hbad hW hpB
        by_cases hway : p + n < LB
        · rw [show max LB (p + n) = LB by omega]
          obtain ⟨E0, hE0⟩ : ∃ E0, E0 = p + n := ⟨_, rfl⟩
          have e1 : (p : Int) + (n : Int) = (E0 : Int) := by omega
          have hE1 : E0 < LB := by omega
          have hEb : E0 ≤ 5000000 := by omega
          have HE := Lib.hid (And.intro (show p + n ≤ LB by omega) (show LB ≤ LB from Nat.le_refl _))
          clear hway hE0
          obtain ⟨NE, hNE⟩ : ∃ k, k = needN LB := ⟨_, rfl⟩
          rw [← hNE]
          have e2 : IntKind.i64.wrap ((LB : Int) + 63) = ((LB + 63 : Nat) : Int) := by rw [IntWalk.i64_in _ (by omega)]; omega
          have e3 : IntKind.i64.wrap (Int.tdiv ((LB + 63 : Nat) : Int) 64) = (NE : Int) := by
            rw [show (64 : Int) = ((64 : Nat) : Int) by rfl, Int.tdiv_eq_ediv_of_nonneg (by omega), hNE]
            rw [IntWalk.i64_in _ (by omega)]; unfold needN; omega
          have hNb2 : NE ≤ 100000 := by rw [hNE]; unfold needN; omega
          have e4 : IntKind.i64.wrap ((NE : Int) - (LW : Int)) = (NE : Int) - (LW : Int) := IntWalk.i64_in _ (by omega)
          have hNEW : LW ≤ NE := by rw [hNE, HL.out.2.1, HL.out.2.2.2.1.w, ← HL.out.1]; exact needN_le HE.out.2
          obtain ⟨Rm, hRm⟩ : ∃ k, k = S.most - useP S.fs := ⟨_, rfl⟩
          have HRm := Lib.hid (show ∀ W : World, W.heap = w.heap → Calls Tryz.prog 35 #[.pointer (some ⟨r, 0, none⟩)] W fun e w' => e = .returned (.int .i64 (Rm : Int)) ∧ w' = W from fun W hW => by
            rw [hRm]; exact rroom_any r vL Rs0 S W (HM.out.heap (fun k _ => by rw [hW])))
          have hRmb : Rm ≤ 65536 := by have := HM.out.wf.most2; omega
          have hroomS := HM.out.wf.room
          generalize hs1 : ((LB + 63 : Nat) : Int) = s1 at *
          by_cases hroom : (Rm : Int) < (NE : Int) - (LW : Int)
          · rw [if_pos (by omega)]
            clear hNE hRm hroomS hs1
            go_enter Tryz.func21, Tryz.ntmps21
            go_wp2_with fail
            with_reducible refine (HF.out).mono ?_
            rintro e wz ⟨rfl, hwz⟩
            replace hwz := hwz.symm
            subst hwz
            go_wp2_with fail
            go_quiet ((go_at_call 35; exact Calls.quiet_of_same (HRm.out _ rfl)))
            go_wp2_with fail
            go_ret
            exact ⟨rfl, RfA.wide (H.out.heap (fun _ _ _ => rfl)), (Ch.refl _ _).drewN _⟩
          · rw [if_neg (by omega)]
            have HRo := Lib.hid (And.intro hNE (And.intro (show useP S.fs + NE ≤ S.most + LW by omega) hNEW))
            clear hRm hroomS hs1
            by_cases hbs : bs = []
            · rw [if_pos hbs]
              have hn0 : ((n : Int) == 0) = true := by rw [HX.out.2.2.1, hbs]; rfl
              clear hNE hbs
              go_enter Tryz.func21, Tryz.ntmps21
              go_wp2_with fail
              with_reducible refine (HF.out).mono ?_
              rintro e wz ⟨rfl, hwz⟩
              replace hwz := hwz.symm
              subst hwz
              go_wp2_with fail
              go_quiet ((go_at_call 35; exact Calls.quiet_of_same (HRm.out _ rfl)))
              go_wp2_with fail
              go_ret
              exact ⟨rfl, RfA.wide (H.out.heap (fun _ _ _ => rfl)), (Ch.refl _ _).drewN _⟩
            · rw [if_neg hbs]
              have hnp : 0 < n := by
                rw [HX.out.2.2.1]
                cases bs with
                | nil => exact absurd rfl hbs
                | cons _ _ => simp
              have hn0 : ((n : Int) == 0) = false := by simp; omega
              have HBd := Lib.hid (show ∀ q, Calls Tryz.prog 47 #[.pointer (some ⟨r, 0, none⟩)] (w.drewN q) fun e w' => e = .returned (.bool (burnP S)) ∧ RfM w' r vL Rs0 (burntP S) ∧ Ch (fun k => k = r) w w' from fun q => by
                refine (rburn_fs r vL Rs0 S (w.drewN q) (HM.out.heap (fun k _ => rfl))).mono ?_
                rintro e w' ⟨a1, a2, a3⟩
                exact ⟨a1, a2, ((Ch.refl _ w).drewN q).trans a3 (fun k hk => .inl hk)⟩)
              clear hNE hbs
              cases hb : burnP S with
              | false =>
                rw [hb] at HBd
                clear hb
                go_enter Tryz.func21, Tryz.ntmps21
                go_wp2_with fail
                with_reducible refine (HF.out).mono ?_
                rintro e wz ⟨rfl, hwz⟩
                replace hwz := hwz.symm
                subst hwz
                go_wp2_with fail
                go_quiet ((go_at_call 35; exact Calls.quiet_of_same (HRm.out _ rfl)))
                go_wp2_with fail
                with_reducible refine (HBd.out _).mono ?_
                rintro e w1 ⟨rfl, h1, k1⟩
                have H1 := Lib.hid h1
                have K1 := Lib.hid k1
                clear h1 k1
                go_wp2_with fail
                go_ret
                obtain ⟨u1, u2, u3, u4, u5⟩ := burntP_parts S
                exact ⟨rfl, ⟨vL, Rs0, H1.out, fun i hi => .inl (HO.out i hi)⟩, K1.out.mono (fun i hi => by rw [hi]; exact HO.out r (.inl rfl))⟩
              | true =>
                rw [hb] at HBd
                clear hb
                go_enter Tryz.func21, Tryz.ntmps21
                go_wp2_with fail
                with_reducible refine (HF.out).mono ?_
                rintro e wz ⟨rfl, hwz⟩
                replace hwz := hwz.symm
                subst hwz
                go_wp2_with fail
                go_quiet ((go_at_call 35; exact Calls.quiet_of_same (HRm.out _ rfl)))
                go_wp2_with fail
                with_reducible refine (HBd.out _).mono ?_
                rintro e w1 ⟨rfl, h1, k1⟩
                have H1 := Lib.hid h1
                have K1 := Lib.hid k1
                clear h1 k1 d0 dp dB dW d4
                have hf1 := H1.out.fl i R _ HL.out.2.2.2.2.1 (by rw [(burntP_parts S).2.2.1]; exact HL.out.2.2.2.2.2.1)
                have HSz := Lib.hid (size_any R x s.data.toList LB w1 hf1 HL.out.2.2.2.1 (by omega) (by rw [← HL.out.1]; omega))
                clear hf1
                go_wp2_with fail
                with_reducible refine HSz.out.mono ?_
                rintro e w2 ⟨rfl, ⟨b, vB, vO, vW⟩, hb, hf, hh, hk⟩
                dsimp only at hb
                rw [sizeP_grow HL.out.2.2.2.1 (by rw [← HL.out.1]; exact HE.out.2)] at hf
                have hgl := growP_len HL.out.2.2.2.1 (show x.B.length ≤ LB by rw [← HL.out.1]; exact HE.out.2)
                have hgw := growP_wf HL.out.2.2.2.1 (show x.B.length ≤ LB by rw [← HL.out.1]; exact HE.out.2)
                rw [← HRo.out.1] at hgl
                obtain ⟨y0, hy0⟩ : ∃ y0, y0 = growP x LB := ⟨_, rfl⟩
                rw [← hy0] at hf hgl hgw
                have Hy0 := Lib.hid hy0
                have HG := Lib.hid (And.intro hgl (And.intro hgw (And.intro hb (And.intro hh hk))))
                have HI0 := Lib.hid (show RfF w2 ⟨b, vB, vO, vW⟩ s.data.toList (putP y0 p (bs.take 0)) ∧ Ch (RfR.has ⟨b, vB, vO, vW⟩) w2 w2 from ⟨by rw [List.take_zero, putP_nil]; exact hf, Ch.refl _ _⟩)
                clear hf hgl hgw hy0 hh hk
                generalize hRb : R.b = b9 at *
                subst hb
                go_wp2_with fail
                go_loopw [12] (fun s12 wr => ∃ k : Nat, s12 = .int .i64 (k : Int) ∧ k ≤ n ∧ Hid (RfF wr ⟨b, vB, vO, vW⟩ s.data.toList (putP y0 p (bs.take k)) ∧ Ch (RfR.has ⟨b, vB, vO, vW⟩) w2 wr)) (fun s12 _ => n - (intOf s12).toNat)
                case atStart => exact ⟨0, rfl, Nat.zero_le _, HI0⟩
                case round =>
                  obtain ⟨k, rfl, hkn, HI⟩ := hrel
                  by_cases hlt : k < n
                  · have hpe : p + bs.length ≤ y0.B.length := by rw [← HX.out.2.2.1, HG.out.1.2]; exact HE.out.1
                    have htk : p + (bs.take k).length ≤ y0.B.length := by rw [List.length_take]; omega
                    have hlB : (putP y0 p (bs.take k)).B.length = LB := (putP_len htk).trans HG.out.1.2
                    have hlW : (putP y0 p (bs.take k)).W.length = NE := (putP_wlen _ _ _).trans HG.out.1.1
                    obtain ⟨P, hP⟩ : ∃ P, P = p + k := ⟨_, rfl⟩
                    have hPE : P < LB := by have := HE.out.1; omega
                    obtain ⟨Q, hQ⟩ : ∃ Q, Q = P / 64 := ⟨_, rfl⟩
                    have hQN : Q < NE := by rw [hQ, HRo.out.1]; unfold needN; omega
                    obtain ⟨gB, cB2, hvB, _, hcB, hfB⟩ := HI.out.1.rowB (by rw [hlB]; omega)
                    obtain ⟨gW, cW2, hvW, _, hcW, hfW⟩ := HI.out.1.rowW (by rw [hlW]; omega)
                    rw [hlB] at hvB
                    rw [hlW] at hvW
                    dsimp only at hvB hvW
                    have x1 : wr.cell? ⟨b, 1, none⟩ = some (.slice (some ⟨gB, 0, none⟩) LB cB2) := by rw [← hvB]; exact HI.out.1.hd.cell 1
                    obtain ⟨uP, huP⟩ : ∃ u, (putP y0 p (bs.take k)).B[P]? = some u := ⟨_, List.getElem?_eq_getElem (by rw [hlB]; exact hPE)⟩
                    have x2 := hcB P uP huP
                    have x2f := hfB P
                    -- the byte that is put
                    obtain ⟨o0, hA, hcb⟩ := HX.out.2.2.2.2.2.1 (by rw [← HX.out.2.2.1]; omega)
                    obtain ⟨u, hu⟩ : ∃ u, bs[k]? = some u := ⟨_, List.getElem?_eq_getElem (by rw [← HX.out.2.2.1]; exact hlt)⟩
                    have hb0O := HX.out.2.2.2.2.2.2.1 hnp
                    have hb0l := HX.out.2.2.2.2.2.2.2 hnp
                    have hRO : ∀ j, R.has j → O j := fun j hj => HO.out j (.inr (.inr ⟨R, List.mem_of_getElem? HL.out.2.2.2.2.1, hj⟩))
                    have k1s := K1.out.size
                    have k2s := HG.out.2.2.2.2.size
                    have hnR : ¬ RfR.has ⟨b, vB, vO, vW⟩ b0 := fun e => by
                      rcases HG.out.2.2.2.1 b0 e with e | e
                      · exact hb0O (hRO b0 e)
                      · omega
                    have hnb0 : wr.heap[b0]? = w.heap[b0]? := ((HI.out.2.block b0 (by omega) hnR).trans (HG.out.2.2.2.2.block b0 (by omega) (fun e => hb0O (hRO b0 e)))).trans (K1.out.block b0 hb0l (fun e => hb0O (by rw [e]; exact HO.out r (.inl rfl))))
                    have x3 : wr.cell? ⟨b0, o0 + k, none⟩ = some (.int .u8 (u.toNat : Int)) := (World.cell?_of_block (a := ⟨b0, o0 + k, none⟩) hnb0).trans (hcb k u hu)
                    have hgb0 : gB ≠ b0 := fun e => hnR (.inr (.inl (by rw [← e]; show vB.ownBlock = _; rw [hvB]; rfl)))
                    have hgb : gB ≠ b := own_bk_ne HI.out.1.b HI.out.1.hd (by decide) (by show vB.ownBlock = _; rw [hvB]; rfl)
                    -- behind the store of the byte
                    have hf2 := HI.out.1.byteB (g := gB) (L := LB) (c := cB2) hvB P u
                    obtain ⟨gW2, cW3, hvW2, _, hcW2, hfW2⟩ := hf2.rowW (by show 0 < (putP y0 p (bs.take k)).W.length; rw [hlW]; omega)
                    have hgg : gW2 = gW ∧ cW3 = cW2 := by
                      have h1 : vW = _ := hvW2
                      rw [hvW] at h1
                      injection h1 with h2 _ h3
                      injection h2 with h2
                      injection h2 with h2
                      exact ⟨h2.symm, h3.symm⟩
                    obtain ⟨rfl, rfl⟩ := hgg
                    obtain ⟨tQ, htQ⟩ : ∃ t, (putP y0 p (bs.take k)).W[Q]? = some t := ⟨_, List.getElem?_eq_getElem (by rw [hlW]; exact hQN)⟩
                    have x4 := hcW2 Q tQ htQ
                    have x4f := hfW2 Q
                    have x5 : (wr.setCell ⟨gB, P, none⟩ (.int .u8 (u.toNat : Int))).cell? ⟨b, 3, none⟩ = some (.slice (some ⟨gW2, 0, none⟩) NE cW3) := by rw [← hvW]; exact hf2.hd.cell 3
                    have hf3 := hf2.boolW (g := gW2) (L := NE) (c := cW3) hvW Q true
                    have HN3 := Lib.hid (show RfF ((wr.setCell ⟨gB, P, none⟩ (.int .u8 (u.toNat : Int))).setCell ⟨gW2, Q, none⟩ (.bool true)) ⟨b, vB, vO, vW⟩ s.data.toList (putP y0 p (bs.take (k + 1))) ∧ Ch (RfR.has ⟨b, vB, vO, vW⟩) w2 ((wr.setCell ⟨gB, P, none⟩ (.int .u8 (u.toNat : Int))).setCell ⟨gW2, Q, none⟩ (.bool true)) from by
                      refine ⟨?_, (HI.out.2.set (p := ⟨gB, P, none⟩) (.inl (.inr (.inl (by show vB.ownBlock = _; rw [hvB]; rfl)))) _).set (p := ⟨gW2, Q, none⟩) (.inl (.inr (.inr (.inr (by show vW.ownBlock = _; rw [hvW]; rfl))))) _⟩
                      have e8 := putP_stepB hu hpe
                      have e9 := putP_stepW (y := y0) (p := p) (b := bs) (k := k) (by rw [← HX.out.2.2.1]; exact hlt)
                      rw [← hP] at e8 e9
                      rw [← hQ] at e9
                      have : (putP y0 p (bs.take (k + 1))) = { (putP y0 p (bs.take k)) with B := (putP y0 p (bs.take k)).B.set P u, W := (putP y0 p (bs.take k)).W.set Q true } := by
                        rw [e8, e9]; rfl
                      rw [this]; exact hf3)
                    have e5 : (p : Int) + (k : Int) = (P : Int) := by omega
                    have e6 : IntKind.i64.wrap (Int.tdiv (P : Int) 64) = (Q : Int) := by
                      rw [show (64 : Int) = ((64 : Nat) : Int) by rfl, Int.tdiv_eq_ediv_of_nonneg (by omega)]
                      rw [IntWalk.i64_in _ (by omega)]; omega
                    have e5w : IntKind.i64.wrap ((p : Int) + (k : Int)) = (P : Int) := by rw [IntWalk.i64_in _ (by omega)]; exact e5
                    have hPi : (P : Int) < (LB : Int) := by omega
                    have hP0 : (0 : Int) ≤ (P : Int) := by omega
                    have hQi : (Q : Int) < (NE : Int) := by omega
                    have hQ0 : (0 : Int) ≤ (Q : Int) := by omega
                    have e7 : (P : Int) / 64 = (Q : Int) := by omega
                    subst hA
                    clear e5
                    clear hpe htk hlB hlW hP hQ hvB hvW hcB hfB hcW hfW huP hcb hu hb0O hb0l hRO k1s k2s hnR hnb0 hf2 hvW2 hcW2 hfW2 htQ hf3 HI
                    obtain ⟨U, hU⟩ : ∃ U : Int, U = (u.toNat : Int) := ⟨_, rfl⟩
                    rw [← hU] at x3 x4 x4f x5 HN3
                    clear hU
                    go_wp2_with fail
                    go_region_held3 (fun w' => w'.cell? ⟨b, 1, none⟩ = some (.slice (some ⟨gB, 0, none⟩) LB cB2) ∧ w'.cell? ⟨b0, o0 + k, none⟩ = some (.int .u8 U)) (first | exact ⟨x1, x3⟩ | go_keep) (fail)
                    go_wp2_with fail
                    go_roundw
                    case rel => exact ⟨k + 1, by rfl, by omega, Lib.hid ⟨HN3.out.1.heap (fun _ _ => rfl), HN3.out.2.drew⟩⟩
                    case measure => simp [intOf]; omega
                  · have hkn2 : n = k := by omega
                    have HT := Lib.hid (show Calls Tryz.prog 48 #[.pointer (some ⟨r, 0, none⟩), .pointer (some ⟨b, 0, none⟩)] wr fun e w' => e = .returned (.tuple #[]) ∧ RfA w' (fun i => O i ∨ w.heap.size ≤ i) r (stampF S s.data.toList (putP y0 p bs)) ∧ Ch O w w' from by
                      obtain ⟨u1, u2, u3, u4, u5⟩ := burntP_parts S
                      have hf5 := HI.out.1
                      rw [← hkn2, HX.out.2.2.1, List.take_length] at hf5
                      have hpe : p + bs.length ≤ y0.B.length := by rw [← HX.out.2.2.1, HG.out.1.2]; exact HE.out.1
                      have hbb : (⟨b, vB, vO, vW⟩ : RfR).b = R.b := hRb.symm
                      have hx1 : (burntP S).fs[i]? = some (s.data.toList, x) := by rw [u3]; exact HL.out.2.2.2.2.2.1
                      have hT := turned_fs H1.out HL.out.2.2.2.2.1 hx1 hbb hf5 HG.out.2.2.2.1 (HG.out.2.2.2.2.trans HI.out.2 HG.out.2.2.2.1) (putP_wf HG.out.2.1 hpe) (by rw [putP_wlen, HG.out.1.1, u1, u3, ← HL.out.2.1]; exact HRo.out.2.1) (by rw [u2]; exact HX.out.1)
                      rw [hRb] at hT
                      refine hT.mono ?_
                      rintro e w6 ⟨rfl, Rs6, h6, o6, k6⟩
                      have hsf : stampF S s.data.toList (putP y0 p bs) = { burntP S with stamp := (burntP S).stamp + 1, fs := (burntP S).fs.set i (s.data.toList, { putP y0 p bs with stamp := (burntP S).stamp + 1 }) } := by
                        unfold stampF
                        rw [set_at _ HM.out.wf.order HL.out.2.2.2.2.2.1, u2, u3]
                      rw [← hsf] at h6
                      refine ⟨rfl, ⟨vL, Rs6, h6, fun j hj => ?_⟩, (K1.out.mono (fun j hj => by rw [hj]; exact HO.out r (.inl rfl))).trans k6 (fun j hj => .inl (HO.out j hj))⟩
                      · rcases o6 j hj with hj | hj
                        · exact .inl (HO.out j hj)
                        · have := K1.out.size; exact .inr (by omega))
                    clear hlt
                    go_wp2_with fail
                    with_reducible refine HT.out.mono ?_
                    rintro e w6 ⟨rfl, h6, k6⟩
                    have H6 := Lib.hid (And.intro h6 k6)
                    clear h6 k6
                    go_wp2_with fail
                    go_ret
                    have h9 := H6.out.1
                    rw [Hy0.out] at h9
                    exact ⟨rfl, h9, H6.out.2⟩
        · rw [show max LB (p + n) = p + n by omega]
          obtain ⟨E, hE⟩ : ∃ E, E = p + n := ⟨_, rfl⟩
          rw [← hE]
          have e1 : (p : Int) + (n : Int) = (E : Int) := by omega
          have hE1 : ¬ E < LB := by omega
          have hEb : E ≤ 5000000 := by omega
          have HE := Lib.hid (And.intro (show p + n ≤ E by omega) (show LB ≤ E by omega))
          clear hway hE
          obtain ⟨NE, hNE⟩ : ∃ k, k = needN E := ⟨_, rfl⟩
          rw [← hNE]
          have e2 : IntKind.i64.wrap ((E : Int) + 63) = ((E + 63 : Nat) : Int) := by rw [IntWalk.i64_in _ (by omega)]; omega
          have e3 : IntKind.i64.wrap (Int.tdiv ((E + 63 : Nat) : Int) 64) = (NE : Int) := by
            rw [show (64 : Int) = ((64 : Nat) : Int) by rfl, Int.tdiv_eq_ediv_of_nonneg (by omega), hNE]
            rw [IntWalk.i64_in _ (by omega)]; unfold needN; omega
          have hNb2 : NE ≤ 100000 := by rw [hNE]; unfold needN; omega
          have e4 : IntKind.i64.wrap ((NE : Int) - (LW : Int)) = (NE : Int) - (LW : Int) := IntWalk.i64_in _ (by omega)
          have hNEW : LW ≤ NE := by rw [hNE, HL.out.2.1, HL.out.2.2.2.1.w, ← HL.out.1]; exact needN_le HE.out.2
          obtain ⟨Rm, hRm⟩ : ∃ k, k = S.most - useP S.fs := ⟨_, rfl⟩
          have HRm := Lib.hid (show ∀ W : World, W.heap = w.heap → Calls Tryz.prog 35 #[.pointer (some ⟨r, 0, none⟩)] W fun e w' => e = .returned (.int .i64 (Rm : Int)) ∧ w' = W from fun W hW => by
            rw [hRm]; exact rroom_any r vL Rs0 S W (HM.out.heap (fun k _ => by rw [hW])))
          have hRmb : Rm ≤ 65536 := by have := HM.out.wf.most2; omega
          have hroomS := HM.out.wf.room
          generalize hs1 : ((E + 63 : Nat) : Int) = s1 at *
          by_cases hroom : (Rm : Int) < (NE : Int) - (LW : Int)
          · rw [if_pos (by omega)]
            clear hNE hRm hroomS hs1
            go_enter Tryz.func21, Tryz.ntmps21
            go_wp2_with fail
            with_reducible refine (HF.out).mono ?_
            rintro e wz ⟨rfl, hwz⟩
            replace hwz := hwz.symm
            subst hwz
            go_wp2_with fail
            go_quiet ((go_at_call 35; exact Calls.quiet_of_same (HRm.out _ rfl)))
            go_wp2_with fail
            go_ret
            exact ⟨rfl, RfA.wide (H.out.heap (fun _ _ _ => rfl)), (Ch.refl _ _).drewN _⟩
          · rw [if_neg (by omega)]
            have HRo := Lib.hid (And.intro hNE (And.intro (show useP S.fs + NE ≤ S.most + LW by omega) hNEW))
            clear hRm hroomS hs1
            by_cases hbs : bs = []
            · rw [if_pos hbs]
              have hn0 : ((n : Int) == 0) = true := by rw [HX.out.2.2.1, hbs]; rfl
              clear hNE hbs
              go_enter Tryz.func21, Tryz.ntmps21
              go_wp2_with fail
              with_reducible refine (HF.out).mono ?_
              rintro e wz ⟨rfl, hwz⟩
              replace hwz := hwz.symm
              subst hwz
              go_wp2_with fail
              go_quiet ((go_at_call 35; exact Calls.quiet_of_same (HRm.out _ rfl)))
              go_wp2_with fail
              go_ret
              exact ⟨rfl, RfA.wide (H.out.heap (fun _ _ _ => rfl)), (Ch.refl _ _).drewN _⟩
            · rw [if_neg hbs]
              have hnp : 0 < n := by
                rw [HX.out.2.2.1]
                cases bs with
                | nil => exact absurd rfl hbs
                | cons _ _ => simp
              have hn0 : ((n : Int) == 0) = false := by simp; omega
              have HBd := Lib.hid (show ∀ q, Calls Tryz.prog 47 #[.pointer (some ⟨r, 0, none⟩)] (w.drewN q) fun e w' => e = .returned (.bool (burnP S)) ∧ RfM w' r vL Rs0 (burntP S) ∧ Ch (fun k => k = r) w w' from fun q => by
                refine (rburn_fs r vL Rs0 S (w.drewN q) (HM.out.heap (fun k _ => rfl))).mono ?_
                rintro e w' ⟨a1, a2, a3⟩
                exact ⟨a1, a2, ((Ch.refl _ w).drewN q).trans a3 (fun k hk => .inl hk)⟩)
              clear hNE hbs
              cases hb : burnP S with
              | false =>
                rw [hb] at HBd
                clear hb
                go_enter Tryz.func21, Tryz.ntmps21
                go_wp2_with fail
                with_reducible refine (HF.out).mono ?_
                rintro e wz ⟨rfl, hwz⟩
                replace hwz := hwz.symm
                subst hwz
                go_wp2_with fail
                go_quiet ((go_at_call 35; exact Calls.quiet_of_same (HRm.out _ rfl)))
                go_wp2_with fail
                with_reducible refine (HBd.out _).mono ?_
                rintro e w1 ⟨rfl, h1, k1⟩
                have H1 := Lib.hid h1
                have K1 := Lib.hid k1
                clear h1 k1
                go_wp2_with fail
                go_ret
                obtain ⟨u1, u2, u3, u4, u5⟩ := burntP_parts S
                exact ⟨rfl, ⟨vL, Rs0, H1.out, fun i hi => .inl (HO.out i hi)⟩, K1.out.mono (fun i hi => by rw [hi]; exact HO.out r (.inl rfl))⟩
              | true =>
                rw [hb] at HBd
                clear hb
                go_enter Tryz.func21, Tryz.ntmps21
                go_wp2_with fail
                with_reducible refine (HF.out).mono ?_
                rintro e wz ⟨rfl, hwz⟩
                replace hwz := hwz.symm
                subst hwz
                go_wp2_with fail
                go_quiet ((go_at_call 35; exact Calls.quiet_of_same (HRm.out _ rfl)))
                go_wp2_with fail
                with_reducible refine (HBd.out _).mono ?_
                rintro e w1 ⟨rfl, h1, k1⟩
                have H1 := Lib.hid h1
                have K1 := Lib.hid k1
                clear h1 k1 d0 dp dB dW d4
                have hf1 := H1.out.fl i R _ HL.out.2.2.2.2.1 (by rw [(burntP_parts S).2.2.1]; exact HL.out.2.2.2.2.2.1)
                have HSz := Lib.hid (size_any R x s.data.toList E w1 hf1 HL.out.2.2.2.1 (by omega) (by rw [← HL.out.1]; omega))
                clear hf1
                go_wp2_with fail
                with_reducible refine HSz.out.mono ?_
                rintro e w2 ⟨rfl, ⟨b, vB, vO, vW⟩, hb, hf, hh, hk⟩
                dsimp only at hb
                rw [sizeP_grow HL.out.2.2.2.1 (by rw [← HL.out.1]; exact HE.out.2)] at hf
                have hgl := growP_len HL.out.2.2.2.1 (show x.B.length ≤ E by rw [← HL.out.1]; exact HE.out.2)
                have hgw := growP_wf HL.out.2.2.2.1 (show x.B.length ≤ E by rw [← HL.out.1]; exact HE.out.2)
                rw [← HRo.out.1] at hgl
                obtain ⟨y0, hy0⟩ : ∃ y0, y0 = growP x E := ⟨_, rfl⟩
                rw [← hy0] at hf hgl hgw
                have Hy0 := Lib.hid hy0
                have HG := Lib.hid (And.intro hgl (And.intro hgw (And.intro hb (And.intro hh hk))))
                have HI0 := Lib.hid (show RfF w2 ⟨b, vB, vO, vW⟩ s.data.toList (putP y0 p (bs.take 0)) ∧ Ch (RfR.has ⟨b, vB, vO, vW⟩) w2 w2 from ⟨by rw [List.take_zero, putP_nil]; exact hf, Ch.refl _ _⟩)
                clear hf hgl hgw hy0 hh hk
                generalize hRb : R.b = b9 at *
                subst hb
                go_wp2_with fail
                go_loopw [12] (fun s12 wr => ∃ k : Nat, s12 = .int .i64 (k : Int) ∧ k ≤ n ∧ Hid (RfF wr ⟨b, vB, vO, vW⟩ s.data.toList (putP y0 p (bs.take k)) ∧ Ch (RfR.has ⟨b, vB, vO, vW⟩) w2 wr)) (fun s12 _ => n - (intOf s12).toNat)
                case atStart => exact ⟨0, rfl, Nat.zero_le _, HI0⟩
                case round =>
                  obtain ⟨k, rfl, hkn, HI⟩ := hrel
                  by_cases hlt : k < n
                  · have hpe : p + bs.length ≤ y0.B.length := by rw [← HX.out.2.2.1, HG.out.1.2]; exact HE.out.1
                    have htk : p + (bs.take k).length ≤ y0.B.length := by rw [List.length_take]; omega
                    have hlB : (putP y0 p (bs.take k)).B.length = E := (putP_len htk).trans HG.out.1.2
                    have hlW : (putP y0 p (bs.take k)).W.length = NE := (putP_wlen _ _ _).trans HG.out.1.1
                    obtain ⟨P, hP⟩ : ∃ P, P = p + k := ⟨_, rfl⟩
                    have hPE : P < E := by have := HE.out.1; omega
                    obtain ⟨Q, hQ⟩ : ∃ Q, Q = P / 64 := ⟨_, rfl⟩
                    have hQN : Q < NE := by rw [hQ, HRo.out.1]; unfold needN; omega
                    obtain ⟨gB, cB2, hvB, _, hcB, hfB⟩ := HI.out.1.rowB (by rw [hlB]; omega)
                    obtain ⟨gW, cW2, hvW, _, hcW, hfW⟩ := HI.out.1.rowW (by rw [hlW]; omega)
                    rw [hlB] at hvB
                    rw [hlW] at hvW
                    dsimp only at hvB hvW
                    have x1 : wr.cell? ⟨b, 1, none⟩ = some (.slice (some ⟨gB, 0, none⟩) E cB2) := by rw [← hvB]; exact HI.out.1.hd.cell 1
                    obtain ⟨uP, huP⟩ : ∃ u, (putP y0 p (bs.take k)).B[P]? = some u := ⟨_, List.getElem?_eq_getElem (by rw [hlB]; exact hPE)⟩
                    have x2 := hcB P uP huP
                    have x2f := hfB P
                    -- the byte that is put
                    obtain ⟨o0, hA, hcb⟩ := HX.out.2.2.2.2.2.1 (by rw [← HX.out.2.2.1]; omega)
                    obtain ⟨u, hu⟩ : ∃ u, bs[k]? = some u := ⟨_, List.getElem?_eq_getElem (by rw [← HX.out.2.2.1]; exact hlt)⟩
                    have hb0O := HX.out.2.2.2.2.2.2.1 hnp
                    have hb0l := HX.out.2.2.2.2.2.2.2 hnp
                    have hRO : ∀ j, R.has j → O j := fun j hj => HO.out j (.inr (.inr ⟨R, List.mem_of_getElem? HL.out.2.2.2.2.1, hj⟩))
                    have k1s := K1.out.size
                    have k2s := HG.out.2.2.2.2.size
                    have hnR : ¬ RfR.has ⟨b, vB, vO, vW⟩ b0 := fun e => by
                      rcases HG.out.2.2.2.1 b0 e with e | e
                      · exact hb0O (hRO b0 e)
                      · omega
                    have hnb0 : wr.heap[b0]? = w.heap[b0]? := ((HI.out.2.block b0 (by omega) hnR).trans (HG.out.2.2.2.2.block b0 (by omega) (fun e => hb0O (hRO b0 e)))).trans (K1.out.block b0 hb0l (fun e => hb0O (by rw [e]; exact HO.out r (.inl rfl))))
                    have x3 : wr.cell? ⟨b0, o0 + k, none⟩ = some (.int .u8 (u.toNat : Int)) := (World.cell?_of_block (a := ⟨b0, o0 + k, none⟩) hnb0).trans (hcb k u hu)
                    have hgb0 : gB ≠ b0 := fun e => hnR (.inr (.inl (by rw [← e]; show vB.ownBlock = _; rw [hvB]; rfl)))
                    have hgb : gB ≠ b := own_bk_ne HI.out.1.b HI.out.1.hd (by decide) (by show vB.ownBlock = _; rw [hvB]; rfl)
                    -- behind the store of the byte
                    have hf2 := HI.out.1.byteB (g := gB) (L := E) (c := cB2) hvB P u
                    obtain ⟨gW2, cW3, hvW2, _, hcW2, hfW2⟩ := hf2.rowW (by show 0 < (putP y0 p (bs.take k)).W.length; rw [hlW]; omega)
                    have hgg : gW2 = gW ∧ cW3 = cW2 := by
                      have h1 : vW = _ := hvW2
                      rw [hvW] at h1
                      injection h1 with h2 _ h3
                      injection h2 with h2
                      injection h2 with h2
                      exact ⟨h2.symm, h3.symm⟩
                    obtain ⟨rfl, rfl⟩ := hgg
                    obtain ⟨tQ, htQ⟩ : ∃ t, (putP y0 p (bs.take k)).W[Q]? = some t := ⟨_, List.getElem?_eq_getElem (by rw [hlW]; exact hQN)⟩
                    have x4 := hcW2 Q tQ htQ
                    have x4f := hfW2 Q
                    have x5 : (wr.setCell ⟨gB, P, none⟩ (.int .u8 (u.toNat : Int))).cell? ⟨b, 3, none⟩ = some (.slice (some ⟨gW2, 0, none⟩) NE cW3) := by rw [← hvW]; exact hf2.hd.cell 3
                    have hf3 := hf2.boolW (g := gW2) (L := NE) (c := cW3) hvW Q true
                    have HN3 := Lib.hid (show RfF ((wr.setCell ⟨gB, P, none⟩ (.int .u8 (u.toNat : Int))).setCell ⟨gW2, Q, none⟩ (.bool true)) ⟨b, vB, vO, vW⟩ s.data.toList (putP y0 p (bs.take (k + 1))) ∧ Ch (RfR.has ⟨b, vB, vO, vW⟩) w2 ((wr.setCell ⟨gB, P, none⟩ (.int .u8 (u.toNat : Int))).setCell ⟨gW2, Q, none⟩ (.bool true)) from by
                      refine ⟨?_, (HI.out.2.set (p := ⟨gB, P, none⟩) (.inl (.inr (.inl (by show vB.ownBlock = _; rw [hvB]; rfl)))) _).set (p := ⟨gW2, Q, none⟩) (.inl (.inr (.inr (.inr (by show vW.ownBlock = _; rw [hvW]; rfl))))) _⟩
                      have e8 := putP_stepB hu hpe
                      have e9 := putP_stepW (y := y0) (p := p) (b := bs) (k := k) (by rw [← HX.out.2.2.1]; exact hlt)
                      rw [← hP] at e8 e9
                      rw [← hQ] at e9
                      have : (putP y0 p (bs.take (k + 1))) = { (putP y0 p (bs.take k)) with B := (putP y0 p (bs.take k)).B.set P u, W := (putP y0 p (bs.take k)).W.set Q true } := by
                        rw [e8, e9]; rfl
                      rw [this]; exact hf3)
                    have e5 : (p : Int) + (k : Int) = (P : Int) := by omega
                    have e6 : IntKind.i64.wrap (Int.tdiv (P : Int) 64) = (Q : Int) := by
                      rw [show (64 : Int) = ((64 : Nat) : Int) by rfl, Int.tdiv_eq_ediv_of_nonneg (by omega)]
                      rw [IntWalk.i64_in _ (by omega)]; omega
                    have e5w : IntKind.i64.wrap ((p : Int) + (k : Int)) = (P : Int) := by rw [IntWalk.i64_in _ (by omega)]; exact e5
                    have hPi : (P : Int) < (E : Int) := by omega
                    have hP0 : (0 : Int) ≤ (P : Int) := by omega
                    have hQi : (Q : Int) < (NE : Int) := by omega
                    have hQ0 : (0 : Int) ≤ (Q : Int) := by omega
                    have e7 : (P : Int) / 64 = (Q : Int) := by omega
                    subst hA
                    clear e5
                    clear hpe htk hlB hlW hP hQ hvB hvW hcB hfB hcW hfW huP hcb hu hb0O hb0l hRO k1s k2s hnR hnb0 hf2 hvW2 hcW2 hfW2 htQ hf3 HI
                    obtain ⟨U, hU⟩ : ∃ U : Int, U = (u.toNat : Int) := ⟨_, rfl⟩
                    rw [← hU] at x3 x4 x4f x5 HN3
                    clear hU
                    go_wp2_with fail
                    go_region_held3 (fun w' => w'.cell? ⟨b, 1, none⟩ = some (.slice (some ⟨gB, 0, none⟩) E cB2) ∧ w'.cell? ⟨b0, o0 + k, none⟩ = some (.int .u8 U)) (first | exact ⟨x1, x3⟩ | go_keep) (fail)
                    go_wp2_with fail
                    go_roundw
                    case rel => exact ⟨k + 1, by rfl, by omega, Lib.hid ⟨HN3.out.1.heap (fun _ _ => rfl), HN3.out.2.drew⟩⟩
                    case measure => simp [intOf]; omega
                  · have hkn2 : n = k := by omega
                    have HT := Lib.hid (show Calls Tryz.prog 48 #[.pointer (some ⟨r, 0, none⟩), .pointer (some ⟨b, 0, none⟩)] wr fun e w' => e = .returned (.tuple #[]) ∧ RfA w' (fun i => O i ∨ w.heap.size ≤ i) r (stampF S s.data.toList (putP y0 p bs)) ∧ Ch O w w' from by
                      obtain ⟨u1, u2, u3, u4, u5⟩ := burntP_parts S
                      have hf5 := HI.out.1
                      rw [← hkn2, HX.out.2.2.1, List.take_length] at hf5
                      have hpe : p + bs.length ≤ y0.B.length := by rw [← HX.out.2.2.1, HG.out.1.2]; exact HE.out.1
                      have hbb : (⟨b, vB, vO, vW⟩ : RfR).b = R.b := hRb.symm
                      have hx1 : (burntP S).fs[i]? = some (s.data.toList, x) := by rw [u3]; exact HL.out.2.2.2.2.2.1
                      have hT := turned_fs H1.out HL.out.2.2.2.2.1 hx1 hbb hf5 HG.out.2.2.2.1 (HG.out.2.2.2.2.trans HI.out.2 HG.out.2.2.2.1) (putP_wf HG.out.2.1 hpe) (by rw [putP_wlen, HG.out.1.1, u1, u3, ← HL.out.2.1]; exact HRo.out.2.1) (by rw [u2]; exact HX.out.1)
                      rw [hRb] at hT
                      refine hT.mono ?_
                      rintro e w6 ⟨rfl, Rs6, h6, o6, k6⟩
                      have hsf : stampF S s.data.toList (putP y0 p bs) = { burntP S with stamp := (burntP S).stamp + 1, fs := (burntP S).fs.set i (s.data.toList, { putP y0 p bs with stamp := (burntP S).stamp + 1 }) } := by
                        unfold stampF
                        rw [set_at _ HM.out.wf.order HL.out.2.2.2.2.2.1, u2, u3]
                      rw [← hsf] at h6
                      refine ⟨rfl, ⟨vL, Rs6, h6, fun j hj => ?_⟩, (K1.out.mono (fun j hj => by rw [hj]; exact HO.out r (.inl rfl))).trans k6 (fun j hj => .inl (HO.out j hj))⟩
                      · rcases o6 j hj with hj | hj
                        · exact .inl (HO.out j hj)
                        · have := K1.out.size; exact .inr (by omega))
                    clear hlt
                    go_wp2_with fail
                    with_reducible refine HT.out.mono ?_
                    rintro e w6 ⟨rfl, h6, k6⟩
                    have H6 := Lib.hid (And.intro h6 k6)
                    clear h6 k6
                    go_wp2_with fail
                    go_ret
                    have h9 := H6.out.1
                    rw [Hy0.out] at h9
                    exact ⟨rfl, h9, H6.out.2⟩
end Go.Proofs.YtknjopefbbldfaaGreatDoor
/- The document's store: Cut. -/
namespace Go.Proofs.YtknjopefbbldfaaGreatDoor
open Go.RowKit
attribute [local go_sem ↓] Go.wp_at_zero Go.wp_at_succ

set_option maxHeartbeats 4000000 in
set_option maxRecDepth 100000 in
theorem rcut_any (r : Nat) (O : Nat → Prop) (S : FsP) (s : ByteArray) (q : Int) (w : World) (h : RfA w O r S) (hst : S.stamp ≤ 1000000) (hm : S.fs.length ≤ 1000) :
    Calls Tryz.prog 22 #[.pointer (some ⟨r, 0, none⟩), .string s, .int .i64 q] w fun e w' => e = .returned (.int .i64 ((cutF S s.data.toList q).1 : Int)) ∧ RfA w' (fun i => O i ∨ w.heap.size ≤ i) r (cutF S s.data.toList q).2 ∧ Ch O w w' := by
  have H := Lib.hid h
  obtain ⟨vL, Rs0, hM, hO⟩ := h
  have HM := Lib.hid hM
  have HO := Lib.hid hO
  have d4 : w.cell? ⟨r, 4, none⟩ = some (.bool S.down) := hM.hd.cell 4
  have HF := Lib.hid (find_any r vL Rs0 S s w hM)
  have HB := Lib.hid (rburn_fs r vL Rs0 S w hM)
  have HX := Lib.hid (And.intro hst hm)
  have hwf := hM.wf
  clear hO hst hm
  unfold cutF
  cases hd : S.down with
  | true =>
    rw [hd] at d4
    clear hd hwf hM
    go_enter Tryz.func22, Tryz.ntmps22
    go_wp2_with fail
    go_ret
    exact ⟨rfl, H.out.wide, Ch.refl _ _⟩
  | false =>
    rw [hd] at d4
    cases hf : findP S s.data.toList with
    | none =>
      have hi := idx_no hwf hf
      rw [hi] at HF
      clear hd hwf hf hi hM
      go_enter Tryz.func22, Tryz.ntmps22
      go_wp2_with fail
      with_reducible refine (HF.out).mono ?_
      rintro e wz ⟨rfl, hwz⟩
      replace hwz := hwz.symm
      subst hwz
      go_wp2_with fail
      go_ret
      exact ⟨rfl, H.out.wide, Ch.refl _ _⟩
    | some x =>
      obtain ⟨i, hi, hfs⟩ := idx_yes hwf hf
      rw [hi] at HF
      have hi0 : ¬ (i : Int) < (0 : Int) := by omega
      have hwx : x.WF := hwf.files _ (lookup_mem hf)
      have huse : x.W.length ≤ 65536 := by
        have h1 := use_le (lookup_mem hf)
        have h2 := hwf.room
        have h3 := hwf.most2
        simp only at h1
        omega
      obtain ⟨R, gL, cL, hR, hvL, hiR, dp, hff⟩ := hM.file hfs
      have d0 : w.cell? ⟨r, 0, none⟩ = some (.slice (some ⟨gL, 0, none⟩) Rs0.length cL) := by rw [← hvL]; exact hM.hd.cell 0
      have hNb : Rs0.length ≤ 1000 := by rw [hM.len]; exact HX.out.2
      obtain ⟨AB, cB, AO, cO, AW, cW, dB, dO, dW⟩ := hff.heads
      have hBb : x.B.length ≤ 4300000 := by have := hwx.w; rw [this] at huse; unfold needN at huse; omega
      obtain ⟨LB, hLB⟩ : ∃ k, k = x.B.length := ⟨_, rfl⟩
      obtain ⟨N, hN⟩ : ∃ k, k = Rs0.length := ⟨_, rfl⟩
      rw [← hLB] at dB hBb
      rw [← hN] at d0 hNb hiR
      have HL := Lib.hid (And.intro hLB (And.intro hN (And.intro hwx (And.intro hR (And.intro hfs (And.intro hvL (And.intro hf hwf)))))))
      have hbadE : (q < 0 ∨ (x.B.length : Int) < q) ↔ (q < 0 ∨ (LB : Int) < q) := by rw [hLB]
      clear hLB hN hwx hR hfs hff hvL hM hd hf hi hwf dO dW huse
      by_cases hbad : q < 0 ∨ (LB : Int) < q
      · simp only [Bool.false_eq_true, if_false]
        rw [if_pos (hbadE.2 hbad)]
        clear hbadE
        by_cases hq0 : q < 0
        · clear hbad
          go_enter Tryz.func22, Tryz.ntmps22
          go_wp2_with fail
          with_reducible refine (HF.out).mono ?_
          rintro e wz ⟨rfl, hwz⟩
          replace hwz := hwz.symm
          subst hwz
          go_wp2_with fail
          go_ret
          exact ⟨rfl, H.out.wide, Ch.refl _ _⟩
        · have hq1 : (LB : Int) < q := by omega
          obtain ⟨K, hK⟩ : ∃ K : Nat, q = (K : Int) := ⟨q.toNat, by omega⟩
          subst hK
          have hq2 : LB < K := by omega
          clear hbad hq1
          go_enter Tryz.func22, Tryz.ntmps22
          go_wp2_with fail
          with_reducible refine (HF.out).mono ?_
          rintro e wz ⟨rfl, hwz⟩
          replace hwz := hwz.symm
          subst hwz
          go_wp2_with fail
          go_ret
          exact ⟨rfl, H.out.wide, Ch.refl _ _⟩
      · simp only [Bool.false_eq_true, if_false]
        rw [if_neg (fun e => hbad (hbadE.1 e))]
        obtain ⟨p, hp⟩ : ∃ p : Nat, q = (p : Int) := ⟨q.toNat, by omega⟩
        subst hp
        rw [Int.toNat_natCast]
        have hpB : p ≤ LB := by omega
        have i0 : ¬ ((p : Int) < 0) := by omega
        have i1 : ¬ (LB < p) := by omega
        have HpB := Lib.hid hpB
        clear hbad hbadE hpB
        cases hb : burnP S with
        | false =>
          rw [hb] at HB
          clear hb
          go_enter Tryz.func22, Tryz.ntmps22
          go_wp2_with fail
          with_reducible refine (HF.out).mono ?_
          rintro e wz ⟨rfl, hwz⟩
          replace hwz := hwz.symm
          subst hwz
          go_wp2_with fail
          with_reducible refine (HB.out).mono ?_
          rintro e w1 ⟨rfl, h1, k1⟩
          have H1 := Lib.hid h1
          have K1 := Lib.hid k1
          clear h1 k1
          go_wp2_with fail
          go_ret
          obtain ⟨e1, e2, e3, e4, e5⟩ := burntP_parts S
          refine ⟨rfl, ⟨vL, Rs0, H1.out, fun i hi => .inl (HO.out i hi)⟩, K1.out.mono (fun i hi => by rw [hi]; exact HO.out r (.inl rfl))⟩
        | true =>
          rw [hb] at HB
          clear hb
          go_enter Tryz.func22, Tryz.ntmps22
          go_wp2_with fail
          with_reducible refine (HF.out).mono ?_
          rintro e wz ⟨rfl, hwz⟩
          replace hwz := hwz.symm
          subst hwz
          go_wp2_with fail
          with_reducible refine (HB.out).mono ?_
          rintro e w1 ⟨rfl, h1, k1⟩
          have H1 := Lib.hid h1
          have K1 := Lib.hid k1
          clear h1 k1
          have hf1 := H1.out.fl i R _ HL.out.2.2.2.1 (by rw [(burntP_parts S).2.2.1]; exact HL.out.2.2.2.2.1)
          have HSz := Lib.hid (size_any R x s.data.toList p w1 hf1 HL.out.2.2.1 (by have := HpB.out; omega) (by rw [← HL.out.1]; omega))
          have y0 : w1.cell? ⟨r, 0, none⟩ = some (.slice (some ⟨gL, 0, none⟩) N cL) := by rw [HL.out.2.1, ← HL.out.2.2.2.2.2.1]; exact H1.out.hd.cell 0
          have yp : w1.cell? ⟨gL, i, none⟩ = some (.pointer (some ⟨R.b, 0, none⟩)) := by
            obtain ⟨R', g', c', h1, h2, h3, h4, _⟩ := H1.out.file (i := i) (n := s.data.toList) (x := x) (by rw [(burntP_parts S).2.2.1]; exact HL.out.2.2.2.2.1)
            rw [HL.out.2.2.2.1] at h1
            injection h1 with h1
            rw [HL.out.2.2.2.2.2.1] at h2
            injection h2 with h2
            injection h2 with h2
            injection h2 with h2
            rw [h1, h2]; exact h4
          have HRO := Lib.hid (show ∀ j, R.has j → O j from fun j hj => HO.out j (.inr (.inr ⟨R, List.mem_of_getElem? HL.out.2.2.2.1, hj⟩)))
          clear hf1 d0 dp dB d4
          have HT := Lib.hid (show ∀ (w5 : World) (R2 : RfR) (y : FlP), R2.b = R.b → RfF w5 R2 s.data.toList y → (∀ k, R2.has k → R.has k ∨ w1.heap.size ≤ k) → Ch R.has w1 w5 → y = cutP x p →
              Calls Tryz.prog 48 #[.pointer (some ⟨r, 0, none⟩), .pointer (some ⟨R.b, 0, none⟩)] w5 fun e w' => e = .returned (.tuple #[]) ∧ RfA w' (fun i => O i ∨ w.heap.size ≤ i) r (stampF S s.data.toList (cutP x p)) ∧ Ch O w w' from by
            intro w5 R2 y hb hf5 hh hk hy
            subst hy
            obtain ⟨u1, u2, u3, u4, u5⟩ := burntP_parts S
            obtain ⟨l1, l2, l3, l4, l5, l6, l7, l8⟩ := HL.out
            have hpx : p ≤ x.B.length := by rw [← l1]; exact HpB.out
            have hx1 : (burntP S).fs[i]? = some (s.data.toList, x) := by rw [u3]; exact l5
            have hlen := cutP_len l3 hpx
            refine (turned_fs H1.out l4 hx1 hb hf5 hh hk (cutP_wf l3 hpx) (by rw [hlen.1, u1, u3]; have := l8.room; have := hlen.2.2; omega) (by rw [u2]; exact HX.out.1)).mono ?_
            rintro e w6 ⟨rfl, Rs6, h6, o6, k6⟩
            have hsf : stampF S s.data.toList (cutP x p) = { burntP S with stamp := (burntP S).stamp + 1, fs := (burntP S).fs.set i (s.data.toList, { cutP x p with stamp := (burntP S).stamp + 1 }) } := by
              unfold stampF
              rw [set_at _ l8.order l5, u2, u3]
            rw [← hsf] at h6
            refine ⟨rfl, ⟨vL, Rs6, h6, fun j hj => ?_⟩, (K1.out.mono (fun j hj => by rw [hj]; exact HO.out r (.inl rfl))).trans k6 (fun j hj => .inl (HO.out j hj))⟩
            rcases o6 j hj with hj | hj
            · exact .inl (HO.out j hj)
            · have := K1.out.size; exact .inr (by omega))
          go_wp2_with fail
          with_reducible refine HSz.out.mono ?_
          rintro e w2 ⟨rfl, ⟨b, vB, vO, vW⟩, hb, hf, hh, hk⟩
          dsimp only at hb
          have HG := Lib.hid (And.intro hf (And.intro hh (And.intro hk hb)))
          obtain ⟨M, hM⟩ : ∃ M, M = p % 64 := ⟨_, rfl⟩
          have e1 : Int.tmod (p : Int) 64 = (M : Int) := by
            rw [show (64 : Int) = ((64 : Nat) : Int) by rfl, Int.tmod_eq_emod_of_nonneg (by omega)]; omega
          have e2 : (p : Int) % 64 = (M : Int) := by omega
          have e3 : IntKind.i64.wrap (M : Int) = (M : Int) := IntWalk.i64_in _ (by omega)
          have hpx : p ≤ x.B.length := by rw [← HL.out.1]; exact HpB.out
          have hcs := cutP_size HL.out.2.2.1 hpx
          rw [← hM] at hcs
          by_cases h0 : M = 0
          · rw [if_pos h0] at hcs
            have HT2 := Lib.hid (HT.out w2 ⟨b, vB, vO, vW⟩ _ hb hf hh hk hcs.symm)
            have h0i : ¬ (0 : Int) < (M : Int) := by omega
            clear hf hh hk hcs h0 hM hpx
            go_wp2_with fail
            with_reducible refine HT2.out.mono ?_
            rintro e w6 ⟨rfl, h6, k6⟩
            have H6 := Lib.hid (And.intro h6 k6)
            clear h6 k6
            go_wp2_with fail
            go_ret
            exact ⟨rfl, H6.out.1, H6.out.2⟩
          · rw [if_neg h0] at hcs
            have h0i : (0 : Int) < (M : Int) := by omega
            have hlW : (sizeP x p).W.length = needN p := by
              rw [sizeP_cut HL.out.2.2.1 hpx]
              have := needN_le hpx
              rw [← HL.out.2.2.1.w] at this
              show (x.W.take (needN p)).length = _
              rw [List.length_take]; omega
            obtain ⟨Q, hQ⟩ : ∃ Q, Q = p / 64 := ⟨_, rfl⟩
            obtain ⟨NE, hNE⟩ : ∃ k, k = needN p := ⟨_, rfl⟩
            have hQN : Q < NE := by rw [hQ, hNE]; unfold needN; omega
            have hNEb : NE ≤ 100000 := by rw [hNE]; unfold needN; have := HpB.out; omega
            rw [← hNE] at hlW
            obtain ⟨gW, cW2, hvW, _, hcW, hfW⟩ := hf.rowW (by rw [hlW]; omega)
            rw [hlW] at hvW
            dsimp only at hvW
            obtain ⟨tQ, htQ⟩ : ∃ t, (sizeP x p).W[Q]? = some t := ⟨_, List.getElem?_eq_getElem (by rw [hlW]; exact hQN)⟩
            have x4 := hcW Q tQ htQ
            have x4f := hfW Q
            have x5 : w2.cell? ⟨b, 3, none⟩ = some (.slice (some ⟨gW, 0, none⟩) NE cW2) := by rw [← hvW]; exact hf.hd.cell 3
            have hf3 := hf.boolW (g := gW) (L := NE) (c := cW2) hvW Q true
            rw [← hQ] at hcs
            have hRg : RfR.has ⟨b, vB, vO, vW⟩ gW := .inr (.inr (.inr (by show vW.ownBlock = _; rw [hvW]; rfl)))
            have hkk : Ch R.has w1 (w2.setCell ⟨gW, Q, none⟩ (.bool true)) := hk.set (p := ⟨gW, Q, none⟩) (hh gW hRg) _
            have HT2 := Lib.hid (HT.out _ ⟨b, vB, vO, vW⟩ _ hb hf3 hh hkk hcs.symm)
            have e6 : IntKind.i64.wrap (Int.tdiv (p : Int) 64) = (Q : Int) := by
              rw [show (64 : Int) = ((64 : Nat) : Int) by rfl, Int.tdiv_eq_ediv_of_nonneg (by omega)]
              rw [IntWalk.i64_in _ (by omega)]; omega
            have e7 : (p : Int) / 64 = (Q : Int) := by omega
            have hQi : (Q : Int) < (NE : Int) := by omega
            rw [← hb] at HT2
            clear hf hh hk hcs h0 hM hpx hQ hNE hlW hvW hcW hfW htQ hf3 hkk hRg
            generalize hRb : R.b = b9 at *
            subst hb
            go_wp2_with fail
            with_reducible refine HT2.out.mono ?_
            rintro e w6 ⟨rfl, h6, k6⟩
            have H6 := Lib.hid (And.intro h6 k6)
            clear h6 k6
            go_wp2_with fail
            go_ret
            exact ⟨rfl, H6.out.1, H6.out.2⟩
end Go.Proofs.YtknjopefbbldfaaGreatDoor
