/- Contracts of package pager: commit. -/
import Derived.Test.YtoadamkmabkldaaGreatDoorJn25
set_option linter.unusedVariables false
set_option linter.unusedSimpArgs false
namespace Go.Proofs.YtoadamkmabkldaaGreatDoor
open Go.RowKit Go.Shelf
attribute [local go_sem ↓] Go.wp_at_zero Go.wp_at_succ
theorem room_at (f : Nat) (O : Nat → Prop) (S : FsP) (w : World) (h : FsA w O f S) : Calls Tryz.prog 71 #[.pointer (some ⟨f, 0, none⟩)] w fun e w' => e = .returned (.int .i64 (if S.down then 0 else ((S.most - useP S.fs : Nat) : Int))) ∧ Below w.heap.size w w' := by
  obtain ⟨m, bl, gl, sv, hM, _⟩ := h
  exact room_any f m bl gl sv S w hM
/-- How many sectors a commit needs: the journal's, and the file's growth. -/
def needC (k many D : Nat) : Nat := needN (16 + 516 * k) + needN (max (512 * many) D) - needN D
/-- The pager when a commit is done. -/
def comD (P : PgP) : PgP := { P with last := P.now, ch := [], row := P.row.filter fun k => (P.ch.lookup k).isNone }
/-- What a commit of a pager gives: refused; down; done. -/
def ComR (w w' : World) (O : Nat → Prop) (f p mch mcl : Nat) (nm : ByteArray) (P : PgP) (S : FsP) (D : Nat) (tch tcl : Nat → SlT) (vrow : Value) (e : Ending) : Prop :=
  ∃ tch2, (∀ k, k ≠ 0 → tch2 k = tch k) ∧
    ((S.most - useP S.fs < needC (P.ch.length + 1) P.now.many D ∧ e = .returned (.int .i64 8) ∧ FsA w' O f S ∧ PgM w' f p nm P mch mcl tch2 tcl vrow ∧ Ch (fun i => i = mch) w w') ∨
     (needC (P.ch.length + 1) P.now.many D ≤ S.most - useP S.fs ∧ ∃ rc S2, (rc, S2) = comP nm.data.toList (walB (wls (batP P.now P.ch))) (batP P.now P.ch) S ∧ rc ≠ 0 ∧ e = .returned (.int .i64 (rc : Int)) ∧ FsA w' (fun i => O i ∨ w.heap.size ≤ i) f S2 ∧ PgM w' f p nm { P with dead := true } mch mcl tch2 tcl vrow ∧ Ch (fun i => O i ∨ i = mch ∨ i = p) w w') ∨
     (needC (P.ch.length + 1) P.now.many D ≤ S.most - useP S.fs ∧ ∃ S2, (0, S2) = comP nm.data.toList (walB (wls (batP P.now P.ch))) (batP P.now P.ch) S ∧ e = .returned (.int .i64 0) ∧ FsA w' (fun i => O i ∨ w.heap.size ≤ i) f S2 ∧
        ∃ v2, PgM w' f p nm (comD P) mch mcl tch2 tcl v2 ∧ v2.ownBlock = vrow.ownBlock ∧ Ch (fun i => O i ∨ i = mch ∨ i = mcl ∨ i = p ∨ vrow.ownBlock = some i) w w'))
theorem step_stH {w : World} {ops : Array Oper} {o : Oper} {a : Act} {K : Act → World → Prop} {Q : Exit → Act → World → Prop} {E : Prop} (hgd : o.guard = none) (x y : Operand) (ho : o.op = .store 65 x y) (g k : Nat) (h : HdP) (ht : w.there g k 10) (hx : a.eval x = .pointer (some ⟨g, k, none⟩)) (hy : a.eval y = .agg (hdL h).toArray)
    (hK : K (a.put o.dst undef) (w.setCells g k (hdL h))) : if Region.wanted o (yielded ops a.tmps) = true then Oper.wp Tryz.prog o a w K Q else E := by
  have hw : Region.wanted o (yielded ops a.tmps) = true := by simp [Region.wanted, hgd]
  rw [if_pos hw]
  exact wp_store_mid _ x y ho g k _ hx hy ht hdI (all_oneCell_toArray (hdL_one h)) hK
/-- What the last region of a commit reads, and writes. -/
def SLast (bp p : Nat) (h : HdP) (w : World) : Prop := w.cell? ⟨bp, 0, none⟩ = some (.pointer (some ⟨p, 0, none⟩)) ∧ w.rangeAt p 2 (hdL h) ∧ w.there p 12 10
set_option maxHeartbeats 8000000 in
set_option maxRecDepth 100000 in
theorem commit_any (f p mch mcl : Nat) (O : Nat → Prop) (S : FsP) (nm : ByteArray) (P : PgP) (tch tcl : Nat → SlT) (vrow : Value) (w : World) (D : Nat) (h : PgM w f p nm P mch mcl tch tcl vrow) (hF : FsA w O f S) (hdis : ∀ i, PgO p mch mcl tch tcl vrow P i → ¬ O i) (hok : P.Ok) (hr8 : P.now.roots.length = 8) (hs : nm.size ≤ 100) (hst : S.stamp ≤ 900000)
    (hcl : P.ch.length < 180) (hup : S.down = false) (hdb : lenP S (dbN nm.data.toList) = some D) (hD : D ≤ 100000000) (hmany : P.now.many ≤ 65536) :
    Calls Tryz.prog 44 #[.pointer (some ⟨p, 0, none⟩)] w fun e w' => ComR w w' O f p mch mcl nm P S D tch tcl vrow e := by
  have hM0 := h.heap (W' := w.alloc (.cells #[.pointer (some ⟨p, 0, none⟩)] 26)) (by simp) (fun i hi => Below.heap_alloc w _ i (h.lt i hi))
  have HW0 := Lib.hid (writes_any f p mch mcl nm P tch tcl vrow _ hM0 hok hr8)
  have hwO := walB_len (bat_ok hr8 hok.srt hok.chb (by omega))
  rw [wls_len, bat_len] at hwO
  obtain ⟨N2, hN2⟩ : ∃ N2, N2 = (walB (wls (batP P.now P.ch))).length := ⟨_, rfl⟩
  have hN2' : N2 = 12 + 516 * (P.ch.length + 1) := hN2.trans hwO
  obtain ⟨M5, hM5⟩ : ∃ M5, M5 = P.now.many * 512 := ⟨_, rfl⟩
  obtain ⟨MX, hMX⟩ : ∃ MX, MX = max M5 D := ⟨_, rfl⟩
  obtain ⟨s1, hs1⟩ : ∃ s1, s1 = needN (N2 + 4) := ⟨_, rfl⟩
  obtain ⟨s2, hs2⟩ : ∃ s2, s2 = needN MX := ⟨_, rfl⟩
  obtain ⟨s3, hs3⟩ : ∃ s3, s3 = needN D := ⟨_, rfl⟩
  obtain ⟨CC, hCC⟩ : ∃ CC, CC = needC (P.ch.length + 1) P.now.many D := ⟨_, rfl⟩
  have hs32 : s3 ≤ s2 := by rw [hs2, hs3, hMX]; unfold needN; omega
  have hCe : s1 + s2 = CC + s3 := by
    have : CC = needN (N2 + 4) + needN MX - needN D := by
      rw [hCC, hN2', hMX, hM5]; unfold needC
      rw [show 12 + 516 * (P.ch.length + 1) + 4 = 16 + 516 * (P.ch.length + 1) by omega, Nat.mul_comm P.now.many 512]
    rw [this, ← hs1, ← hs2, ← hs3]; omega
  have hs1b : s1 ≤ 100000 := by rw [hs1, hN2']; unfold needN; omega
  have hs2b : s2 ≤ 10000000 := by rw [hs2, hMX, hM5]; unfold needN; omega
  obtain ⟨s12, hs12⟩ : ∃ s12, s12 = s1 + s2 := ⟨_, rfl⟩
  obtain ⟨N4, hN4⟩ : ∃ N4, N4 = N2 + 4 := ⟨_, rfl⟩
  have q1 : IntKind.i64.wrap ((N2 : Int) + 4) = (N4 : Int) := by rw [IntWalk.i64_in _ (by omega)]; omega
  have q2 : IntKind.i64.wrap ((P.now.many : Int) * 512) = (M5 : Int) := by rw [IntWalk.i64_in _ (by omega)]; omega
  have q3 : IntKind.i64.wrap ((s1 : Int) + (s2 : Int)) = (s12 : Int) := by rw [IntWalk.i64_in _ (by omega)]; omega
  have q4 : IntKind.i64.wrap ((s12 : Int) - (s3 : Int)) = (CC : Int) := by rw [IntWalk.i64_in _ (by omega)]; omega
  have em := fun ats ty => run_max ats ty (M5 : Int) (D : Int) (MX : Int) (by rw [hMX]; split <;> omega)
  have hmx : max (M5 : Int) (D : Int) = (MX : Int) := by omega
  have HS1 := Lib.hid (fun W => sectors_any N4 (by omega) W)
  have HS2 := Lib.hid (fun W => sectors_any MX (by omega) W)
  have HS3 := Lib.hid (fun W => sectors_any D (by omega) W)
  rw [hN4, ← hs1, ← hN4] at HS1
  rw [← hs2] at HS2
  rw [← hs3] at HS3
  have HH := Lib.hid (And.intro h (And.intro hF (And.intro hdis (And.intro hok (And.intro hr8 (And.intro hs (And.intro hst (And.intro hcl (And.intro hup (And.intro hdb (And.intro hD (And.intro hmany (And.intro hN2 (And.intro hN2' hCC))))))))))))))
  have hlt4 : P.ch.length + 1 ≤ 4096 := by omega
  clear hM0 hwO hM5 hMX hs1 hs2 hs3 hCC hs32 hCe hs1b hs2b hs12 hN4 hN2 hN2' h hF hdis hok hr8 hs hst hcl hup hdb hD hmany
  go_enter Tryz.func44, Tryz.ntmps44
  go_wp2_with fail
  with_reducible refine HW0.out.mono ?_
  rintro e w1 ⟨A1, n1, c1, tch1, rfl, g1, g2, g3, g4, g5, g6⟩
  have hn1 : n1 = P.ch.length + 1 := by rw [← g3.1, bat_len]
  have hn1b : ¬ (4096 : Int) < (n1 : Int) := by omega
  have hz1 : w.heap.size + 1 ≤ w1.heap.size := by have := g6.size; simpa using this
  have hPcs := (g3.pcs (fun q hq => by have := (bat_mem HH.out.2.2.2.2.1 HH.out.2.2.2.1.chb hq).1; omega)).below ((Below.refl w1.heap.size w1).alloc (Nat.le_refl _) (.cells #[.slice A1 n1 c1] 96)) (Nat.le_refl _)
  have hPut := wput_any A1 n1 c1 _ _ (hPcs.more (by simp))
  have hPut2 := hPut.mono (R' := fun e w' => ∃ A2 c2, e = .returned (.tuple #[.slice A2 N2 c2, .int .i64 0]) ∧ w'.cell? ⟨w1.heap.size, 0, none⟩ = some (.slice A1 n1 c1) ∧ Hid (w'.ownsRow (w1.heap.size + 1) 5 1 (.slice A2 N2 c2) N2 (bys (walB (wls (batP P.now P.ch)))) ∧ Below w1.heap.size w1 w')) (by
    rintro e w' ⟨hp, hb⟩
    rcases hp with ⟨_, v, rfl, ho⟩ | ⟨hno, _⟩
    · rw [← HH.out.2.2.2.2.2.2.2.2.2.2.2.2.1] at ho
      obtain ⟨A2, c2, rfl, _, _⟩ := own_form ho
      refine ⟨A2, c2, rfl, cellAt ((Bk.new w1 96 #[.slice A1 n1 c1]).cell 0) (hb.block _ (by simp)), Lib.hid ⟨own_base ho (by simp), ((Below.refl _ _).alloc (Nat.le_refl _) _).trans (hb.mono (by simp))⟩⟩
    · rw [bat_ok HH.out.2.2.2.2.1 HH.out.2.2.2.1.srt HH.out.2.2.2.1.chb (by have := HH.out.2.2.2.2.2.2.2.1; omega)] at hno; cases hno)
  have HPut := Lib.hid hPut2
  have H1 := Lib.hid (And.intro g1 (And.intro g2 (And.intro g3 (And.intro g4 (And.intro g5 (And.intro g6 (And.intro hn1 hz1)))))))
  have c1b : w1.cell? ⟨w.heap.size, 0, none⟩ = some (.pointer (some ⟨p, 0, none⟩)) := cellAt ((Bk.new w 26 #[.pointer (some ⟨p, 0, none⟩)]).cell 0) (g6.block _ (by simp) (by have := HH.out.1.ch.lt; omega))
  clear g1 g2 g3 g4 g5 g6 hn1 hPcs hPut hPut2 hz1
  go_wp2_with fail
  with_reducible refine HPut.out.mono ?_
  rintro e w2 ⟨A2, c2, rfl, d1, H2⟩
  obtain ⟨W2, hW2⟩ : ∃ W2, W2 = w2.alloc (.cells #[.slice A2 N2 c2] 22) := ⟨_, rfl⟩
  have hst2 : Hid (FsA W2 (fun i => O i ∧ i < w.heap.size) f S ∧ PgM W2 f p nm P mch mcl tch1 tcl vrow ∧ CmW W2 (fun i => O i ∧ i < w.heap.size) f p w.heap.size w1.heap.size nm (.slice A1 n1 c1) ∧ CmW W2 (fun i => O i ∧ i < w.heap.size) f p w.heap.size w2.heap.size nm (.slice A2 N2 c2) ∧ Ch (fun i => i = mch) w W2 ∧
      RdWr W2 (fun i => w.heap.size ≤ i) A1 n1 (batP P.now P.ch) ∧ W2.ownsRow (w1.heap.size + 1) 5 1 (.slice A2 N2 c2) N2 (bys (walB (wls (batP P.now P.ch)))) ∧ n1 ≤ c1 ∧ c1 ≤ maxLen) := Lib.hid (by
    obtain ⟨g1, g2, g3, g4, g5, g6, hn1, hz1⟩ := H1.out
    obtain ⟨h, hF, hdis, hok, hr8, hs, hst, hcl, hup, hdb, hD, hmany, hN2, hN2', hCC⟩ := HH.out
    have hb2 : Below w1.heap.size w1 W2 := by rw [hW2]; exact H2.out.2.alloc H2.out.2.size _
    have hz2 := H2.out.2.size
    have hzW : W2.heap.size = w2.heap.size + 1 := by rw [hW2]; simp
    have hc2 : Ch (fun i => i = mch) w W2 := (((Ch.refl (fun i => i = mch) w).alloc _).trans g6 (fun i e => .inl e)).trans (Ch.of_below (S := fun _ => False) hb2 (Nat.le_refl _)) (fun i e => e.elim)
    have hmO : ∀ i, O i → i ≠ mch := fun i hi e => hdis mch (.inr (.inl rfl)) (e ▸ hi)
    have hF2 : FsA W2 (fun i => O i ∧ i < w.heap.size) f S := (hF.mono (O' := fun i => O i ∧ i < w.heap.size) (fun i hi hl => ⟨hi, hl⟩)).ch hc2 (fun i hi e => hmO i hi.1 e)
    have hP2 := g4.below hb2
    have hzw := h.hd.lt
    have e1 : W2.cell? ⟨w.heap.size, 0, none⟩ = some (.pointer (some ⟨p, 0, none⟩)) := cellAt c1b (hb2.block _ (by omega))
    have e2 : W2.cell? ⟨w1.heap.size, 0, none⟩ = some (.slice A1 n1 c1) := by
      rw [hW2]
      have hl : w1.heap.size < w2.heap.size := by
        rcases Nat.lt_or_ge w1.heap.size w2.heap.size with h | h
        · exact h
        · rw [World.cell?] at d1
          rw [Array.getElem?_eq_none (by exact h)] at d1
          cases d1
      exact cellAt d1 (Below.heap_alloc w2 _ _ hl)
    have hl12 : w1.heap.size < w2.heap.size := by
      rcases Nat.lt_or_ge w1.heap.size w2.heap.size with h | h
      · exact h
      · rw [World.cell?] at d1
        rw [Array.getElem?_eq_none (by exact h)] at d1
        cases d1
    have e3 : W2.cell? ⟨w2.heap.size, 0, none⟩ = some (.slice A2 N2 c2) := by rw [hW2]; exact (Bk.new w2 _ _).cell 0
    have hpO : ¬ (O p ∧ p < w.heap.size) := fun e => hdis p (.inl rfl) e.1
    have hpl2 := hP2.hd.lt
    refine ⟨hF2, hP2, ⟨hP2.hd.cell 0, hP2.hd.cell 1, e1, e2, hpO, fun e => by have := e.2; omega, fun e => by have := e.2; omega, hpl2, by omega, by omega⟩,
      ⟨hP2.hd.cell 0, hP2.hd.cell 1, e1, e3, hpO, fun e => by have := e.2; omega, fun e => by have := e.2; omega, hpl2, by omega, by omega⟩, hc2, (g3.heap hb2.size (fun i _ hl => hb2.block i hl)).mono (fun i hi hl => ?_), ?_, g1, g2⟩
    · have : w.heap.size + 1 ≤ i := by simpa using hi
      omega
    · rw [hW2]; exact H2.out.1.alloc _)
  have HT := hst2
  have k0 : W2.cell? ⟨w.heap.size, 0, none⟩ = some (.pointer (some ⟨p, 0, none⟩)) := HT.out.2.2.1.bp0
  have k1 : W2.cell? ⟨p, 0, none⟩ = some (.pointer (some ⟨f, 0, none⟩)) := HT.out.2.2.1.p0
  have k2 : W2.cell? ⟨p, 2, none⟩ = some (.int .i64 (P.now.many : Int)) := HT.out.2.1.hd.cell 2
  have k3 : W2.cell? ⟨w2.heap.size, 0, none⟩ = some (.slice A2 N2 c2) := HT.out.2.2.2.1.bb0
  have HDB := Lib.hid (fun q => db_any p nm (W2.drewN q) HT.out.2.2.1.p1 (by have := HH.out.2.2.2.2.2.1; omega))
  have HLn := Lib.hid (fun q => by
    have := len_at f _ S (nm ++ dbS) (W2.drewN q) (HT.out.1.heap (fun _ _ _ => rfl)) (by have := HH.out.2.2.2.2.2.1; rw [db_size]; omega)
    unfold lenV at this
    rw [db_list, HH.out.2.2.2.2.2.2.2.2.2.1] at this
    exact this)
  obtain ⟨Rm, hRm⟩ : ∃ Rm, Rm = S.most - useP S.fs := ⟨_, rfl⟩
  have HRm := Lib.hid (fun q => by
    have := room_at f _ S (W2.drewN q) (HT.out.1.heap (fun _ _ _ => rfl))
    rw [HH.out.2.2.2.2.2.2.2.2.1, if_neg (by decide), ← hRm] at this
    exact this)
  have HKb := Lib.hid (fun q w6 (hb : Below (W2.drewN q).heap.size (W2.drewN q) w6) => by
    have hb2 : Below W2.heap.size W2 w6 := ⟨hb.os, hb.tape, hb.output, hb.size, hb.block⟩
    have hK := HT.out.2.2.2.1
    have hb3 := fun i hi => hb2.block i hi
    exact (show w6.cell? ⟨w.heap.size, 0, none⟩ = some (.pointer (some ⟨p, 0, none⟩)) ∧ w6.cell? ⟨p, 0, none⟩ = some (.pointer (some ⟨f, 0, none⟩)) ∧ w6.cell? ⟨p, 2, none⟩ = some (.int .i64 (P.now.many : Int)) ∧ w6.cell? ⟨w2.heap.size, 0, none⟩ = some (.slice A2 N2 c2) ∧ Below W2.heap.size W2 w6 from
      ⟨cellAt k0 (hb3 _ hK.bpl), cellAt k1 (hb3 _ hK.pl), cellAt k2 (hb3 _ hK.pl), cellAt k3 (hb3 _ hK.bbl), hb2⟩))
  have HRe := Lib.hid hRm
  clear hst2
  rw [hW2] at HT k0 k1 k2 k3 HDB HLn HRm HKb
  clear hW2 c1b d1 hRm
  go_wp2_with fail
  go_quiet (first | (go_at_call 33; exact Calls.quiet_of_same (HDB.out _)) | (go_at_call 56; exact Calls.quiet_of_same (HLn.out _)))
  go_wp2_with fail
  by_cases hfull : Rm < CC
  · have hfull2 : (Rm : Int) < (CC : Int) := by omega
    go_region_held3 (fun w' => w'.cell? ⟨w.heap.size, 0, none⟩ = some (.pointer (some ⟨p, 0, none⟩)) ∧ w'.cell? ⟨p, 0, none⟩ = some (.pointer (some ⟨f, 0, none⟩)) ∧ w'.cell? ⟨p, 2, none⟩ = some (.int .i64 (P.now.many : Int)) ∧ w'.cell? ⟨w2.heap.size, 0, none⟩ = some (.slice A2 N2 c2))
      (first | exact ⟨k0, k1, k2, k3⟩ | exact hS6 | go_keep)
      (first
        | (go_at_call 70; (first | with_reducible refine (HS1.out _).mono ?_ | with_reducible refine (HS2.out _).mono ?_ | with_reducible refine (HS3.out _).mono ?_); rintro e w5 ⟨rfl, hw5⟩; subst hw5)
        | (go_at_call 71; with_reducible refine (HRm.out _).mono ?_; rintro e w6 ⟨rfl, b6⟩; obtain ⟨x0, x1, x2, x3, xb⟩ := HKb.out _ w6 b6; have hS6 := And.intro x0 (And.intro x1 (And.intro x2 x3)); replace xb := Lib.hid xb; clear b6))
    all_goals (go_wp2_with fail)
    all_goals go_ret
    all_goals exact ⟨tch1, H1.out.2.2.2.2.1, .inl ⟨by rw [← HRe.out, ← HH.out.2.2.2.2.2.2.2.2.2.2.2.2.2.2]; exact hfull, rfl, (HT.out.1.heap (fun i _ hi => xb.out.block i hi)).mono (fun i hi _ => hi.1), HT.out.2.1.below xb.out, HT.out.2.2.2.2.1.trans (Ch.of_below (S := fun _ => False) xb.out (Nat.le_refl _)) (fun i e => e.elim)⟩⟩
  · have hfull2 : ¬ (Rm : Int) < (CC : Int) := by omega
    go_region_held3 (fun w' => w'.cell? ⟨w.heap.size, 0, none⟩ = some (.pointer (some ⟨p, 0, none⟩)) ∧ w'.cell? ⟨p, 0, none⟩ = some (.pointer (some ⟨f, 0, none⟩)) ∧ w'.cell? ⟨p, 2, none⟩ = some (.int .i64 (P.now.many : Int)) ∧ w'.cell? ⟨w2.heap.size, 0, none⟩ = some (.slice A2 N2 c2))
      (first | exact ⟨k0, k1, k2, k3⟩ | exact hS6 | go_keep)
      (first
        | (go_at_call 70; (first | with_reducible refine (HS1.out _).mono ?_ | with_reducible refine (HS2.out _).mono ?_ | with_reducible refine (HS3.out _).mono ?_); rintro e w5 ⟨rfl, hw5⟩; subst hw5)
        | (go_at_call 71; with_reducible refine (HRm.out _).mono ?_; rintro e w6 ⟨rfl, b6⟩; obtain ⟨x0, x1, x2, x3, xb⟩ := HKb.out _ w6 b6; have hS6 := And.intro x0 (And.intro x1 (And.intro x2 x3)); replace xb := Lib.hid xb; clear b6))
    all_goals (clear hS6 x1 x2 x3; go_wp2_with fail)
    all_goals
      have hW6 := HT.out
      have HZ := Lib.hid (show _ ∧ _ from ⟨hW6.2.2.1.ch (Ch.of_below xb.out (Nat.le_refl _)), hW6.2.2.2.1.ch (Ch.of_below xb.out (Nat.le_refl _))⟩)
      have HMW := Lib.hid (show ∀ w7, Ch (fun k => O k ∧ k < w.heap.size) w6 w7 → PgM w7 f p nm P mch mcl tch1 tcl vrow ∧ w7.cell? ⟨w.heap.size, 0, none⟩ = some (.pointer (some ⟨p, 0, none⟩)) from fun w7 hc => by
        have hM6 := hW6.2.1.below xb.out
        have hK := HZ.out.1.ch hc
        refine ⟨hM6.heap hc.size (fun i hi => hc.block i (hM6.lt i hi) (fun e => ?_)), hK.bp0⟩
        refine HH.out.2.2.1 i ?_ e.1
        rcases hi with e | e | e | e | ⟨k, c, hk, e⟩ | ⟨k, hk, e⟩
        · exact .inl e
        · exact .inr (.inl e)
        · exact .inr (.inr (.inl e))
        · exact .inr (.inr (.inr (.inl e)))
        · have hk0 : k ≠ 0 := by
            rintro rfl
            have := (HH.out.2.2.2.1.chb _ (lookup_mem2 hk)).1
            simp at this
          rw [H1.out.2.2.2.2.1 k hk0] at e
          exact .inr (.inr (.inr (.inr (.inl ⟨k, c, hk, e⟩))))
        · exact .inr (.inr (.inr (.inr (.inr ⟨k, hk, e⟩)))))
      obtain ⟨i0, i1, i2, i3, i4, i5⟩ := com_index w.heap.size w1.heap.size w2.heap.size
      go_loopw [62] (fun s62 wr => ∃ i : Nat, s62 = .int .i64 (i : Int) ∧ i ≤ 6 ∧ Hid (∃ Si, runS S ((comSteps nm.data.toList (walB (wls (batP P.now P.ch))) (batP P.now P.ch)).take i) = (0, Si) ∧ FsA wr (fun k => (O k ∧ k < w.heap.size) ∨ w6.heap.size ≤ k) f Si ∧ Ch (fun k => O k ∧ k < w.heap.size) w6 wr ∧ Si.stamp ≤ S.stamp + 5000 * i)) (fun s62 _ => 6 - (intOf s62).toNat)
      case atStart => exact ⟨0, rfl, by omega, Lib.hid ⟨S, rfl, (hW6.1.heap (fun i _ hi => xb.out.block i hi)).mono (fun i hi _ => .inl hi), Ch.refl _ _, by omega⟩⟩
      case round =>
        obtain ⟨i, rfl, hi, HI⟩ := hrel
        by_cases hlt : i < 6
        · obtain ⟨Si, e1, hFi, hCi, hsti⟩ := HI.out
          obtain ⟨k, hk⟩ : ∃ k, (comSteps nm.data.toList (walB (wls (batP P.now P.ch))) (batP P.now P.ch))[i]? = some k := ⟨_, List.getElem?_eq_getElem (by show i < 6; exact hlt)⟩
          obtain ⟨rc, S2, hrc⟩ : ∃ rc S2, (rc, S2) = k Si := ⟨(k Si).1, (k Si).2, rfl⟩
          obtain ⟨h, hF, hdis, hok, hr8, hs, hst, hcl, hup, hdb, hD, hmany, hN2, hN2', hCC⟩ := HH.out
          have hz6 : w.heap.size ≤ w6.heap.size := by
            have := hW6.2.2.2.2.1.size
            have := xb.out.size
            omega
          have hCs := com_step (S := S) (base := w.heap.size) (i := i) (rc := rc) (S2 := S2) HZ.out.1 HZ.out.2 (hW6.2.2.2.2.2.1.heap xb.out.size (fun i _ hl => xb.out.block i hl)) (fun i hi => hi.2) hz6
            (own_base (own_ch hW6.2.2.2.2.2.2.1 (Ch.of_below (S := fun _ => False) xb.out (Nat.le_refl _)) (fun _ _ e => e)) (by have := H1.out.2.2.2.2.2.2.2; omega)) hN2 (by omega) (by omega) (hW6.2.1.below xb.out) (by rw [bat_len]; omega)
            (fun q hq => by have := (bat_mem hr8 hok.chb hq).1; omega) (fun q hq => (bat_mem hr8 hok.chb hq).2) hs hFi hCi (by omega) k hk hrc
          have hs2 := comStep_stamp (by rw [bat_len]; omega) (List.mem_of_getElem? hk) Si
          rw [← hrc] at hs2
          obtain ⟨hL1, hL2⟩ := runS_step e1 hk
          rw [← hrc] at hL1 hL2
          have HC := Lib.hid hCs
          have HJ := Lib.hid (And.intro hL1 (And.intro hL2 (show S2.stamp ≤ S.stamp + 5000 * (i + 1) by dsimp only at hs2; omega)))
          clear e1 hFi hCi hsti hk hrc h hF hdis hok hr8 hs hst hcl hup hdb hD hmany hN2 hN2' hCC hz6 hCs hs2 hL1 hL2 HI
          have hi6 : i = 0 ∨ i = 1 ∨ i = 2 ∨ i = 3 ∨ i = 4 ∨ i = 5 := by omega
          rcases hi6 with rfl | rfl | rfl | rfl | rfl | rfl
          · have HC2 := Lib.hid (HC.out.1 rfl)
            clear HC
            go_wp2_with fail
            with_reducible refine HC2.out.mono ?_
            rintro e w7 ⟨rfl, F7, C7⟩
            replace F7 := Lib.hid F7
            replace C7 := Lib.hid C7
            clear HC2
            by_cases hz : rc = 0
            · subst hz
              go_wp2_with fail
              go_roundw
              case rel => exact ⟨1, by rfl, by omega, Lib.hid ⟨S2, HJ.out.1, F7.out, C7.out, HJ.out.2.2⟩⟩
              case measure => simp [intOf]
            · have hz2 : ¬ (rc : Int) = 0 := by omega
              have HZ0 := Lib.hid hz
              clear hz
              obtain ⟨hM7, y0⟩ := HMW.out w7 C7.out
              have y26 : w7.cell? ⟨p, 26, none⟩ = some (.bool P.dead) := hM7.hd.cell 26
              have g26 := hM7.hd.free 26
              have hb8 : Bk (w7.setCell ⟨p, 26, none⟩ (.bool true)) p 67 (pgC f nm P.now P.last mch mcl vrow P.reads true) := pgC_dead f nm P.now P.last mch mcl vrow P.reads P.dead true ▸ hM7.hd.set 26 _
              have hc8 : Ch (fun i => i = p) w7 (w7.setCell ⟨p, 26, none⟩ (.bool true)) := (Ch.refl (fun i => i = p) w7).set (p := ⟨p, 26, none⟩) (.inl rfl) _
              have HE := Lib.hid (And.intro (hM7.own P.now P.last P.reads true hb8 hc8) (And.intro hc8 hM7.hd.lt))
              clear hM7 hb8 hc8
              go_wp2_with fail
              go_ret
              refine ⟨tch1, H1.out.2.2.2.2.1, .inr (.inl ⟨by rw [← HRe.out, ← HH.out.2.2.2.2.2.2.2.2.2.2.2.2.2.2]; omega, rc, S2, (HJ.out.2.1 HZ0.out).symm, HZ0.out, rfl, ?_, HE.out.1, ?_⟩)⟩
              · refine (F7.out.ch HE.out.2.1 (fun i hi e => ?_)).mono (fun i hi _ => ?_)
                · subst e
                  rcases hi with e | e
                  · exact HH.out.2.2.1 _ (.inl rfl) e.1
                  · have := HZ.out.1.pl; omega
                · rcases hi with e | e
                  · exact .inl e.1
                  · exact .inr (by have := hW6.2.2.2.2.1.size; have := xb.out.size; omega)
              · exact (((hW6.2.2.2.2.1.mono (S' := fun i => O i ∨ i = mch ∨ i = p) (fun i e => .inr (.inl e))).trans (Ch.of_below (S := fun _ => False) xb.out (Nat.le_refl _)) (fun i e => e.elim)).trans C7.out (fun i e => .inl (.inl e.1))).trans HE.out.2.1 (fun i e => .inl (.inr (.inr e)))
          · have HC2 := Lib.hid (HC.out.2.1 rfl)
            clear HC
            go_wp2_with fail
            with_reducible refine HC2.out.mono ?_
            rintro e w7 ⟨rfl, F7, C7⟩
            replace F7 := Lib.hid F7
            replace C7 := Lib.hid C7
            clear HC2
            by_cases hz : rc = 0
            · subst hz
              go_wp2_with fail
              go_roundw
              case rel => exact ⟨2, by rfl, by omega, Lib.hid ⟨S2, HJ.out.1, F7.out, C7.out, HJ.out.2.2⟩⟩
              case measure => simp [intOf]
            · have hz2 : ¬ (rc : Int) = 0 := by omega
              have HZ0 := Lib.hid hz
              clear hz
              obtain ⟨hM7, y0⟩ := HMW.out w7 C7.out
              have y26 : w7.cell? ⟨p, 26, none⟩ = some (.bool P.dead) := hM7.hd.cell 26
              have g26 := hM7.hd.free 26
              have hb8 : Bk (w7.setCell ⟨p, 26, none⟩ (.bool true)) p 67 (pgC f nm P.now P.last mch mcl vrow P.reads true) := pgC_dead f nm P.now P.last mch mcl vrow P.reads P.dead true ▸ hM7.hd.set 26 _
              have hc8 : Ch (fun i => i = p) w7 (w7.setCell ⟨p, 26, none⟩ (.bool true)) := (Ch.refl (fun i => i = p) w7).set (p := ⟨p, 26, none⟩) (.inl rfl) _
              have HE := Lib.hid (And.intro (hM7.own P.now P.last P.reads true hb8 hc8) (And.intro hc8 hM7.hd.lt))
              clear hM7 hb8 hc8
              go_wp2_with fail
              go_ret
              refine ⟨tch1, H1.out.2.2.2.2.1, .inr (.inl ⟨by rw [← HRe.out, ← HH.out.2.2.2.2.2.2.2.2.2.2.2.2.2.2]; omega, rc, S2, (HJ.out.2.1 HZ0.out).symm, HZ0.out, rfl, ?_, HE.out.1, ?_⟩)⟩
              · refine (F7.out.ch HE.out.2.1 (fun i hi e => ?_)).mono (fun i hi _ => ?_)
                · subst e
                  rcases hi with e | e
                  · exact HH.out.2.2.1 _ (.inl rfl) e.1
                  · have := HZ.out.1.pl; omega
                · rcases hi with e | e
                  · exact .inl e.1
                  · exact .inr (by have := hW6.2.2.2.2.1.size; have := xb.out.size; omega)
              · exact (((hW6.2.2.2.2.1.mono (S' := fun i => O i ∨ i = mch ∨ i = p) (fun i e => .inr (.inl e))).trans (Ch.of_below (S := fun _ => False) xb.out (Nat.le_refl _)) (fun i e => e.elim)).trans C7.out (fun i e => .inl (.inl e.1))).trans HE.out.2.1 (fun i e => .inl (.inr (.inr e)))
          · have HC2 := Lib.hid (HC.out.2.2.1 rfl)
            clear HC
            go_wp2_with fail
            with_reducible refine HC2.out.mono ?_
            rintro e w7 ⟨rfl, F7, C7⟩
            replace F7 := Lib.hid F7
            replace C7 := Lib.hid C7
            clear HC2
            by_cases hz : rc = 0
            · subst hz
              go_wp2_with fail
              go_roundw
              case rel => exact ⟨3, by rfl, by omega, Lib.hid ⟨S2, HJ.out.1, F7.out, C7.out, HJ.out.2.2⟩⟩
              case measure => simp [intOf]
            · have hz2 : ¬ (rc : Int) = 0 := by omega
              have HZ0 := Lib.hid hz
              clear hz
              obtain ⟨hM7, y0⟩ := HMW.out w7 C7.out
              have y26 : w7.cell? ⟨p, 26, none⟩ = some (.bool P.dead) := hM7.hd.cell 26
              have g26 := hM7.hd.free 26
              have hb8 : Bk (w7.setCell ⟨p, 26, none⟩ (.bool true)) p 67 (pgC f nm P.now P.last mch mcl vrow P.reads true) := pgC_dead f nm P.now P.last mch mcl vrow P.reads P.dead true ▸ hM7.hd.set 26 _
              have hc8 : Ch (fun i => i = p) w7 (w7.setCell ⟨p, 26, none⟩ (.bool true)) := (Ch.refl (fun i => i = p) w7).set (p := ⟨p, 26, none⟩) (.inl rfl) _
              have HE := Lib.hid (And.intro (hM7.own P.now P.last P.reads true hb8 hc8) (And.intro hc8 hM7.hd.lt))
              clear hM7 hb8 hc8
              go_wp2_with fail
              go_ret
              refine ⟨tch1, H1.out.2.2.2.2.1, .inr (.inl ⟨by rw [← HRe.out, ← HH.out.2.2.2.2.2.2.2.2.2.2.2.2.2.2]; omega, rc, S2, (HJ.out.2.1 HZ0.out).symm, HZ0.out, rfl, ?_, HE.out.1, ?_⟩)⟩
              · refine (F7.out.ch HE.out.2.1 (fun i hi e => ?_)).mono (fun i hi _ => ?_)
                · subst e
                  rcases hi with e | e
                  · exact HH.out.2.2.1 _ (.inl rfl) e.1
                  · have := HZ.out.1.pl; omega
                · rcases hi with e | e
                  · exact .inl e.1
                  · exact .inr (by have := hW6.2.2.2.2.1.size; have := xb.out.size; omega)
              · exact (((hW6.2.2.2.2.1.mono (S' := fun i => O i ∨ i = mch ∨ i = p) (fun i e => .inr (.inl e))).trans (Ch.of_below (S := fun _ => False) xb.out (Nat.le_refl _)) (fun i e => e.elim)).trans C7.out (fun i e => .inl (.inl e.1))).trans HE.out.2.1 (fun i e => .inl (.inr (.inr e)))
          · have HC2 := Lib.hid (HC.out.2.2.2.1 rfl)
            clear HC
            go_wp2_with fail
            with_reducible refine HC2.out.mono ?_
            rintro e w7 ⟨rfl, F7, C7⟩
            replace F7 := Lib.hid F7
            replace C7 := Lib.hid C7
            clear HC2
            by_cases hz : rc = 0
            · subst hz
              go_wp2_with fail
              go_roundw
              case rel => exact ⟨4, by rfl, by omega, Lib.hid ⟨S2, HJ.out.1, F7.out, C7.out, HJ.out.2.2⟩⟩
              case measure => simp [intOf]
            · have hz2 : ¬ (rc : Int) = 0 := by omega
              have HZ0 := Lib.hid hz
              clear hz
              obtain ⟨hM7, y0⟩ := HMW.out w7 C7.out
              have y26 : w7.cell? ⟨p, 26, none⟩ = some (.bool P.dead) := hM7.hd.cell 26
              have g26 := hM7.hd.free 26
              have hb8 : Bk (w7.setCell ⟨p, 26, none⟩ (.bool true)) p 67 (pgC f nm P.now P.last mch mcl vrow P.reads true) := pgC_dead f nm P.now P.last mch mcl vrow P.reads P.dead true ▸ hM7.hd.set 26 _
              have hc8 : Ch (fun i => i = p) w7 (w7.setCell ⟨p, 26, none⟩ (.bool true)) := (Ch.refl (fun i => i = p) w7).set (p := ⟨p, 26, none⟩) (.inl rfl) _
              have HE := Lib.hid (And.intro (hM7.own P.now P.last P.reads true hb8 hc8) (And.intro hc8 hM7.hd.lt))
              clear hM7 hb8 hc8
              go_wp2_with fail
              go_ret
              refine ⟨tch1, H1.out.2.2.2.2.1, .inr (.inl ⟨by rw [← HRe.out, ← HH.out.2.2.2.2.2.2.2.2.2.2.2.2.2.2]; omega, rc, S2, (HJ.out.2.1 HZ0.out).symm, HZ0.out, rfl, ?_, HE.out.1, ?_⟩)⟩
              · refine (F7.out.ch HE.out.2.1 (fun i hi e => ?_)).mono (fun i hi _ => ?_)
                · subst e
                  rcases hi with e | e
                  · exact HH.out.2.2.1 _ (.inl rfl) e.1
                  · have := HZ.out.1.pl; omega
                · rcases hi with e | e
                  · exact .inl e.1
                  · exact .inr (by have := hW6.2.2.2.2.1.size; have := xb.out.size; omega)
              · exact (((hW6.2.2.2.2.1.mono (S' := fun i => O i ∨ i = mch ∨ i = p) (fun i e => .inr (.inl e))).trans (Ch.of_below (S := fun _ => False) xb.out (Nat.le_refl _)) (fun i e => e.elim)).trans C7.out (fun i e => .inl (.inl e.1))).trans HE.out.2.1 (fun i e => .inl (.inr (.inr e)))
          · have HC2 := Lib.hid (HC.out.2.2.2.2.1 rfl)
            clear HC
            go_wp2_with fail
            with_reducible refine HC2.out.mono ?_
            rintro e w7 ⟨rfl, F7, C7⟩
            replace F7 := Lib.hid F7
            replace C7 := Lib.hid C7
            clear HC2
            by_cases hz : rc = 0
            · subst hz
              go_wp2_with fail
              go_roundw
              case rel => exact ⟨5, by rfl, by omega, Lib.hid ⟨S2, HJ.out.1, F7.out, C7.out, HJ.out.2.2⟩⟩
              case measure => simp [intOf]
            · have hz2 : ¬ (rc : Int) = 0 := by omega
              have HZ0 := Lib.hid hz
              clear hz
              obtain ⟨hM7, y0⟩ := HMW.out w7 C7.out
              have y26 : w7.cell? ⟨p, 26, none⟩ = some (.bool P.dead) := hM7.hd.cell 26
              have g26 := hM7.hd.free 26
              have hb8 : Bk (w7.setCell ⟨p, 26, none⟩ (.bool true)) p 67 (pgC f nm P.now P.last mch mcl vrow P.reads true) := pgC_dead f nm P.now P.last mch mcl vrow P.reads P.dead true ▸ hM7.hd.set 26 _
              have hc8 : Ch (fun i => i = p) w7 (w7.setCell ⟨p, 26, none⟩ (.bool true)) := (Ch.refl (fun i => i = p) w7).set (p := ⟨p, 26, none⟩) (.inl rfl) _
              have HE := Lib.hid (And.intro (hM7.own P.now P.last P.reads true hb8 hc8) (And.intro hc8 hM7.hd.lt))
              clear hM7 hb8 hc8
              go_wp2_with fail
              go_ret
              refine ⟨tch1, H1.out.2.2.2.2.1, .inr (.inl ⟨by rw [← HRe.out, ← HH.out.2.2.2.2.2.2.2.2.2.2.2.2.2.2]; omega, rc, S2, (HJ.out.2.1 HZ0.out).symm, HZ0.out, rfl, ?_, HE.out.1, ?_⟩)⟩
              · refine (F7.out.ch HE.out.2.1 (fun i hi e => ?_)).mono (fun i hi _ => ?_)
                · subst e
                  rcases hi with e | e
                  · exact HH.out.2.2.1 _ (.inl rfl) e.1
                  · have := HZ.out.1.pl; omega
                · rcases hi with e | e
                  · exact .inl e.1
                  · exact .inr (by have := hW6.2.2.2.2.1.size; have := xb.out.size; omega)
              · exact (((hW6.2.2.2.2.1.mono (S' := fun i => O i ∨ i = mch ∨ i = p) (fun i e => .inr (.inl e))).trans (Ch.of_below (S := fun _ => False) xb.out (Nat.le_refl _)) (fun i e => e.elim)).trans C7.out (fun i e => .inl (.inl e.1))).trans HE.out.2.1 (fun i e => .inl (.inr (.inr e)))
          · have HC2 := Lib.hid (HC.out.2.2.2.2.2 rfl)
            clear HC
            go_wp2_with fail
            with_reducible refine HC2.out.mono ?_
            rintro e w7 ⟨rfl, F7, C7⟩
            replace F7 := Lib.hid F7
            replace C7 := Lib.hid C7
            clear HC2
            by_cases hz : rc = 0
            · subst hz
              go_wp2_with fail
              go_roundw
              case rel => exact ⟨6, by rfl, by omega, Lib.hid ⟨S2, HJ.out.1, F7.out, C7.out, HJ.out.2.2⟩⟩
              case measure => simp [intOf]
            · have hz2 : ¬ (rc : Int) = 0 := by omega
              have HZ0 := Lib.hid hz
              clear hz
              obtain ⟨hM7, y0⟩ := HMW.out w7 C7.out
              have y26 : w7.cell? ⟨p, 26, none⟩ = some (.bool P.dead) := hM7.hd.cell 26
              have g26 := hM7.hd.free 26
              have hb8 : Bk (w7.setCell ⟨p, 26, none⟩ (.bool true)) p 67 (pgC f nm P.now P.last mch mcl vrow P.reads true) := pgC_dead f nm P.now P.last mch mcl vrow P.reads P.dead true ▸ hM7.hd.set 26 _
              have hc8 : Ch (fun i => i = p) w7 (w7.setCell ⟨p, 26, none⟩ (.bool true)) := (Ch.refl (fun i => i = p) w7).set (p := ⟨p, 26, none⟩) (.inl rfl) _
              have HE := Lib.hid (And.intro (hM7.own P.now P.last P.reads true hb8 hc8) (And.intro hc8 hM7.hd.lt))
              clear hM7 hb8 hc8
              go_wp2_with fail
              go_ret
              refine ⟨tch1, H1.out.2.2.2.2.1, .inr (.inl ⟨by rw [← HRe.out, ← HH.out.2.2.2.2.2.2.2.2.2.2.2.2.2.2]; omega, rc, S2, (HJ.out.2.1 HZ0.out).symm, HZ0.out, rfl, ?_, HE.out.1, ?_⟩)⟩
              · refine (F7.out.ch HE.out.2.1 (fun i hi e => ?_)).mono (fun i hi _ => ?_)
                · subst e
                  rcases hi with e | e
                  · exact HH.out.2.2.1 _ (.inl rfl) e.1
                  · have := HZ.out.1.pl; omega
                · rcases hi with e | e
                  · exact .inl e.1
                  · exact .inr (by have := hW6.2.2.2.2.1.size; have := xb.out.size; omega)
              · exact (((hW6.2.2.2.2.1.mono (S' := fun i => O i ∨ i = mch ∨ i = p) (fun i e => .inr (.inl e))).trans (Ch.of_below (S := fun _ => False) xb.out (Nat.le_refl _)) (fun i e => e.elim)).trans C7.out (fun i e => .inl (.inl e.1))).trans HE.out.2.1 (fun i e => .inl (.inr (.inr e)))
        · -- TAIL
          obtain ⟨wq, hwq⟩ : ∃ wq, wq = wr := ⟨_, rfl⟩
          subst hwq
          obtain ⟨Si, e1, hFi, hCi, hsti⟩ := HI.out
          have hi6 : i = 6 := by omega
          subst hi6
          rw [List.take_of_length_le (by show 6 ≤ 6; omega)] at e1
          obtain ⟨hMr, y0⟩ := HMW.out wq hCi
          have y22 : wq.cell? ⟨p, 22, none⟩ = some (.map (some mch)) := hMr.hd.cell 22
          have HM := Lib.hid hMr
          have HE1 := Lib.hid (And.intro e1 (And.intro hFi hCi))
          clear e1 hFi hCi hsti hMr hlt hi HI i0 i1 i2 i3 i4 i5
          go_wp2_with ((at_range; refine range_I rfl _ rfl HM.out.ch (by kernel_rfl) ?_; intro w8 cnt0 hrg0 hg0 hs0; replace hrg0 := Lib.hid hrg0; replace hg0 := Lib.hid hg0; replace hs0 := Lib.hid hs0))
          go_frame
          go_loopw [11] (fun s11 wr2 => ∃ (L : Nat → Bool) (cnt : Nat) (v' : Value), Hid (RngI wr2 mch wq.heap.size P.ch.length (fun k => (P.ch.lookup k).map fun _ => tch1 k) L cnt ∧ PgM wr2 f p nm { P with row := P.row.filter fun k => !((P.ch.lookup k).isSome && !L k) } mch mcl tch1 tcl v' ∧ v'.ownBlock = vrow.ownBlock ∧ Ch (fun i => i = p ∨ i = mcl ∨ vrow.ownBlock = some i ∨ i = wq.heap.size) w8 wr2)) (fun _ wr2 => wr2.rangeLeft mch wq.heap.size)
          case atStart =>
            refine ⟨_, cnt0, vrow, Lib.hid ⟨hrg0.out, ?_, rfl, Ch.refl _ _⟩⟩
            have hf : (P.row.filter fun k => !((P.ch.lookup k).isSome && !((P.ch.lookup k).map fun _ => tch1 k).isSome)) = P.row := by
              rw [List.filter_eq_self]
              intro k _
              cases P.ch.lookup k <;> simp
            rw [hf]
            exact HM.out.heap hg0.out.size (fun i hi => hg0.out.block i (HM.out.lt i hi) (by simp))
          case round =>
            obtain ⟨L, cnt, v', HR⟩ := hrel
            obtain ⟨g0, hP2, hv', hC2⟩ := HR.out
            have hSne : ¬ (w.heap.size = p ∨ w.heap.size = mcl ∨ vrow.ownBlock = some w.heap.size ∨ w.heap.size = wq.heap.size) := by
              have h := HH.out.1
              have z1 := h.hd.lt
              have z2 := h.cl.lt
              have z3 := HZ.out.1.bpl
              have z4 := HE1.out.2.2.size
              rintro (e | e | e | e)
              · omega
              · omega
              · obtain ⟨cs, hb⟩ := h.rb _ e
                have := hb.lt; omega
              · omega
            have hbp8 : w8.cell? ⟨w.heap.size, 0, none⟩ = some (.pointer (some ⟨p, 0, none⟩)) := cellAt y0 (hg0.out.block _ (by have := HZ.out.1.bpl; have := HE1.out.2.2.size; omega) (by simp))
            have hbp : wr.cell? ⟨w.heap.size, 0, none⟩ = some (.pointer (some ⟨p, 0, none⟩)) := cellAt hbp8 (hC2.block _ (by have := HZ.out.1.bpl; have := HE1.out.2.2.size; have := hg0.out.size; omega) hSne)
            have HN := Lib.hid (And.intro hSne hbp8)
            have HP2 := Lib.hid (And.intro hP2 (And.intro hv' hC2))
            clear hSne hbp8 g0 hP2 hv' hC2
            go_wp2_with ((at_next; refine next_I rfl _ rfl (by kernel_rfl) HR.out.1 ?_ ?_))
            · intro hl
              have hP3 := HP2.out.1
              have hrow : (P.row.filter fun k => !((P.ch.lookup k).isSome && !L k)) = P.row.filter fun k => (P.ch.lookup k).isNone := by
                refine List.filter_congr (fun j _ => ?_)
                rw [hl j]; cases P.ch.lookup j <;> rfl
              rw [hrow] at hP3
              have HP3 := Lib.hid hP3
              have e22 : wr.cell? ⟨p, 22, none⟩ = some (.map (some mch)) := hP3.hd.cell 22
              have HQ := Lib.hid (fun w9 (m9 : MapI w9 mch 0 (fun _ => none)) (g9 : wr.grownBy w9 (some mch)) => by
                have nem : ∀ {g : Nat} {ty : TypeId} {cs : Array Value}, Bk wr g ty cs → w9.heap[g]? = wr.heap[g]? := fun hg2 => g9.block _ hg2.lt (by intro e; injection e with e; exact (hP3.ch.ne hg2) e.symm)
                have hM9 : PgM w9 f p nm { P with ch := [], row := P.row.filter fun k => (P.ch.lookup k).isNone } mch mcl tch1 tcl v' := ⟨(nem hP3.hd).trans hP3.hd, m9, hP3.cl.heap (g9.block mcl hP3.cl.lt (by intro e; injection e with e; exact hP3.ne e.symm)), hP3.ne, fun k c hk => (by cases hk), fun k hk => by
                  obtain ⟨cs, hc1, _⟩ := hP3.lb k hk
                  exact (hP3.lb k hk).heap (nem hc1), hP3.rw.heap g9.size (fun k hv _ => by
                  obtain ⟨cs, hc⟩ := hP3.rb k hv
                  exact nem hc), fun i hi => by
                  obtain ⟨cs, hc⟩ := hP3.rb i hi
                  exact ⟨cs, (nem hc).trans hc⟩⟩
                have hb9 : w9.cell? ⟨w.heap.size, 0, none⟩ = some (.pointer (some ⟨p, 0, none⟩)) := cellAt hbp (g9.block _ (by have := HP2.out.2.2.size; have := hg0.out.size; have := HZ.out.1.bpl; have := HE1.out.2.2.size; omega) (by
                  intro e; injection e with e
                  have := HH.out.1.ch.lt; omega))
                have hb10 := pgC_setLast (show Bk w9.drew p 67 _ from hM9.hd) P.now
                have hpbp : w.heap.size ≠ p := by have := HH.out.1.hd.lt; omega
                have hb10' : (w9.drew.setCells p 12 (hdL P.now)).cell? ⟨w.heap.size, 0, none⟩ = some (.pointer (some ⟨p, 0, none⟩)) := cellAt hb9 (heap_setCells p _ _ w9.drew _ hpbp)
                exact (show w9.cell? ⟨w.heap.size, 0, none⟩ = some (.pointer (some ⟨p, 0, none⟩)) ∧ SLast w.heap.size p P.now w9.drew ∧ SLast w.heap.size p P.now (w9.drew.setCells p 12 (hdL P.now)) ∧
                  PgM (w9.drew.setCells p 12 (hdL P.now)) f p nm (comD P) mch mcl tch1 tcl v' ∧ Ch (fun i => i = p ∨ i = mch) wr (w9.drew.setCells p 12 (hdL P.now)) from
                  ⟨hb9, ⟨hb9, pgC_now (show Bk w9.drew p 67 _ from hM9.hd), (show Bk w9.drew p 67 _ from hM9.hd).there (by simp [pgC])⟩, ⟨hb10', pgC_now hb10, hb10.there (by simp [pgC])⟩,
                    (hM9.heap (W' := w9.drew) (Nat.le_refl _) (fun _ _ => rfl)).own P.now P.now P.reads P.dead hb10 (ch_setC w9.drew p 12 _),
                    (((Ch.refl (fun i => i = p ∨ i = mch) wr).grown g9 (fun i e => by injection e with e; exact .inl (.inr e.symm))).drew.trans (ch_setC w9.drew p 12 _) (fun i e => .inl (.inl e)))⟩))
              clear hP3 hrow hl
              try go_frame
              go_wp2_with (with_reducible refine at_clear ?_; go_loud ((apply op_clrI HP3.out.ch); (case hm => kernel_rfl); (case hw => kernel_rfl); intro w9 m9 g9; obtain ⟨z0, S0, S1, hM10, hC10⟩ := HQ.out w9 m9 g9; replace S0 := Lib.hid S0; replace S1 := Lib.hid S1; replace hM10 := Lib.hid hM10; replace hC10 := Lib.hid hC10; clear m9 g9; try go_frame))
              refine wp_region_held (S := SLast w.heap.size p P.now) (by kernel_rfl) ?_
              change wpAnyH _ _ _ _ _ _ _ _ w9.drew
              have hS0 := S0.out
              refine wpAnyH_take (i := 0) (oi := { dst := some 101, op := Op.load 26 (Operand.tmp 1), type := 26, pos := "pager.go:347", after := #[], guard := none }) (v := (.pointer (some ⟨p, 0, none⟩))) rfl (by kernel_rfl) (by kernel_rfl) (by kernel_rfl) (fun _ _ _ h => h) (.inl ⟨by rfl, fun w' hw' => ?_⟩) hS0 ?_
              · have q0' := hw'.1
                clear hw'
                go_simp
              try simp only [Act.put, List.setIfInBounds_toArray, List.set_cons_zero, List.set_cons_succ]
              refine wpAnyH_take (i := 1) (oi := { dst := some 102, op := Op.load 26 (Operand.tmp 1), type := 26, pos := "pager.go:347", after := #[], guard := none }) (v := (.pointer (some ⟨p, 0, none⟩))) rfl (by kernel_rfl) (by kernel_rfl) (by kernel_rfl) (fun _ _ _ h => h) (.inl ⟨by rfl, fun w' hw' => ?_⟩) hS0 ?_
              · have q0' := hw'.1
                clear hw'
                go_simp
              try simp only [Act.put, List.setIfInBounds_toArray, List.set_cons_zero, List.set_cons_succ]
              refine wpAnyH_take (i := 2) (oi := { dst := some 103, op := Op.nilCheck (Operand.tmp 102), type := 0, pos := "pager.go:347", after := #[{ on := 1, ground := Ground.data }], guard := none }) (v := (.pointer (some ⟨p, 0, none⟩))) rfl (by kernel_rfl) (by kernel_rfl) (by kernel_rfl) (fun _ _ _ h => h) (.inl ⟨by rfl, fun w' hw' => ?_⟩) hS0 ?_
              · have q0' := hw'.1
                clear hw'
                go_simp
              try simp only [Act.put, List.setIfInBounds_toArray, List.set_cons_zero, List.set_cons_succ]
              refine wpAnyH_take (i := 3) (oi := { dst := some 104, op := Op.fieldAddr 67 (Operand.tmp 103) 2, type := 0, pos := "pager.go:347", after := #[{ on := 2, ground := Ground.data }], guard := none }) (v := (.pointer (some ⟨p, 2, none⟩))) rfl (by kernel_rfl) (by kernel_rfl) (by kernel_rfl) (fun _ _ _ h => h) (.inl ⟨by rfl, fun w' hw' => ?_⟩) hS0 ?_
              · have q0' := hw'.1
                clear hw'
                go_simp
              try simp only [Act.put, List.setIfInBounds_toArray, List.set_cons_zero, List.set_cons_succ]
              refine wpAnyH_take (i := 4) (oi := { dst := some 105, op := Op.load 65 (Operand.tmp 104), type := 65, pos := "pager.go:347", after := #[{ on := 3, ground := Ground.data }], guard := none }) (v := .agg (hdL P.now).toArray) rfl (by kernel_rfl) (by kernel_rfl) (by kernel_rfl) (fun _ _ _ h => h) (yieldsIf_load_mid (by rfl) _ _ rfl p 2 (by kernel_rfl) (hdL P.now) _ (fun w' hw' => hw'.2.1) Tryz.underlying65 rfl hdI) hS0 ?_
              try simp only [Act.put, List.setIfInBounds_toArray, List.set_cons_zero, List.set_cons_succ]
              refine wpAnyH_take (i := 5) (oi := { dst := some 106, op := Op.nilCheck (Operand.tmp 101), type := 0, pos := "pager.go:347", after := #[{ on := 0, ground := Ground.data }, { on := 0, ground := Ground.phase }, { on := 1, ground := Ground.phase }, { on := 2, ground := Ground.phase }, { on := 3, ground := Ground.phase }, { on := 4, ground := Ground.phase }], guard := none }) (v := (.pointer (some ⟨p, 0, none⟩))) rfl (by kernel_rfl) (by kernel_rfl) (by kernel_rfl) (fun _ _ _ h => h) (.inl ⟨by rfl, fun w' hw' => ?_⟩) hS0 ?_
              · have q0' := hw'.1
                clear hw'
                go_simp
              try simp only [Act.put, List.setIfInBounds_toArray, List.set_cons_zero, List.set_cons_succ]
              refine wpAnyH_take (i := 6) (oi := { dst := some 107, op := Op.fieldAddr 67 (Operand.tmp 106) 3, type := 0, pos := "pager.go:347", after := #[{ on := 5, ground := Ground.data }, { on := 0, ground := Ground.phase }, { on := 1, ground := Ground.phase }, { on := 2, ground := Ground.phase }, { on := 3, ground := Ground.phase }, { on := 4, ground := Ground.phase }], guard := none }) (v := (.pointer (some ⟨p, 12, none⟩))) rfl (by kernel_rfl) (by kernel_rfl) (by kernel_rfl) (fun _ _ _ h => h) (.inl ⟨by rfl, fun w' hw' => ?_⟩) hS0 ?_
              · have q0' := hw'.1
                clear hw'
                go_simp
              try simp only [Act.put, List.setIfInBounds_toArray, List.set_cons_zero, List.set_cons_succ]
              refine wpAnyH_ready (rs := [7]) (by kernel_rfl) (by simp) ?_
              refine AllReadyH.cons (o := { dst := none, op := Op.store 65 (Operand.tmp 107) (Operand.tmp 105), type := 0, pos := "pager.go:347", after := #[{ on := 6, ground := Ground.data }, { on := 4, ground := Ground.data }, { on := 0, ground := Ground.phase }, { on := 1, ground := Ground.phase }, { on := 2, ground := Ground.phase }, { on := 3, ground := Ground.phase }, { on := 4, ground := Ground.phase }], guard := none }) rfl (fun K hK => ?_) AllReadyH.nil
              refine step_stH rfl _ _ rfl p 12 P.now hS0.2.2 (by kernel_rfl) (by kernel_rfl) ?_
              with_reducible refine hK.out _ _ S1.out (fun _ => ?_)
              clear hK K
              refine wpAnyH_done (by kernel_rfl) ?_ _
              go_wp2_with fail
              go_ret
              have hpg := fun i hi => HH.out.2.2.1 i hi
              have zw6 : w.heap.size ≤ w6.heap.size := by have := hW6.2.2.2.2.1.size; have := xb.out.size; omega
              have zq := HE1.out.2.2.size
              have nS : ∀ i, (((O i ∧ i < w.heap.size) ∨ w6.heap.size ≤ i) ∧ i < wq.heap.size) → ¬ (i = p ∨ i = mcl ∨ vrow.ownBlock = some i ∨ i = wq.heap.size) := fun i hi => by
                have h := HH.out.1
                rintro (e | e | e | e)
                · subst e
                  rcases hi.1 with e | e
                  · exact hpg _ (.inl rfl) e.1
                  · have := h.hd.lt; omega
                · subst e
                  rcases hi.1 with e | e
                  · exact hpg _ (.inr (.inr (.inl rfl))) e.1
                  · have := h.cl.lt; omega
                · rcases hi.1 with e2 | e2
                  · exact hpg _ (.inr (.inr (.inr (.inl e)))) e2.1
                  · obtain ⟨cs, hb⟩ := h.rb _ e
                    have := hb.lt; omega
                · omega
              have nM : ∀ i, (((O i ∧ i < w.heap.size) ∨ w6.heap.size ≤ i) ∧ i < wq.heap.size) → ¬ (i = p ∨ i = mch) := fun i hi => by
                rintro (e | e)
                · exact nS i hi (.inl e)
                · subst e
                  rcases hi.1 with e | e
                  · exact hpg _ (.inr (.inl rfl)) e.1
                  · have := HH.out.1.ch.lt; omega
              have hF3 := (((HE1.out.2.1.mono (O' := fun i => ((O i ∧ i < w.heap.size) ∨ w6.heap.size ≤ i) ∧ i < wq.heap.size) (fun i hi hl => ⟨hi, hl⟩)).heap (fun i _ hl => hg0.out.block i hl (by simp))).ch HP2.out.2.2 nS).ch hC10.out nM
              refine ⟨tch1, H1.out.2.2.2.2.1, .inr (.inr ⟨by rw [← HRe.out, ← HH.out.2.2.2.2.2.2.2.2.2.2.2.2.2.2]; omega, Si, HE1.out.1.symm, rfl, hF3.mono (fun i hi _ => ?_), v', hM10.out, HP2.out.2.1, ?_⟩)⟩
              · rcases hi.1 with e | e
                · exact .inl e.1
                · exact .inr (by omega)
              · have k1 : Ch (fun i => O i ∨ i = mch ∨ i = mcl ∨ i = p ∨ vrow.ownBlock = some i) w w6 := (hW6.2.2.2.2.1.mono (S' := fun i => O i ∨ i = mch ∨ i = mcl ∨ i = p ∨ vrow.ownBlock = some i) (fun i e => .inr (.inl e))).trans (Ch.of_below (S := fun _ => False) xb.out (Nat.le_refl _)) (fun i e => e.elim)
                refine (((k1.trans HE1.out.2.2 (fun i e => .inl (.inl e.1))).grown hg0.out (fun i e => by cases e)).trans HP2.out.2.2 (fun i e => ?_)).trans hC10.out (fun i e => ?_)
                · rcases e with e | e | e | e
                  · exact .inl (.inr (.inr (.inr (.inl e))))
                  · exact .inl (.inr (.inr (.inl e)))
                  · exact .inl (.inr (.inr (.inr (.inr e))))
                  · exact .inr (by omega)
                · rcases e with e | e
                  · exact .inl (.inr (.inr (.inr (.inl e))))
                  · exact .inl (.inr (.inl e))
            · intro k v w9 cnt9 hL hx0 hx hr9 hcnt hg9 hz9 hen
              have hrl := HR.out.1.lt
              have hP9 := HP2.out.1.heap (W' := w9) (by omega) (fun i hi => hg9.block i (HP2.out.1.lt i hi) (by
                intro e; injection e with e
                exact HP2.out.1.ne_iter HR.out.1 i hi e))
              have hbp9 : w9.cell? ⟨w.heap.size, 0, none⟩ = some (.pointer (some ⟨p, 0, none⟩)) := cellAt hbp (hg9.block _ (by have := HP2.out.2.2.size; have := hg0.out.size; have := HZ.out.1.bpl; have := HE1.out.2.2.size; omega) (by intro e; injection e with e; exact HN.out.1 (.inr (.inr (.inr e)))))
              have hPA := hP9.heap (W' := w9.alloc (.cells #[.int .i64 (k : Int)] 3)) (by simp) (fun i hi => Below.heap_alloc w9 _ i (hP9.lt i hi))
              have hk16 : k ≤ 65536 := by have := (HH.out.2.2.2.1.chb _ hx).2.1; dsimp only at this; omega
              have hP' := hPA.heap (W' := (w9.alloc (.cells #[.int .i64 (k : Int)] 3)).drew) (Nat.le_refl _) (fun _ _ => rfl)
              obtain ⟨w10, hrun, m10, g10⟩ := run_del (w := (w9.alloc (.cells #[.int .i64 (k : Int)] 3)).drew) hP'.cl (k := k) (by omega)
              have z9 : w.heap.size < w9.heap.size := by have := HP2.out.2.2.size; have := hg0.out.size; have := HZ.out.1.bpl; have := HE1.out.2.2.size; omega
              have hmclbp : w.heap.size ≠ mcl := by
                intro e; exact HN.out.1 (.inr (.inl e))
              have hmclbx : w9.heap.size ≠ mcl := by have := hP9.cl.lt; omega
              have s0 : (w9.alloc (.cells #[.int .i64 (k : Int)] 3)).drew.cell? ⟨w.heap.size, 0, none⟩ = some (.pointer (some ⟨p, 0, none⟩)) := cellAt hbp9 (Below.heap_alloc w9 _ _ z9)
              have s1 : (w9.alloc (.cells #[.int .i64 (k : Int)] 3)).drew.cell? ⟨p, 23, none⟩ = some (.map (some mcl)) := hP'.hd.cell 23
              have s2 : (w9.alloc (.cells #[.int .i64 (k : Int)] 3)).drew.cell? ⟨w9.heap.size, 0, none⟩ = some (.int .i64 (k : Int)) := (Bk.new w9 3 #[.int .i64 (k : Int)]).cell 0
              have b10 := hP'.hd.grown g10 (by intro e; injection e with e; exact (hP'.cl.ne hP'.hd) e.symm)
              have t0 : w10.cell? ⟨w.heap.size, 0, none⟩ = some (.pointer (some ⟨p, 0, none⟩)) := cellAt s0 (g10.block _ (by simp; omega) (by intro e; injection e with e; exact hmclbp e))
              have t1 : w10.cell? ⟨p, 23, none⟩ = some (.map (some mcl)) := b10.cell 23
              have t2 : w10.cell? ⟨w9.heap.size, 0, none⟩ = some (.int .i64 (k : Int)) := cellAt s2 (g10.block _ (by simp) (by intro e; injection e with e; exact hmclbx e))
              have t24 : w10.cell? ⟨p, 24, none⟩ = some v' := b10.cell 24
              have z10 := g10.size
              have hDel2 : Calls Tryz.prog 80 #[v', .func (.func 81) #[] #[.pointer (some ⟨w9.heap.size, 0, none⟩)]] w10.drew (fun e w11 => ∃ A11 N11 c11, e = .returned (.slice A11 N11 c11) ∧ w11.cell? ⟨p, 24, none⟩ = some v' ∧ w11.frozen? ⟨p, 24, none⟩ = false ∧ w11.cell? ⟨w.heap.size, 0, none⟩ = some (.pointer (some ⟨p, 0, none⟩)) ∧
                  Hid (RngI (w11.setCell ⟨p, 24, none⟩ (.slice A11 N11 c11)) mch wq.heap.size P.ch.length (fun k => (P.ch.lookup k).map fun _ => tch1 k) (fun t => L t && !(t == k)) cnt9 ∧ PgM (w11.setCell ⟨p, 24, none⟩ (.slice A11 N11 c11)) f p nm { P with row := P.row.filter fun j => !((P.ch.lookup j).isSome && !(L j && !(j == k))) } mch mcl tch1 tcl (.slice A11 N11 c11) ∧ (Value.slice A11 N11 c11).ownBlock = vrow.ownBlock ∧
                    Ch (fun i => i = p ∨ i = mcl ∨ vrow.ownBlock = some i ∨ i = wq.heap.size) w8 (w11.setCell ⟨p, 24, none⟩ (.slice A11 N11 c11)))) := by
                have hd2 : Calls Tryz.prog 80 #[v', .func (.func 81) #[] #[.pointer (some ⟨w9.heap.size, 0, none⟩)]] w10.drew (DelR v' (P.row.filter fun k => !((P.ch.lookup k).isSome && !L k)) k w10.drew) :=
                  delrow_any k w9.heap.size v' (P.row.filter fun k => !((P.ch.lookup k).isSome && !L k)) w10.drew ((hP'.rw.heap g10.size (fun j hj hl => g10.block j hl (by
                    intro e; injection e with e
                    obtain ⟨cs, hb⟩ := hP'.rb j hj
                    exact (hP'.cl.ne hb) e.symm))).heap (Nat.le_refl _) (fun _ _ _ => rfl)) (by simp at z10; show w9.heap.size < w10.heap.size; omega) t2 (fun e => by have := hP9.rw.lt _ e; omega) (by have := List.length_filter_le (fun k => !((P.ch.lookup k).isSome && !L k)) P.row; have := HH.out.2.2.2.1.rl; omega)
                refine hd2.mono ?_
                rintro e w11 ⟨A11, c11, rfl, d1, d2, d3, d4⟩
                have hv'p : v'.ownBlock ≠ some p := by
                  intro e
                  obtain ⟨cs, hb⟩ := hP'.rb p e
                  exact absurd (bk_ty hP'.hd hb) (by decide)
                have hbpn : v'.ownBlock ≠ some w.heap.size := by
                  intro e
                  exact HN.out.1 (.inr (.inr (.inl (HP2.out.2.1 ▸ e))))
                obtain ⟨e1, e2, e3⟩ := hP'.strike (A0 := w10.heap.size) (w2 := w11) (HH.out.2.2.2.1.nd.filter _) m10 g10 rfl ⟨d3.os, d3.tape, d3.output, d3.size, d3.block⟩ d1 d2 (fun i cs h1 h2 => d4 i cs h1 h2)
                have hfil : ((P.row.filter fun k => !((P.ch.lookup k).isSome && !L k)).filter fun j => j != k) = P.row.filter fun j => !((P.ch.lookup j).isSome && !(L j && !(j == k))) := by
                  rw [List.filter_filter]
                  refine List.filter_congr (fun j _ => ?_)
                  by_cases e : j = k
                  · subst e
                    rw [lookup_at HH.out.2.2.2.1.srt hx]; simp
                  · have e2 : (j == k) = false := by simpa using e
                    simp [bne, e2]
                rw [hfil] at d1 d2 e1 e2
                have hv'q := HP2.out.2.1
                rw [hv'q] at e2
                have hz9' : w9.heap.size = w9.heap.size := rfl
                have hrn : ¬ (wq.heap.size = p ∨ wq.heap.size = mcl ∨ vrow.ownBlock = some wq.heap.size) := by
                  have h := HH.out.1
                  have z1 := h.hd.lt
                  have z2 := h.cl.lt
                  have z3 := HZ.out.1.bpl
                  have z4 := HE1.out.2.2.size
                  rintro (e | e | e)
                  · omega
                  · omega
                  · obtain ⟨cs, hb⟩ := h.rb _ e
                    have := hb.lt; omega
                have hmn : ¬ (mch = p ∨ mch = mcl ∨ vrow.ownBlock = some mch) := by
                  have h := HH.out.1
                  rintro (e | e | e)
                  · exact (h.ch.ne h.hd) e
                  · exact h.ne e
                  · obtain ⟨cs, hb⟩ := h.rb _ e
                    exact (h.ch.ne hb) rfl
                have hmw9 : mch < w9.heap.size := hP9.ch.lt
                have hrw9 : wq.heap.size < w9.heap.size := hr9.lt
                refine ⟨A11, _, c11, by rw [hfil], e3.cell 24, e3.free 24, cellAt t0 (d3.block _ (by simp at z10; show w.heap.size < w10.heap.size; omega) hbpn), Lib.hid ⟨hr9.heap ?_ ?_, e1, d2.trans hv'q, ?_⟩⟩
                · exact (e2.block mch (by simp; omega) hmn).trans (Below.heap_alloc w9 _ _ hmw9)
                · exact (e2.block _ (by simp; omega) hrn).trans (Below.heap_alloc w9 _ _ hrw9)
                · refine ((HP2.out.2.2.grown hg9 (fun i e => by injection e with e; exact .inl (.inr (.inr (.inr e.symm))))).alloc (.cells #[.int .i64 (k : Int)] 3)).drew.trans e2 (fun i hi => ?_)
                  rcases hi with e | e | e
                  · exact .inl (.inl e)
                  · exact .inl (.inr (.inl e))
                  · exact .inl (.inr (.inr (.inl e)))
              obtain ⟨Av, nv, cv, hvv⟩ : ∃ A n c, v' = .slice A n c := by
                obtain ⟨A, c, h1, _⟩ := hP9.rw.form
                exact ⟨A, _, c, h1⟩
              have HDel := Lib.hid hDel2
              have f24 := b10.free 24
              have HK := Lib.hid (And.intro hP' (And.intro m10 (And.intro g10 (And.intro hr9 (And.intro hcnt (And.intro hg9 (And.intro hP9 (And.intro hL (And.intro hx hz9)))))))))
              subst hvv
              clear hP' m10 g10 hr9 hcnt hg9 hP9 hL hx hz9 hPA hDel2 hk16 z9 hmclbp hmclbx b10 z10 hbp9
              try go_frame
              go_wp2_with fail
              have S0 := And.intro s0 (And.intro s1 s2)
              have S1 := And.intro t0 (And.intro t1 t2)
              go_region_held3 (fun w' => w'.cell? ⟨w.heap.size, 0, none⟩ = some (.pointer (some ⟨p, 0, none⟩)) ∧ w'.cell? ⟨p, 23, none⟩ = some (.map (some mcl)) ∧ w'.cell? ⟨w9.heap.size, 0, none⟩ = some (.int .i64 (k : Int))) (first | exact S0 | exact S1 | go_keep) (fail)
              clear S0 S1
              go_wp2_with fail
              go_region_law (first | ((try go_simp); go_at_call 80; with_reducible refine HDel.out.mono ?_; rintro e w11 ⟨A11, N11, c11, rfl, k24, l24, l0, H11⟩))
              all_goals (go_wp2_with fail)
              all_goals go_roundw
              all_goals first
                | exact ⟨_, cnt9, _, H11⟩
                | ((repeat apply Exists.intro); exact ⟨⟨_, cnt9, _, H11⟩, rfl⟩)
                | (rw [H11.out.1.left, HR.out.1.left]; exact HK.out.2.2.2.2.1)
end Go.Proofs.YtoadamkmabkldaaGreatDoor
