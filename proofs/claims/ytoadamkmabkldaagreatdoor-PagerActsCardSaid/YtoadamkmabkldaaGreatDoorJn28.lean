/- Contracts of package pager: Open. -/
import Derived.Test.YtoadamkmabkldaaGreatDoorJn27
set_option linter.unusedVariables false
set_option linter.unusedSimpArgs false
namespace Go.Proofs.YtoadamkmabkldaaGreatDoor
open Go.RowKit Go.Shelf
attribute [local go_sem ↓] Go.wp_at_zero Go.wp_at_succ
section
variable (f p bp : Nat) (O : Nat → Prop) (S : FsP) (nm : ByteArray) (W : World) (h : FsA W O f S) (hK : CmW W O f p bp bp nm (.pointer (some ⟨p, 0, none⟩))) (hs : nm.size ≤ 100) (hst : S.stamp ≤ 1000000)
include h hK hs hst
set_option maxHeartbeats 2000000 in
set_option maxRecDepth 100000 in
theorem op1_any : Calls Tryz.prog 31 #[.pointer (some ⟨bp, 0, none⟩)] W fun e w' => e = .returned (.int .i64 ((thereP S (dbN nm.data.toList)).1 : Int)) ∧ FsA w' (fun i => O i ∨ W.heap.size ≤ i) f (thereP S (dbN nm.data.toList)).2 ∧ Ch O W w' := by
  have HL := Lib.hid (db_any p nm W.drew hK.p1 (by omega))
  have hWr := there_any f p O S (nm ++ dbS) W.drew (h.heap (fun _ _ _ => rfl)) hK.p0 (by rw [db_size]; omega) hst
  rw [db_list] at hWr
  have hS0 : W.drew.cell? ⟨bp, 0, none⟩ = some (.pointer (some ⟨p, 0, none⟩)) := hK.bp0
  have HWr := Lib.hid (hWr.mono (R' := fun e w' => e = .returned (.int .i64 ((thereP S (dbN nm.data.toList)).1 : Int)) ∧ w'.cell? ⟨bp, 0, none⟩ = some (.pointer (some ⟨p, 0, none⟩)) ∧ Hid (FsA w' (fun i => O i ∨ W.heap.size ≤ i) f (thereP S (dbN nm.data.toList)).2 ∧ Ch O W w')) (by
    rintro e w' ⟨rfl, h1, h2⟩
    have hc2 : Ch O W w' := ((Ch.refl O W).drew).trans h2 (fun i hi => .inl hi)
    exact ⟨rfl, (hK.ch hc2).bp0, Lib.hid ⟨h1, hc2⟩⟩))
  obtain ⟨rc, hrc⟩ : ∃ rc, rc = (thereP S (dbN nm.data.toList)).1 := ⟨_, rfl⟩
  rw [← hrc] at HWr ⊢
  clear h hK hs hst hWr hrc
  go_enter Tryz.func31, Tryz.ntmps31
  go_wp2_with fail
  go_region_held3 (fun w' => w'.cell? ⟨bp, 0, none⟩ = some (.pointer (some ⟨p, 0, none⟩))) (first | exact hS0 | exact hS5 | go_keep)
    (first
      | (go_at_call 33; with_reducible refine HL.out.mono ?_; rintro e w5 ⟨rfl, hw5⟩; subst hw5)
      | (go_at_call 32; with_reducible refine HWr.out.mono ?_; rintro e w6 ⟨rfl, hS5, H6⟩))
  go_wp2_with fail
  go_ret
  exact ⟨rfl, H6.out.1, H6.out.2⟩
set_option maxHeartbeats 2000000 in
set_option maxRecDepth 100000 in
theorem op2_any : Calls Tryz.prog 34 #[.pointer (some ⟨bp, 0, none⟩)] W fun e w' => e = .returned (.int .i64 ((thereP S (logN nm.data.toList)).1 : Int)) ∧ FsA w' (fun i => O i ∨ W.heap.size ≤ i) f (thereP S (logN nm.data.toList)).2 ∧ Ch O W w' := by
  have HL := Lib.hid (log_any p nm W.drew hK.p1 (by omega))
  have hWr := there_any f p O S (nm ++ logS) W.drew (h.heap (fun _ _ _ => rfl)) hK.p0 (by rw [log_size]; omega) hst
  rw [log_list] at hWr
  have hS0 : W.drew.cell? ⟨bp, 0, none⟩ = some (.pointer (some ⟨p, 0, none⟩)) := hK.bp0
  have HWr := Lib.hid (hWr.mono (R' := fun e w' => e = .returned (.int .i64 ((thereP S (logN nm.data.toList)).1 : Int)) ∧ w'.cell? ⟨bp, 0, none⟩ = some (.pointer (some ⟨p, 0, none⟩)) ∧ Hid (FsA w' (fun i => O i ∨ W.heap.size ≤ i) f (thereP S (logN nm.data.toList)).2 ∧ Ch O W w')) (by
    rintro e w' ⟨rfl, h1, h2⟩
    have hc2 : Ch O W w' := ((Ch.refl O W).drew).trans h2 (fun i hi => .inl hi)
    exact ⟨rfl, (hK.ch hc2).bp0, Lib.hid ⟨h1, hc2⟩⟩))
  obtain ⟨rc, hrc⟩ : ∃ rc, rc = (thereP S (logN nm.data.toList)).1 := ⟨_, rfl⟩
  rw [← hrc] at HWr ⊢
  clear h hK hs hst hWr hrc
  go_enter Tryz.func34, Tryz.ntmps34
  go_wp2_with fail
  go_region_held3 (fun w' => w'.cell? ⟨bp, 0, none⟩ = some (.pointer (some ⟨p, 0, none⟩))) (first | exact hS0 | exact hS5 | go_keep)
    (first
      | (go_at_call 35; with_reducible refine HL.out.mono ?_; rintro e w5 ⟨rfl, hw5⟩; subst hw5)
      | (go_at_call 32; with_reducible refine HWr.out.mono ?_; rintro e w6 ⟨rfl, hS5, H6⟩))
  go_wp2_with fail
  go_ret
  exact ⟨rfl, H6.out.1, H6.out.2⟩
end
theorem open_index (bp p : Nat) :
    (∀ W, (Instr.index 70 (.agg #[(.func (.func 31) #[] #[.pointer (some ⟨bp, 0, none⟩)]), (.func (.func 34) #[] #[.pointer (some ⟨bp, 0, none⟩)]), (.func (.func 36) #[.pointer (some ⟨p, 0, none⟩)] #[]), (.func (.func 37) #[.pointer (some ⟨p, 0, none⟩)] #[])]) (.int .i64 0)).run Tryz.prog W = .ok (.func (.func 31) #[] #[.pointer (some ⟨bp, 0, none⟩)]) W) ∧
    (∀ W, (Instr.index 70 (.agg #[(.func (.func 31) #[] #[.pointer (some ⟨bp, 0, none⟩)]), (.func (.func 34) #[] #[.pointer (some ⟨bp, 0, none⟩)]), (.func (.func 36) #[.pointer (some ⟨p, 0, none⟩)] #[]), (.func (.func 37) #[.pointer (some ⟨p, 0, none⟩)] #[])]) (.int .i64 1)).run Tryz.prog W = .ok (.func (.func 34) #[] #[.pointer (some ⟨bp, 0, none⟩)]) W) ∧
    (∀ W, (Instr.index 70 (.agg #[(.func (.func 31) #[] #[.pointer (some ⟨bp, 0, none⟩)]), (.func (.func 34) #[] #[.pointer (some ⟨bp, 0, none⟩)]), (.func (.func 36) #[.pointer (some ⟨p, 0, none⟩)] #[]), (.func (.func 37) #[.pointer (some ⟨p, 0, none⟩)] #[])]) (.int .i64 2)).run Tryz.prog W = .ok (.func (.func 36) #[.pointer (some ⟨p, 0, none⟩)] #[]) W) ∧
    (∀ W, (Instr.index 70 (.agg #[(.func (.func 31) #[] #[.pointer (some ⟨bp, 0, none⟩)]), (.func (.func 34) #[] #[.pointer (some ⟨bp, 0, none⟩)]), (.func (.func 36) #[.pointer (some ⟨p, 0, none⟩)] #[]), (.func (.func 37) #[.pointer (some ⟨p, 0, none⟩)] #[])]) (.int .i64 3)).run Tryz.prog W = .ok (.func (.func 37) #[.pointer (some ⟨p, 0, none⟩)] #[]) W) :=
  ⟨fun W => by kernel_rfl, fun W => by kernel_rfl, fun W => by kernel_rfl, fun W => by kernel_rfl⟩
/-- The memory of a pager that was just made. -/
theorem pg_new (f : Nat) (nm : ByteArray) (w : World) (W : World) (hW : W = (((w.alloc (.map #[] 0)).alloc (.map #[] 0)).alloc (.cells (pgC f nm hd0 hd0 w.heap.size (w.heap.size + 1) (.slice none 0 0) 0 false) 67)).alloc (.cells #[.pointer (some ⟨w.heap.size + 1 + 1, 0, none⟩)] 26)) :
    PgM W f (w.heap.size + 1 + 1) nm pg0 w.heap.size (w.heap.size + 1) (fun _ => (0, 0, 0)) (fun _ => (0, 0, 0)) (.slice none 0 0) ∧ Below w.heap.size w W ∧ W.cell? ⟨w.heap.size + 1 + 1 + 1, 0, none⟩ = some (.pointer (some ⟨w.heap.size + 1 + 1, 0, none⟩)) ∧ W.heap.size = w.heap.size + 4 := by
  subst hW
  have hb : Below w.heap.size w ((((w.alloc (.map #[] 0)).alloc (.map #[] 0)).alloc (.cells (pgC f nm hd0 hd0 w.heap.size (w.heap.size + 1) (.slice none 0 0) 0 false) 67)).alloc (.cells #[.pointer (some ⟨w.heap.size + 1 + 1, 0, none⟩)] 26)) :=
    ((((Below.refl _ w).alloc (Nat.le_refl _) _).alloc (by simp) _).alloc (by simp <;> omega) _).alloc (by simp <;> omega) _
  refine ⟨⟨?_, ?_, ?_, by omega, fun k b hk => (by cases hk), fun k hk => (by cases hk), .inl ⟨rfl, rfl⟩, fun i hi => (by cases hi)⟩, hb, (Bk.new' _ _ _ (by simp)).cell 0, by simp⟩
  · exact (Bk.new' _ _ _ (by simp)).alloc _
  · refine (MapI.new w).heap ?_
    rw [Below.heap_alloc _ _ _ (by simp <;> omega), Below.heap_alloc _ _ _ (by simp <;> omega), Below.heap_alloc _ _ _ (by simp)]
  · have := MapI.new (w.alloc (.map #[] 0))
    rw [show (w.alloc (.map #[] 0)).heap.size = w.heap.size + 1 by simp] at this
    refine this.heap ?_
    rw [Below.heap_alloc _ _ _ (by simp <;> omega), Below.heap_alloc _ _ _ (by simp)]
/-- What first gives, its pager's blocks being p, m1, m2. -/
def FiR (f p m1 m2 : Nat) (nm : ByteArray) (O1 : Nat → Prop) (S : FsP) (Q : Nat → Nat → Nat → (Nat → Prop) → World → Nat → World → Prop) (W : World) : Prop :=
  PgM W f p nm pg0 m1 m2 (fun _ => (0, 0, 0)) (fun _ => (0, 0, 0)) (.slice none 0 0) → FsA W O1 f S → (∀ i, O1 i → i ≠ p ∧ i ≠ m1 ∧ i ≠ m2) →
    Calls Tryz.prog 37 #[.pointer (some ⟨p, 0, none⟩)] W fun e w' => ∃ k : Nat, e = .returned (.int .i64 (k : Int)) ∧ Q p m1 m2 O1 W k w' ∧ Ch (fun i => O1 i ∨ i = p ∨ i = m1 ∨ i = m2) W w'
/-- What Open gives. -/
def OpR (w w' : World) (O : Nat → Prop) (f : Nat) (S1 S2 S3 : FsP) (e1 e2 e3 : Nat) (Q : Nat → Nat → Nat → (Nat → Prop) → World → Nat → World → Prop) (e : Ending) : Prop :=
  (e1 ≠ 0 ∧ e = .returned (.tuple #[.pointer none, .int .i64 (e1 : Int)]) ∧ FsA w' (fun i => O i ∨ w.heap.size ≤ i) f S1 ∧ Ch O w w') ∨
  (e1 = 0 ∧ e2 ≠ 0 ∧ e = .returned (.tuple #[.pointer none, .int .i64 (e2 : Int)]) ∧ FsA w' (fun i => O i ∨ w.heap.size ≤ i) f S2 ∧ Ch O w w') ∨
  (e1 = 0 ∧ e2 = 0 ∧ e3 ≠ 0 ∧ e = .returned (.tuple #[.pointer none, .int .i64 (e3 : Int)]) ∧ FsA w' (fun i => O i ∨ w.heap.size ≤ i) f S3 ∧ Ch O w w') ∨
  (e1 = 0 ∧ e2 = 0 ∧ e3 = 0 ∧ ∃ (p m1 m2 : Nat) (O1 : Nat → Prop) (W : World) (k : Nat), (∀ i, O1 i → O i ∨ (w.heap.size ≤ i ∧ i ≠ p ∧ i ≠ m1 ∧ i ≠ m2)) ∧ w.heap.size ≤ p ∧ w.heap.size ≤ m1 ∧ w.heap.size ≤ m2 ∧ Ch O w W ∧ e = .returned (.tuple #[if k = 0 then .pointer (some ⟨p, 0, none⟩) else .pointer none, .int .i64 (k : Int)]) ∧ Q p m1 m2 O1 W k w' ∧ Ch O w w')
/-- What the memory is between Open's steps. -/
def OpB (w : World) (O : Nat → Prop) (f : Nat) (nm : ByteArray) (X : FsP) (wr : World) : Prop :=
  FsA wr (fun k => (O k ∧ k < w.heap.size) ∨ w.heap.size + 4 ≤ k) f X ∧ PgM wr f (w.heap.size + 1 + 1) nm pg0 w.heap.size (w.heap.size + 1) (fun _ => (0, 0, 0)) (fun _ => (0, 0, 0)) (.slice none 0 0) ∧
    wr.cell? ⟨w.heap.size + 1 + 1 + 1, 0, none⟩ = some (.pointer (some ⟨w.heap.size + 1 + 1, 0, none⟩)) ∧ Ch O w wr ∧ w.heap.size + 4 ≤ wr.heap.size
section
variable {w wr w' : World} {O : Nat → Prop} {f : Nat} {nm : ByteArray} {X X' : FsP}
theorem OpB.cm (h : OpB w O f nm X wr) : FsA wr (fun k => ((O k ∧ k < w.heap.size) ∨ w.heap.size + 4 ≤ k) ∧ k < wr.heap.size) f X ∧ CmW wr (fun k => ((O k ∧ k < w.heap.size) ∨ w.heap.size + 4 ≤ k) ∧ k < wr.heap.size) f (w.heap.size + 1 + 1) (w.heap.size + 1 + 1 + 1) (w.heap.size + 1 + 1 + 1) nm (.pointer (some ⟨w.heap.size + 1 + 1, 0, none⟩)) := by
  obtain ⟨h1, h2, h3, h4, h5⟩ := h
  refine ⟨h1.mono (fun i hi hl => ⟨hi, hl⟩), h2.hd.cell 0, h2.hd.cell 1, h3, h3, ?_, ?_, ?_, by omega, by omega, by omega⟩
  · rintro ⟨⟨_, e⟩ | e, _⟩ <;> omega
  · rintro ⟨⟨_, e⟩ | e, _⟩ <;> omega
  · rintro ⟨⟨_, e⟩ | e, _⟩ <;> omega
theorem OpB.step (h : OpB w O f nm X wr) (hF : FsA w' (fun k => (((O k ∧ k < w.heap.size) ∨ w.heap.size + 4 ≤ k) ∧ k < wr.heap.size) ∨ wr.heap.size ≤ k) f X') (hc : Ch (fun k => ((O k ∧ k < w.heap.size) ∨ w.heap.size + 4 ≤ k) ∧ k < wr.heap.size) wr w') : OpB w O f nm X' w' := by
  obtain ⟨h1, h2, h3, h4, h5⟩ := h
  have hz := hc.size
  refine ⟨hF.mono (fun i hi _ => ?_), h2.heap hz (fun i hi => hc.block i (h2.lt i hi) ?_), cellAt h3 (hc.block _ (by omega) ?_), h4.trans hc (fun i hi => ?_), by omega⟩
  · rcases hi with e | e
    · exact e.1
    · exact .inr (by omega)
  · rintro ⟨e2, _⟩
    rcases hi with e | e | e | e | ⟨k, b, hk, _⟩ | ⟨k, hk, _⟩
    · rcases e2 with ⟨_, e2⟩ | e2 <;> omega
    · rcases e2 with ⟨_, e2⟩ | e2 <;> omega
    · rcases e2 with ⟨_, e2⟩ | e2 <;> omega
    · cases e
    · cases hk
    · cases hk
  · rintro ⟨⟨_, e⟩ | e, _⟩ <;> omega
  · rcases hi.1 with e | e
    · exact .inl e.1
    · exact .inr (by omega)
theorem OpB.fin (h : OpB w O f nm X wr) : FsA wr (fun i => O i ∨ w.heap.size ≤ i) f X ∧ Ch O w wr := by
  obtain ⟨h1, h2, h3, h4, h5⟩ := h
  refine ⟨h1.mono (fun i hi _ => ?_), h4⟩
  rcases hi with e | e
  · exact .inl e.1
  · exact .inr (by omega)
end
/-- .. and behind so many of them. -/
def OpInv (w : World) (O : Nat → Prop) (f : Nat) (nm : ByteArray) (S S1 S2 S3 : FsP) (e1 e2 e3 : Nat) (Q : Nat → Nat → Nat → (Nat → Prop) → World → Nat → World → Prop) (i : Nat) (wr : World) : Prop :=
  (i = 0 ∧ OpB w O f nm S wr) ∨ (i = 1 ∧ e1 = 0 ∧ OpB w O f nm S1 wr) ∨ (i = 2 ∧ e1 = 0 ∧ e2 = 0 ∧ OpB w O f nm S2 wr) ∨ (i = 3 ∧ e1 = 0 ∧ e2 = 0 ∧ e3 = 0 ∧ OpB w O f nm S3 wr) ∨
  (i = 4 ∧ e1 = 0 ∧ e2 = 0 ∧ e3 = 0 ∧ wr.cell? ⟨w.heap.size + 1 + 1 + 1, 0, none⟩ = some (.pointer (some ⟨w.heap.size + 1 + 1, 0, none⟩)) ∧ Ch O w wr ∧ ∃ W, OpB w O f nm S3 W ∧ Q (w.heap.size + 1 + 1) w.heap.size (w.heap.size + 1) (fun k => ((O k ∧ k < w.heap.size) ∨ w.heap.size + 4 ≤ k) ∧ k < W.heap.size) W 0 wr)
set_option maxHeartbeats 8000000 in
set_option maxRecDepth 100000 in
theorem open_run (f : Nat) (O : Nat → Prop) (S S1 S2 S3 : FsP) (e1 e2 e3 : Nat) (nm : ByteArray) (w : World) (Q : Nat → Nat → Nat → (Nat → Prop) → World → Nat → World → Prop) (hF : FsA w O f S) (hup : S.down = false) (hn1 : 1 ≤ nm.size) (hn2 : nm.size ≤ 20) (hst : S.stamp ≤ 1000000) (hst1 : S1.stamp ≤ 1000000)
    (h1 : thereP S (dbN nm.data.toList) = (e1, S1)) (h2 : e1 = 0 → thereP S1 (logN nm.data.toList) = (e2, S2))
    (hag : e1 = 0 → e2 = 0 → ∀ (W : World) (O1 : Nat → Prop) (p bp : Nat) (cs : Array Value), FsA W O1 f S2 → CmW W O1 f p bp bp nm (.pointer (some ⟨p, 0, none⟩)) → Bk W p 67 cs → Calls Tryz.prog 36 #[.pointer (some ⟨p, 0, none⟩)] W fun e w' => e = .returned (.int .i64 (e3 : Int)) ∧ FsA w' (fun i => O1 i ∨ W.heap.size ≤ i) f S3 ∧ Ch O1 W w')
    (hfi : e1 = 0 → e2 = 0 → e3 = 0 → ∀ (W : World) (O1 : Nat → Prop) (p m1 m2 : Nat), FiR f p m1 m2 nm O1 S3 Q W) :
    Calls Tryz.prog 11 #[.pointer (some ⟨f, 0, none⟩), .string nm] w fun e w' => OpR w w' O f S1 S2 S3 e1 e2 e3 Q e := by
  have mkm : ∀ W : World, (Instr.makeMap 62 none).run Tryz.prog W = .ok (.map (some W.heap.size)) (W.alloc (.map #[] 0)) := fun W => by kernel_rfl
  have HDn := Lib.hid (show Calls Tryz.prog 30 #[.pointer (some ⟨f, 0, none⟩)] w fun e w' => e = .returned (.bool false) ∧ w' = w from by
    obtain ⟨m, bl, gl, sv, hM, _⟩ := hF
    have := down_any f m bl gl sv S w hM
    rw [hup] at this
    exact this)
  obtain ⟨W0, hW0⟩ : ∃ W0, W0 = (((w.alloc (.map #[] 0)).alloc (.map #[] 0)).alloc (.cells (pgC f nm hd0 hd0 w.heap.size (w.heap.size + 1) (.slice none 0 0) 0 false) 67)).alloc (.cells #[.pointer (some ⟨w.heap.size + 1 + 1, 0, none⟩)] 26) := ⟨_, rfl⟩
  obtain ⟨g1, g2, g3, g4⟩ := pg_new f nm w W0 hW0
  have HG := Lib.hid (And.intro g1 (And.intro g2 (And.intro g3 g4)))
  have HH := Lib.hid (And.intro hF (And.intro hst (And.intro hst1 (And.intro h1 (And.intro h2 (And.intro hag hfi))))))
  have d1 : ¬ ((nm.size : Int) < 1) := by omega
  have d2 : decide ((nm.size : Int) < 1) = false := by simp; omega
  have d3 : ¬ ((20 : Int) < (nm.size : Int)) := by omega
  have HN := Lib.hid hn2
  clear hF hup hn1 hn2 hst hst1 h1 h2 hag hfi g1 g2 g3 g4
  subst hW0
  simp only [pgC, hd0, rtH, List.getElem?_replicate] at HG
  go_enter Tryz.func11, Tryz.ntmps11
  go_wp2_with fail
  with_reducible refine HDn.out.mono ?_
  rintro e wz ⟨rfl, hwz⟩
  replace hwz := hwz.symm
  subst hwz
  obtain ⟨i0, i1, i2, i3⟩ := open_index (w.heap.size + 1 + 1 + 1) (w.heap.size + 1 + 1)
  go_wp2_with fail
  go_loopw [38] (fun s38 wr => ∃ i : Nat, s38 = .int .i64 (i : Int) ∧ i ≤ 4 ∧ Hid (OpInv w O f nm S S1 S2 S3 e1 e2 e3 Q i wr)) (fun s38 _ => 4 - (intOf s38).toNat)
  case atStart =>
    refine ⟨0, rfl, by omega, Lib.hid (.inl ⟨rfl, ?_⟩)⟩
    obtain ⟨g1, g2, g3, g4⟩ := HG.out
    exact ⟨(FsA.heap (HH.out.1.mono (O' := fun k => (O k ∧ k < w.heap.size)) (fun i hi hl => ⟨hi, hl⟩)) (fun i hi _ => g2.block i hi.2)).mono (fun i hi _ => .inl hi), g1, g3, Ch.of_below g2 (Nat.le_refl _), Nat.le_of_eq g4.symm⟩
  case round =>
    obtain ⟨i, rfl, hi, HI⟩ := hrel
    by_cases hlt : i < 4
    · have hi4 : i = 0 ∨ i = 1 ∨ i = 2 ∨ i = 3 := by omega
      rcases hi4 with rfl | rfl | rfl | rfl
      · have hB : OpB w O f nm S wr := by
          rcases HI.out with ⟨a0, h⟩ | ⟨a0, _⟩ | ⟨a0, _⟩ | ⟨a0, _⟩ | ⟨a0, _⟩
          · exact h
          · exact absurd a0 (by decide)
          · exact absurd a0 (by decide)
          · exact absurd a0 (by decide)
          · exact absurd a0 (by decide)
        obtain ⟨q1, q2⟩ := hB.cm
        have HC := Lib.hid (by
          have := op1_any f _ _ _ S nm wr q1 q2 (by have := HN.out; omega) HH.out.2.1
          rw [HH.out.2.2.2.1] at this
          exact this)
        have HB := Lib.hid hB
        clear hB q1 q2 hlt hi HI
        go_wp2_with fail
        with_reducible refine HC.out.mono ?_
        rintro e w7 ⟨rfl, F7, C7⟩
        have HB7 := Lib.hid (HB.out.step F7 C7)
        clear F7 C7 HC
        by_cases hz : e1 = 0
        · have hz1 : (e1 : Int) = 0 := by omega
          have HZ := Lib.hid hz
          clear hz
          go_wp2_with fail
          go_roundw
          case rel => exact ⟨1, by rfl, by omega, Lib.hid (.inr (.inl ⟨rfl, HZ.out, HB7.out⟩))⟩
          case measure => simp [intOf]
        · have hz2 : ¬ (e1 : Int) = 0 := by omega
          have HZ := Lib.hid hz
          clear hz
          go_wp2_with fail
          go_ret2
          exact .inl ⟨HZ.out, rfl, HB7.out.fin⟩
      · have hB : e1 = 0 ∧ OpB w O f nm S1 wr := by
          rcases HI.out with ⟨a0, _⟩ | ⟨a0, a1, h⟩ | ⟨a0, _⟩ | ⟨a0, _⟩ | ⟨a0, _⟩
          · exact absurd a0 (by decide)
          · exact ⟨a1, h⟩
          · exact absurd a0 (by decide)
          · exact absurd a0 (by decide)
          · exact absurd a0 (by decide)
        obtain ⟨a1, hB⟩ := hB
        have HA := Lib.hid a1
        obtain ⟨q1, q2⟩ := hB.cm
        have HC := Lib.hid (by
          have := op2_any f _ _ _ S1 nm wr q1 q2 (by have := HN.out; omega) HH.out.2.2.1
          rw [HH.out.2.2.2.2.1 a1] at this
          exact this)
        have HB := Lib.hid hB
        clear hB q1 q2 hlt hi HI a1
        go_wp2_with fail
        with_reducible refine HC.out.mono ?_
        rintro e w7 ⟨rfl, F7, C7⟩
        have HB7 := Lib.hid (HB.out.step F7 C7)
        clear F7 C7 HC
        by_cases hz : e2 = 0
        · have hz1 : (e2 : Int) = 0 := by omega
          have HZ := Lib.hid hz
          clear hz
          go_wp2_with fail
          go_roundw
          case rel => exact ⟨2, by rfl, by omega, Lib.hid (.inr (.inr (.inl ⟨rfl, HA.out, HZ.out, HB7.out⟩)))⟩
          case measure => simp [intOf]
        · have hz2 : ¬ (e2 : Int) = 0 := by omega
          have HZ := Lib.hid hz
          clear hz
          go_wp2_with fail
          go_ret2
          exact .inr (.inl ⟨HA.out, HZ.out, rfl, HB7.out.fin⟩)
      · have hB : e1 = 0 ∧ e2 = 0 ∧ OpB w O f nm S2 wr := by
          rcases HI.out with ⟨a0, _⟩ | ⟨a0, _⟩ | ⟨a0, a1, a2, h⟩ | ⟨a0, _⟩ | ⟨a0, _⟩
          · exact absurd a0 (by decide)
          · exact absurd a0 (by decide)
          · exact ⟨a1, a2, h⟩
          · exact absurd a0 (by decide)
          · exact absurd a0 (by decide)
        obtain ⟨a1, a2, hB⟩ := hB
        have HA := Lib.hid (And.intro a1 a2)
        obtain ⟨q1, q2⟩ := hB.cm
        have HC := Lib.hid (HH.out.2.2.2.2.2.1 a1 a2 wr _ _ _ _ q1 q2 hB.2.1.hd)
        have HB := Lib.hid hB
        clear hB q1 q2 hlt hi HI a1 a2
        go_wp2_with fail
        with_reducible refine HC.out.mono ?_
        rintro e w7 ⟨rfl, F7, C7⟩
        have HB7 := Lib.hid (HB.out.step F7 C7)
        clear F7 C7 HC
        by_cases hz : e3 = 0
        · have hz1 : (e3 : Int) = 0 := by omega
          have HZ := Lib.hid hz
          clear hz
          go_wp2_with fail
          go_roundw
          case rel => exact ⟨3, by rfl, by omega, Lib.hid (.inr (.inr (.inr (.inl ⟨rfl, HA.out.1, HA.out.2, HZ.out, HB7.out⟩))))⟩
          case measure => simp [intOf]
        · have hz2 : ¬ (e3 : Int) = 0 := by omega
          have HZ := Lib.hid hz
          clear hz
          go_wp2_with fail
          go_ret2
          exact .inr (.inr (.inl ⟨HA.out.1, HA.out.2, HZ.out, rfl, HB7.out.fin⟩))
      · have hB : e1 = 0 ∧ e2 = 0 ∧ e3 = 0 ∧ OpB w O f nm S3 wr := by
          rcases HI.out with ⟨a0, _⟩ | ⟨a0, _⟩ | ⟨a0, _⟩ | ⟨a0, a1, a2, a3, h⟩ | ⟨a0, _⟩
          · exact absurd a0 (by decide)
          · exact absurd a0 (by decide)
          · exact absurd a0 (by decide)
          · exact ⟨a1, a2, a3, h⟩
          · exact absurd a0 (by decide)
        obtain ⟨a1, a2, a3, hB⟩ := hB
        have HA := Lib.hid (And.intro a1 (And.intro a2 a3))
        obtain ⟨q1, q2⟩ := hB.cm
        have HC := Lib.hid (HH.out.2.2.2.2.2.2 a1 a2 a3 wr _ _ _ _ hB.2.1 q1 (fun j hj => by
          rcases hj.1 with e | e
          · exact ⟨by omega, by omega, by omega⟩
          · exact ⟨by omega, by omega, by omega⟩))
        have HB := Lib.hid hB
        clear hB q1 q2 hlt hi HI a1 a2 a3
        go_wp2_with fail
        with_reducible refine HC.out.mono ?_
        rintro e w7 ⟨k, rfl, Q7, C7⟩
        have hbox : w7.cell? ⟨w.heap.size + 1 + 1 + 1, 0, none⟩ = some (.pointer (some ⟨w.heap.size + 1 + 1, 0, none⟩)) := cellAt HB.out.2.2.1 (C7.block _ (by have := HB.out.2.2.2.2; omega) (by
          rintro (⟨⟨_, e⟩ | e, _⟩ | e | e | e) <;> omega))
        have hch : Ch O w w7 := HB.out.2.2.2.1.trans C7 (fun j hj => by
          rcases hj with ⟨e | e, _⟩ | e | e | e
          · exact .inl e.1
          · exact .inr (by omega)
          · exact .inr (by omega)
          · exact .inr (by omega)
          · exact .inr (by omega))
        have HB7 := Lib.hid (And.intro Q7 (And.intro hbox hch))
        clear Q7 C7 HC hbox hch
        by_cases hz : k = 0
        · subst hz
          go_wp2_with fail
          go_roundw
          case rel => exact ⟨4, by rfl, by omega, Lib.hid (.inr (.inr (.inr (.inr ⟨rfl, HA.out.1, HA.out.2.1, HA.out.2.2, HB7.out.2.1, HB7.out.2.2, wr, HB.out, HB7.out.1⟩))))⟩
          case measure => simp [intOf]
        · have hz2 : ¬ (k : Int) = 0 := by omega
          have HZ := Lib.hid hz
          clear hz
          go_wp2_with fail
          go_ret2
          exact .inr (.inr (.inr ⟨HA.out.1, HA.out.2.1, HA.out.2.2, w.heap.size + 1 + 1, w.heap.size, w.heap.size + 1, _, wr, k, fun j hj => by
            rcases hj.1 with e | e
            · exact .inl e.1
            · exact .inr ⟨by omega, by omega, by omega, by omega⟩, by omega, by omega, by omega, HB.out.2.2.2.1, by rw [if_neg HZ.out]; rfl, HB7.out.1, HB7.out.2.2⟩))
    · have hi4 : i = 4 := by omega
      subst hi4
      have hE : e1 = 0 ∧ e2 = 0 ∧ e3 = 0 ∧ wr.cell? ⟨w.heap.size + 1 + 1 + 1, 0, none⟩ = some (.pointer (some ⟨w.heap.size + 1 + 1, 0, none⟩)) ∧ Ch O w wr ∧ ∃ W, OpB w O f nm S3 W ∧ Q (w.heap.size + 1 + 1) w.heap.size (w.heap.size + 1) (fun k => ((O k ∧ k < w.heap.size) ∨ w.heap.size + 4 ≤ k) ∧ k < W.heap.size) W 0 wr := by
        rcases HI.out with ⟨a0, _⟩ | ⟨a0, _⟩ | ⟨a0, _⟩ | ⟨a0, _⟩ | ⟨a0, h⟩
        · exact absurd a0 (by decide)
        · exact absurd a0 (by decide)
        · exact absurd a0 (by decide)
        · exact absurd a0 (by decide)
        · exact h
      obtain ⟨a1, a2, a3, hbox, hch, W, hB, hQ⟩ := hE
      have HE := Lib.hid (And.intro a1 (And.intro a2 (And.intro a3 (And.intro hch (And.intro hB hQ)))))
      clear a1 a2 a3 hch hB hQ HI hlt hi
      go_wp2_with fail
      go_ret2
      exact .inr (.inr (.inr ⟨HE.out.1, HE.out.2.1, HE.out.2.2.1, w.heap.size + 1 + 1, w.heap.size, w.heap.size + 1, _, W, 0, fun j hj => by
        rcases hj.1 with e | e
        · exact .inl e.1
        · exact .inr ⟨by omega, by omega, by omega, by omega⟩, by omega, by omega, by omega, HE.out.2.2.2.2.1.2.2.2.1, by rw [if_pos rfl]; rfl, HE.out.2.2.2.2.2, HE.out.2.2.2.1⟩))
end Go.Proofs.YtoadamkmabkldaaGreatDoor
/- Contracts of package pager: Commit. -/
namespace Go.Proofs.YtoadamkmabkldaaGreatDoor
open Go.RowKit Go.Shelf
attribute [local go_sem ↓] Go.wp_at_zero Go.wp_at_succ
theorem changed_at (f p mch mcl : Nat) (nm : ByteArray) (P : PgP) (tch tcl : Nat → SlT) (vrow : Value) (w : World) (h : PgM w f p nm P mch mcl tch tcl vrow) (hd : P.dead = false) :
    ∃ r : Bool, (r = false ↔ P.ch = [] ∧ hdL P.now = hdL P.last) ∧ Calls Tryz.prog 21 #[.pointer (some ⟨p, 0, none⟩)] w fun e w' => e = .returned (.bool r) ∧ Ch (fun _ => False) w w' := by
  by_cases hc : P.ch = []
  · by_cases hq : hdL P.now = hdL P.last
    · exact ⟨false, ⟨fun _ => ⟨hc, hq⟩, fun _ => rfl⟩, changed_none f p mch mcl nm P tch tcl vrow w h hd hc false ⟨fun _ => hq, fun _ => rfl⟩⟩
    · exact ⟨true, ⟨fun e => (by cases e), fun e => absurd e.2 hq⟩, changed_none f p mch mcl nm P tch tcl vrow w h hd hc true ⟨fun e => (by cases e), fun e => absurd e hq⟩⟩
  · exact ⟨true, ⟨fun e => (by cases e), fun e => absurd e.1 hc⟩, changed_some f p mch mcl nm P tch tcl vrow w h hd hc⟩
/-- What Commit gives. -/
def PcR (w w' : World) (O1 O2 : Nat → Prop) (f p : Nat) (nm : ByteArray) (P : PgP) (S : FsP) (D : Nat) (e : Ending) : Prop :=
  (P.ch = [] ∧ hdL P.now = hdL P.last ∧ e = .returned (.int .i64 0) ∧ PgA w' O2 f p nm P ∧ FsA w' O1 f S ∧ Ch O2 w w') ∨
  (¬ (P.ch = [] ∧ hdL P.now = hdL P.last) ∧
    ((S.most - useP S.fs < needC (P.ch.length + 1) P.now.many D ∧ e = .returned (.int .i64 8) ∧ PgA w' O2 f p nm (giveP P) ∧ FsA w' O1 f S ∧ Ch O2 w w') ∨
     (needC (P.ch.length + 1) P.now.many D ≤ S.most - useP S.fs ∧ ∃ rc S2, (rc, S2) = comP nm.data.toList (walB (wls (batP P.now P.ch))) (batP P.now P.ch) S ∧ rc ≠ 0 ∧ e = .returned (.int .i64 (rc : Int)) ∧ FsA w' (fun i => O1 i ∨ w.heap.size ≤ i) f S2 ∧ PgA w' O2 f p nm { P with dead := true } ∧ Ch (fun i => O1 i ∨ O2 i) w w') ∨
     (needC (P.ch.length + 1) P.now.many D ≤ S.most - useP S.fs ∧ ∃ S2, (0, S2) = comP nm.data.toList (walB (wls (batP P.now P.ch))) (batP P.now P.ch) S ∧ e = .returned (.int .i64 0) ∧ FsA w' (fun i => O1 i ∨ w.heap.size ≤ i) f S2 ∧ PgA w' O2 f p nm (comD P) ∧ Ch (fun i => O1 i ∨ O2 i) w w')))
theorem PgO.sub {p mch mcl : Nat} {tch tch2 tcl : Nat → SlT} {vrow v2 : Value} {P Q : PgP} (hk : ∀ k, k ≠ 0 → tch2 k = tch k) (h1 : ∀ q ∈ P.ch, 1 ≤ q.1) (hc : Q.ch = P.ch ∨ Q.ch = []) (hr : ∀ k ∈ Q.row, k ∈ P.row) (hv : v2.ownBlock = vrow.ownBlock) :
    ∀ i, PgO p mch mcl tch2 tcl v2 Q i → PgO p mch mcl tch tcl vrow P i := by
  rintro i (e | e | e | e | ⟨k, c, hkc, e⟩ | ⟨k, hkr, e⟩)
  · exact .inl e
  · exact .inr (.inl e)
  · exact .inr (.inr (.inl e))
  · exact .inr (.inr (.inr (.inl (hv ▸ e))))
  · rcases hc with hc | hc
    · rw [hc] at hkc
      have := h1 _ (lookup_mem2 hkc)
      dsimp only at this
      rw [hk k (by omega)] at e
      exact .inr (.inr (.inr (.inr (.inl ⟨k, c, hkc, e⟩))))
    · rw [hc] at hkc; cases hkc
  · exact .inr (.inr (.inr (.inr (.inr ⟨k, hr k hkr, e⟩))))
set_option maxHeartbeats 4000000 in
set_option maxRecDepth 100000 in
theorem commit_at (f p : Nat) (O1 O2 : Nat → Prop) (S : FsP) (nm : ByteArray) (P : PgP) (w : World) (D : Nat) (hA : PgA w O2 f p nm P) (hF : FsA w O1 f S) (h12 : ∀ i, O1 i → ¬ O2 i) (hok : P.Ok) (hr8 : P.now.roots.length = 8) (hs : nm.size ≤ 100) (hst : S.stamp ≤ 900000)
    (hcl : P.ch.length < 180) (hup : S.down = false) (hdb : lenP S (dbN nm.data.toList) = some D) (hD : D ≤ 100000000) (hmany : P.now.many ≤ 65536) (hd : P.dead = false) :
    Calls Tryz.prog 14 #[.pointer (some ⟨p, 0, none⟩)] w fun e w' => PcR w w' O1 O2 f p nm P S D e := by
  obtain ⟨mch, mcl, tch, tcl, vrow, h, hO⟩ := hA
  have hdis : ∀ i, PgO p mch mcl tch tcl vrow P i → ¬ O1 i := fun i hi e => h12 i e (hO i hi)
  have hk1 : ∀ q ∈ P.ch, 1 ≤ q.1 := fun q hq => (hok.chb q hq).1
  have HU := Lib.hid (up_any p false w (by have := h.hd.cell 26; rw [← hd]; exact this))
  have HDn := Lib.hid (show Calls Tryz.prog 30 #[.pointer (some ⟨f, 0, none⟩)] w fun e w' => e = .returned (.bool false) ∧ w' = w from by
    obtain ⟨m, bl, gl, sv, hM, _⟩ := hF
    have := down_any f m bl gl sv S w hM
    rw [hup] at this
    exact this)
  have c0 : w.cell? ⟨p, 0, none⟩ = some (.pointer (some ⟨f, 0, none⟩)) := h.hd.cell 0
  obtain ⟨r, hr, hCh⟩ := changed_at f p mch mcl nm P tch tcl vrow w h hd
  have HCh := Lib.hid hCh
  have HCm := Lib.hid (fun w1 (hc : Ch (fun _ => False) w w1) => commit_any f p mch mcl O1 S nm P tch tcl vrow w1 D (h.heap hc.size (fun i hi => hc.block i (h.lt i hi) (fun e => e))) (hF.heap (fun i _ hi => hc.block i hi (fun e => e))) hdis hok hr8 hs hst hcl hup hdb hD hmany)
  have H12 := Lib.hid h12
  have HH := Lib.hid (And.intro h (And.intro hO (And.intro hF (And.intro hk1 (And.intro hr hd)))))
  clear h hO hdis hk1 hF h12 hok hr8 hs hst hcl hup hdb hD hmany hr hCh hd
  go_enter Tryz.func14, Tryz.ntmps14
  go_wp2_with fail
  with_reducible refine HU.out.mono ?_
  rintro e wz ⟨rfl, hwz⟩
  replace hwz := hwz.symm
  subst hwz
  go_wp2_with fail
  with_reducible refine HDn.out.mono ?_
  rintro e wz ⟨rfl, hwz⟩
  replace hwz := hwz.symm
  subst hwz
  go_wp2_with fail
  with_reducible refine HCh.out.mono ?_
  rintro e w1 ⟨rfl, c1⟩
  have HC1 := Lib.hid c1
  clear c1
  cases r with
  | false =>
    go_wp2_with fail
    go_ret
    obtain ⟨h, hO, hF, hk1, hr, hd⟩ := HH.out
    obtain ⟨a, b⟩ := hr.1 trivial
    exact .inl ⟨a, b, rfl, ⟨mch, mcl, tch, tcl, vrow, h.heap HC1.out.size (fun i hi => HC1.out.block i (h.lt i hi) (fun e => e)), hO⟩, hF.heap (fun i _ hi => HC1.out.block i hi (fun e => e)), HC1.out.mono (fun i e => e.elim)⟩
  | true =>
    have hnr : ¬ (P.ch = [] ∧ hdL P.now = hdL P.last) := fun e => by have := HH.out.2.2.2.2.1.2 e; cases this
    have HNr := Lib.hid hnr
    clear hnr
    go_wp2_with fail
    with_reducible refine (HCm.out w1 HC1.out).mono ?_
    rintro e w2 ⟨tch2, ht2, hR⟩
    rcases hR with ⟨r1, rfl, r3, r4, r5⟩ | ⟨r1, rc, S2, r2, r3, rfl, r4, r5, r6⟩ | ⟨r1, S2, r2, rfl, r4, v2, r5, r6, r7⟩
    · have c26 : w2.cell? ⟨p, 26, none⟩ = some (.bool false) := by have := r4.hd.cell 26; rw [← HH.out.2.2.2.2.2]; exact this
      have HG := Lib.hid (give_any f p mch mcl nm P tch2 tcl vrow w2 r4)
      have HR := Lib.hid (And.intro ht2 (And.intro r1 (And.intro r3 r5)))
      clear ht2 r1 r3 r4 r5
      go_wp2_with fail
      with_reducible refine HG.out.mono ?_
      rintro e w3 ⟨rfl, g1, g2⟩
      have HG3 := Lib.hid (And.intro g1 g2)
      clear g1 g2
      go_wp2_with fail
      go_ret
      have hO := HH.out.2.1
      have hk := HH.out.2.2.2.1
      refine .inr ⟨HNr.out, .inl ⟨HR.out.2.1, rfl, ⟨mch, mcl, tch2, tcl, vrow, HG3.out.1, fun i hi => hO i (PgO.sub (P := P) (Q := giveP P) HR.out.1 hk (.inr rfl) (fun k hk => hk) rfl i hi)⟩, HR.out.2.2.1.ch HG3.out.2 (fun i hi e => ?_), ((HC1.out.mono (S' := O2) (fun i e => e.elim)).trans HR.out.2.2.2 (fun i e => .inl ?_)).trans HG3.out.2 (fun i e => .inl ?_)⟩⟩
      · rcases e with e | e
        · exact H12.out i hi (hO i (.inl e))
        · exact H12.out i hi (hO i (.inr (.inl e)))
      · exact hO i (.inr (.inl e))
      · rcases e with e | e
        · exact hO i (.inl e)
        · exact hO i (.inr (.inl e))
    · have c26 : w2.cell? ⟨p, 26, none⟩ = some (.bool true) := r5.hd.cell 26
      have hrc : ¬ (rc : Int) = 0 := by omega
      have HR := Lib.hid (And.intro ht2 (And.intro r1 (And.intro r2 (And.intro r3 (And.intro r4 (And.intro r5 r6))))))
      clear ht2 r1 r2 r3 r4 r5 r6
      go_wp2_with fail
      go_ret
      have hO := HH.out.2.1
      have hk := HH.out.2.2.2.1
      obtain ⟨ht2, r1, r2, r3, r4, r5, r6⟩ := HR.out
      refine .inr ⟨HNr.out, .inr (.inl ⟨r1, rc, S2, r2, r3, rfl, r4.mono (fun i hi _ => ?_), ⟨mch, mcl, tch2, tcl, vrow, r5, fun i hi => hO i (PgO.sub (P := P) (Q := { P with dead := true }) ht2 hk (.inl rfl) (fun k hk => hk) rfl i hi)⟩, (HC1.out.mono (S' := fun i => O1 i ∨ O2 i) (fun i e => e.elim)).trans r6 (fun i e => .inl ?_)⟩)⟩
      · rcases hi with e | e
        · exact .inl e
        · exact .inr (by have := HC1.out.size; omega)
      · rcases e with e | e | e
        · exact .inl e
        · exact .inr (hO i (.inr (.inl e)))
        · exact .inr (hO i (.inl e))
    · have c26 : w2.cell? ⟨p, 26, none⟩ = some (.bool false) := by have := r5.hd.cell 26; rw [← HH.out.2.2.2.2.2]; exact this
      have HR := Lib.hid (And.intro ht2 (And.intro r1 (And.intro r2 (And.intro r4 (And.intro r5 (And.intro r6 r7))))))
      clear ht2 r1 r2 r4 r5 r6 r7
      go_wp2_with fail
      go_ret
      have hO := HH.out.2.1
      have hk := HH.out.2.2.2.1
      obtain ⟨ht2, r1, r2, r4, r5, r6, r7⟩ := HR.out
      refine .inr ⟨HNr.out, .inr (.inr ⟨r1, S2, r2, rfl, r4.mono (fun i hi _ => ?_), ⟨mch, mcl, tch2, tcl, v2, r5, fun i hi => hO i (PgO.sub (P := P) (Q := comD P) ht2 hk (.inr rfl) (fun k hk => (List.mem_filter.1 hk).1) r6 i hi)⟩, (HC1.out.mono (S' := fun i => O1 i ∨ O2 i) (fun i e => e.elim)).trans r7 (fun i e => .inl ?_)⟩)⟩
      · rcases hi with e | e
        · exact .inl e
        · exact .inr (by have := HC1.out.size; omega)
      · rcases e with e | e | e | e | e
        · exact .inl e
        · exact .inr (hO i (.inr (.inl e)))
        · exact .inr (hO i (.inr (.inr (.inl e))))
        · exact .inr (hO i (.inl e))
        · exact .inr (hO i (.inr (.inr (.inr (.inl e)))))
end Go.Proofs.YtoadamkmabkldaaGreatDoor
