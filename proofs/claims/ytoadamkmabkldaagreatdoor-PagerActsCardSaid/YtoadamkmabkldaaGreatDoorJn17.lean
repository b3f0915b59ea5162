/- Contracts of package pager: give, Abort. -/
import Derived.Test.YtoadamkmabkldaaGreatDoorJn16
import Derived.DeepKeys
import Derived.Deep.RegionWith
import Derived.Test.YtoadamkmabkldaaGreatDoorJn14
import Derived.Lib.SmallJoins
set_option linter.unusedVariables false
set_option linter.unusedSimpArgs false
namespace Go.Proofs.YtoadamkmabkldaaGreatDoor
open Go.RowKit
attribute [local go_sem ↓] Go.wp_at_zero Go.wp_at_succ
/-- clear(m), at the operation. -/
theorem op_clrI {w : World} {ops : Array Oper} {rest : List Oper} {a : Act} {Q : Exit → Act → World → Prop} {d : Option Tmp} {ty : TypeId} {pos : String} {af : Array Edge} {g : Option (Nat × Bool)} {x : Operand}
    {m n : Nat} {f : Nat → Option SlT} (h : MapI w m n f) (hm : a.eval x = .map (some m))
    (hw : Region.wanted { dst := d, op := .call { callee := .builtin .clear, args := #[x], argTypes := #[62] }, type := ty, pos := pos, after := af, guard := g } (yielded ops a.tmps) = true)
    (hK : ∀ w', MapI w' m 0 (fun _ => none) → w.grownBy w' (some m) → wpList Tryz.prog ops Q rest (a.put d (.tuple #[])) w') :
    wpList Tryz.prog ops Q ({ dst := d, op := .call { callee := .builtin .clear, args := #[x], argTypes := #[62] }, type := ty, pos := pos, after := af, guard := g } :: rest) a w :=
  BigFrame.wpList_want hw fun _ hK' => by
    obtain ⟨w', hrun, h1, h2⟩ := h.clr ty
    unfold Oper.wp execOp
    simp only [resolve, invoke, builtin, Sem.run_bind, Sem.run_pure, Result.andThen_ok, List.map_toArray, List.map_cons, List.map_nil, hm, hrun]
    exact hK' _ _ (hK w' h1 h2)
def hdL (h : HdP) : List Value := [.int .i64 (h.many : Int), .int .i64 (h.free : Int), .int .i64 (rtH h 0), .int .i64 (rtH h 1), .int .i64 (rtH h 2), .int .i64 (rtH h 3), .int .i64 (rtH h 4), .int .i64 (rtH h 5), .int .i64 (rtH h 6), .int .i64 (rtH h 7)]
theorem hdL_one (h : HdP) : ∀ v ∈ hdL h, v.oneCell' = true := by
  intro v hv
  simp only [hdL, List.mem_cons, List.not_mem_nil, or_false] at hv
  rcases hv with rfl | rfl | rfl | rfl | rfl | rfl | rfl | rfl | rfl | rfl <;> rfl
theorem hdI : (Tryz.prog.info? 65).map (·.size) = some 10 := by kernel_rfl
section
variable {w : World} {f p mch mcl reads : Nat} {nm : ByteArray} {now last h2 : HdP} {vrow : Value} {dead : Bool}
theorem pgC_now (h : Bk w p 67 (pgC f nm now last mch mcl vrow reads dead)) : w.rangeAt p 2 (hdL now) := h.range fun j hj => by
  have hj : j < 10 := hj
  match j, hj with
  | 0, _ => rfl | 1, _ => rfl | 2, _ => rfl | 3, _ => rfl | 4, _ => rfl | 5, _ => rfl | 6, _ => rfl | 7, _ => rfl | 8, _ => rfl | 9, _ => rfl
theorem pgC_last (h : Bk w p 67 (pgC f nm now last mch mcl vrow reads dead)) : w.rangeAt p 12 (hdL last) := h.range fun j hj => by
  have hj : j < 10 := hj
  match j, hj with
  | 0, _ => rfl | 1, _ => rfl | 2, _ => rfl | 3, _ => rfl | 4, _ => rfl | 5, _ => rfl | 6, _ => rfl | 7, _ => rfl | 8, _ => rfl | 9, _ => rfl
def setA (cs : Array Value) : Nat → List Value → Array Value
  | _, [] => cs
  | o, v :: r => setA (cs.setIfInBounds o v) (o + 1) r
theorem bk_setC {g : Nat} {t : TypeId} : ∀ (l : List Value) (o : Nat) (w : World) (cs : Array Value), Bk w g t cs → Bk (w.setCells g o l) g t (setA cs o l)
  | [], _, _, _, h => h
  | v :: r, o, w, cs, h => bk_setC r (o + 1) _ _ (h.set o v)
theorem setA_now : setA (pgC f nm now last mch mcl vrow reads dead) 2 (hdL h2) = pgC f nm h2 last mch mcl vrow reads dead := by
  simp only [pgC, hdL, setA, List.setIfInBounds_toArray, List.set_cons_succ, List.set_cons_zero]
theorem setA_last : setA (pgC f nm now last mch mcl vrow reads dead) 12 (hdL h2) = pgC f nm now h2 mch mcl vrow reads dead := by
  simp only [pgC, hdL, setA, List.setIfInBounds_toArray, List.set_cons_succ, List.set_cons_zero]
theorem pgC_setNow (h : Bk w p 67 (pgC f nm now last mch mcl vrow reads dead)) (h2 : HdP) : Bk (w.setCells p 2 (hdL h2)) p 67 (pgC f nm h2 last mch mcl vrow reads dead) :=
  setA_now (h2 := h2) ▸ bk_setC (hdL h2) 2 w _ h
theorem pgC_setLast (h : Bk w p 67 (pgC f nm now last mch mcl vrow reads dead)) (h2 : HdP) : Bk (w.setCells p 12 (hdL h2)) p 67 (pgC f nm now h2 mch mcl vrow reads dead) :=
  setA_last (h2 := h2) ▸ bk_setC (hdL h2) 12 w _ h
theorem ch_setC (w : World) (p o : Nat) : ∀ l : List Value, Ch (fun i => i = p) w (w.setCells p o l) := fun l => by
  suffices h : ∀ (l : List Value) (o : Nat) (w2 : World), Ch (fun i => i = p) w w2 → Ch (fun i => i = p) w (w2.setCells p o l) from h l o w (Ch.refl _ _)
  intro l
  induction l with
  | nil => intro o w2 h; exact h
  | cons v r ih => intro o w2 h; exact ih (o + 1) _ (h.set (.inl rfl) v)
end
/-- A page 0's values, read at the operation. -/
theorem op_ldH {w : World} {ops : Array Oper} {rest : List Oper} {a : Act} {Q : Exit → Act → World → Prop} {d : Option Tmp} {ty : TypeId} {pos : String} {af : Array Edge} {x : Operand}
    (g o : Nat) (h : HdP) (hr : w.rangeAt g o (hdL h)) (hx : a.eval x = .pointer (some ⟨g, o, none⟩))
    (hK : wpList Tryz.prog ops Q rest (a.put d (.agg (hdL h).toArray)) w) :
    wpList Tryz.prog ops Q ({ dst := d, op := .load 65 x, type := ty, pos := pos, after := af, guard := none } :: rest) a w :=
  wpList_load_mid rfl _ x rfl g o hx (hdL h) _ hr Tryz.underlying65 rfl hdI hK
/-- A page 0's values, written at the operation. -/
theorem op_stH {w : World} {ops : Array Oper} {rest : List Oper} {a : Act} {Q : Exit → Act → World → Prop} {d : Option Tmp} {ty : TypeId} {pos : String} {af : Array Edge} {x y : Operand}
    (g o : Nat) (h : HdP) (ht : w.there g o 10) (hx : a.eval x = .pointer (some ⟨g, o, none⟩)) (hy : a.eval y = .agg (hdL h).toArray)
    (hK : wpList Tryz.prog ops Q rest (a.put d undef) (w.setCells g o (hdL h))) :
    wpList Tryz.prog ops Q ({ dst := d, op := .store 65 x y, type := ty, pos := pos, after := af, guard := none } :: rest) a w :=
  wpList_store_mid rfl _ x y rfl g o _ hx hy ht hdI (all_oneCell_toArray (hdL_one h)) hK
set_option maxHeartbeats 4000000 in
set_option maxRecDepth 100000 in
theorem give_any (f p mch mcl : Nat) (nm : ByteArray) (P : PgP) (tch tcl : Nat → SlT) (vrow : Value) (w : World) (h : PgM w f p nm P mch mcl tch tcl vrow) :
    Calls Tryz.prog 45 #[.pointer (some ⟨p, 0, none⟩)] w fun e w' => e = .returned (.tuple #[]) ∧ PgM w' f p nm (giveP P) mch mcl tch tcl vrow ∧ Ch (fun i => i = p ∨ i = mch) w w' := by
  have HL := Lib.hid (pgC_last h.hd)
  have HT := Lib.hid (show w.there p 2 10 from h.hd.there (by simp [pgC]))
  obtain ⟨W, hW⟩ : ∃ W, W = w.setCells p 2 (hdL P.last) := ⟨_, rfl⟩
  have hb : Bk W p 67 (pgC f nm P.last P.last mch mcl vrow P.reads P.dead) := hW ▸ pgC_setNow h.hd P.last
  have hc : Ch (fun i => i = p) w W := hW ▸ ch_setC w p 2 _
  have HM := Lib.hid (show MapI W mch P.ch.length (fun k => (P.ch.lookup k).map fun _ => tch k) from h.ch.heap (hc.block mch h.ch.lt (h.ch.ne h.hd)))
  have HF := Lib.hid (show ∀ w3, MapI w3 mch 0 (fun _ => none) → W.grownBy w3 (some mch) → _ from fun w3 a b => h.give hb hc a b)
  have c22 : W.cell? ⟨p, 22, none⟩ = some (.map (some mch)) := hb.cell 22
  have HW := Lib.hid hW
  clear h hb hc hW
  go_enter Tryz.func45, Tryz.ntmps45
  go_wp2_with (first
    | (with_reducible refine at_load 65 ?_; go_loud ((apply op_ldH p 12 P.last HL.out); (case hx => kernel_rfl); try go_frame))
    | (with_reducible refine at_store 65 ?_; go_loud ((apply op_stH p 2 P.last HT.out); (case hx => kernel_rfl); (case hy => kernel_rfl); rw [← HW.out]; try go_frame))
    | (with_reducible refine at_clear ?_; go_loud ((apply op_clrI HM.out); (case hm => kernel_rfl); (case hw => kernel_rfl); intro w3 m3 g3; obtain ⟨r1, r2⟩ := HF.out w3 m3 g3; replace r1 := Lib.hid r1; replace r2 := Lib.hid r2; clear m3 g3; try go_frame)))
  refine bodyPost_end (results_none rfl _ _ _) rfl ?_
  exact ⟨rfl, r1.out, r2.out⟩
end Go.Proofs.YtoadamkmabkldaaGreatDoor
/- Contracts of package pager: what a pager that is not there says; Abort. -/
namespace Go.Proofs.YtoadamkmabkldaaGreatDoor
open Go.RowKit
attribute [local go_sem ↓] Go.wp_at_zero Go.wp_at_succ
set_option maxHeartbeats 1000000 in
theorem alloc_nil (w : World) : Calls Tryz.prog 12 #[.pointer none] w fun e w' => e = .returned (.tuple #[.int .i64 0, .int .i64 2]) ∧ w' = w := by
  have HU := Lib.hid (up_nil w)
  go_enter Tryz.func12, Tryz.ntmps12
  go_wp2_with fail
  with_reducible refine HU.out.mono ?_
  rintro e wz ⟨rfl, hwz⟩
  replace hwz := hwz.symm
  subst hwz
  go_wp2_with fail
  go_ret2
  exact ⟨rfl, by first | rfl | trivial⟩
set_option maxHeartbeats 1000000 in
theorem frees_nil (w : World) : Calls Tryz.prog 24 #[.pointer none] w fun e w' => e = .returned (.tuple #[.slice none 0 0, .int .i64 2]) ∧ w' = w := by
  have HU := Lib.hid (up_nil w)
  go_enter Tryz.func24, Tryz.ntmps24
  go_wp2_with fail
  with_reducible refine HU.out.mono ?_
  rintro e wz ⟨rfl, hwz⟩
  replace hwz := hwz.symm
  subst hwz
  go_wp2_with fail
  go_ret2
  exact ⟨rfl, by first | rfl | trivial⟩
set_option maxHeartbeats 1000000 in
theorem abort_nil (w : World) : Calls Tryz.prog 25 #[.pointer none] w fun e w' => e = .returned (.int .i64 2) ∧ w' = w := by
  have HU := Lib.hid (up_nil w)
  go_enter Tryz.func25, Tryz.ntmps25
  go_wp2_with fail
  with_reducible refine HU.out.mono ?_
  rintro e wz ⟨rfl, hwz⟩
  replace hwz := hwz.symm
  subst hwz
  go_wp2_with fail
  go_ret
  exact ⟨rfl, by first | rfl | trivial⟩
set_option maxHeartbeats 1000000 in
theorem commit_nil (w : World) : Calls Tryz.prog 14 #[.pointer none] w fun e w' => e = .returned (.int .i64 2) ∧ w' = w := by
  have HU := Lib.hid (up_nil w)
  go_enter Tryz.func14, Tryz.ntmps14
  go_wp2_with fail
  with_reducible refine HU.out.mono ?_
  rintro e wz ⟨rfl, hwz⟩
  replace hwz := hwz.symm
  subst hwz
  go_wp2_with fail
  go_ret
  exact ⟨rfl, by first | rfl | trivial⟩
set_option maxHeartbeats 1000000 in
theorem changed_nil (w : World) : Calls Tryz.prog 21 #[.pointer none] w fun e w' => e = .returned (.bool false) ∧ Ch (fun _ => False) w w' := by
  go_enter Tryz.func21, Tryz.ntmps21
  go_wp2_with fail
  go_quiet ((go_at_call 38; exact Calls.quiet_of_same (up_nil _)))
  go_wp2_with fail
  go_ret
  exact ⟨rfl, (Ch.refl _ _).drewN _⟩
set_option maxHeartbeats 1000000 in
theorem free_nil (no : Int) (w : World) : Calls Tryz.prog 17 #[.pointer none, .int .i64 no] w fun e w' => e = .returned (.int .i64 2) ∧ w' = w := by
  have HU := Lib.hid (has_nil no 1 w)
  go_enter Tryz.func17, Tryz.ntmps17
  go_wp2_with fail
  with_reducible refine HU.out.mono ?_
  rintro e wz ⟨rfl, hwz⟩
  replace hwz := hwz.symm
  subst hwz
  go_wp2_with fail
  go_ret
  exact ⟨rfl, by first | rfl | trivial⟩
set_option maxHeartbeats 1000000 in
theorem pread_nil (no : Int) (w : World) : Calls Tryz.prog 16 #[.pointer none, .int .i64 no] w fun e w' => e = .returned (.tuple #[.slice none 0 0, .int .i64 2]) ∧ w' = w := by
  have HU := Lib.hid (has_nil no 0 w)
  go_enter Tryz.func16, Tryz.ntmps16
  go_wp2_with fail
  with_reducible refine HU.out.mono ?_
  rintro e wz ⟨rfl, hwz⟩
  replace hwz := hwz.symm
  subst hwz
  go_wp2_with fail
  go_ret2
  exact ⟨rfl, by first | rfl | trivial⟩
set_option maxHeartbeats 1000000 in
theorem pwrite_nil (no : Int) (A : Option Addr) (n c : Nat) (w : World) : Calls Tryz.prog 13 #[.pointer none, .int .i64 no, .slice A n c] w fun e w' => e = .returned (.int .i64 2) ∧ w' = w := by
  have HU := Lib.hid (has_nil no 1 w)
  go_enter Tryz.func13, Tryz.ntmps13
  go_wp2_with fail
  with_reducible refine HU.out.mono ?_
  rintro e wz ⟨rfl, hwz⟩
  replace hwz := hwz.symm
  subst hwz
  go_wp2_with fail
  go_ret
  exact ⟨rfl, by first | rfl | trivial⟩
set_option maxHeartbeats 1000000 in
theorem setroot_nil (k no : Int) (w : World) : Calls Tryz.prog 22 #[.pointer none, .int .i64 k, .int .i64 no] w fun e w' => e = .returned (.int .i64 2) ∧ w' = w := by
  have HU := Lib.hid (has_nil no 0 w)
  go_enter Tryz.func22, Tryz.ntmps22
  go_wp2_with fail
  with_reducible refine HU.out.mono ?_
  rintro e wz ⟨rfl, hwz⟩
  replace hwz := hwz.symm
  subst hwz
  go_wp2_with fail
  go_ret
  exact ⟨rfl, by first | rfl | trivial⟩
set_option maxHeartbeats 1000000 in
theorem abort_any (f p mch mcl : Nat) (nm : ByteArray) (P : PgP) (tch tcl : Nat → SlT) (vrow : Value) (w : World) (h : PgM w f p nm P mch mcl tch tcl vrow) (hd : P.dead = false) :
    Calls Tryz.prog 25 #[.pointer (some ⟨p, 0, none⟩)] w fun e w' => e = .returned (.int .i64 0) ∧ PgM w' f p nm (giveP P) mch mcl tch tcl vrow ∧ Ch (fun i => i = p ∨ i = mch) w w' := by
  have HU := Lib.hid (up_any p false w (by have := h.hd.cell 26; rw [← hd]; exact this))
  have HG := Lib.hid (give_any f p mch mcl nm P tch tcl vrow w h)
  clear h
  go_enter Tryz.func25, Tryz.ntmps25
  go_wp2_with fail
  with_reducible refine HU.out.mono ?_
  rintro e wz ⟨rfl, hwz⟩
  replace hwz := hwz.symm
  subst hwz
  go_wp2_with fail
  with_reducible refine HG.out.mono ?_
  rintro e w1 ⟨rfl, h1, h2⟩
  replace h1 := Lib.hid h1
  replace h2 := Lib.hid h2
  go_wp2_with fail
  go_ret
  exact ⟨rfl, h1.out, h2.out⟩
theorem len_all {w : World} {m n : Nat} {f : Nat → Option SlT} (h : MapI w m n f) : ∃ k : Nat, (∀ q ty, (Builtin.len_ #[62] ty #[.map (some m)]).run Tryz.prog (w.drewN q) = .ok (.int .i64 (k : Int)) (w.drewN q)) ∧ (k = 0 ↔ ∀ x, f x = none) := by
  obtain ⟨k, hr, hk, _⟩ := h.len 0
  obtain ⟨D, h1, h2, h3, h4⟩ := h
  refine ⟨Maps.size D, fun q ty => World.ownsMap.len (w := w.drewN q) h1 Tryz.underlying62 ty, ?_⟩
  have := (h1.len Tryz.underlying62 0).symm.trans hr
  injection this with e
  injection e with _ e
  rw [show Maps.size D = k by omega]; exact hk
theorem lookup_head {l : List (Nat × List UInt8)} (h : l ≠ []) : ∃ k, (l.lookup k).isSome = true := by
  cases l with
  | nil => exact (h rfl).elim
  | cons p r => exact ⟨p.1, by rw [List.lookup_cons, show (p.1 == p.1) = true by simp]; rfl⟩
set_option maxHeartbeats 2000000 in
theorem eqA_ints (W : World) (xs ys : List Int) : ∀ (is : List Nat), (∀ i ∈ is, i < xs.length ∧ i < ys.length) → (Op.eqItems 9998 3 1 (its xs).toArray (its ys).toArray is).run Tryz.prog W = .ok (is.all fun i => xs[i]? == ys[i]?) W
  | [], _ => rfl
  | i :: r, h => by
    obtain ⟨h1, h2⟩ := h i (List.mem_cons_self ..)
    have e1 : (its xs).toArray[i * 1]? = some (.int .i64 xs[i]) := by simp [its, h1]
    have e2 : (its ys).toArray[i * 1]? = some (.int .i64 ys[i]) := by simp [its, h2]
    unfold Op.eqItems
    simp only [Sem.run_bind, run_part_plain (P := Tryz.prog) (e := 3) W (by kernel_rfl) e1, run_part_plain (P := Tryz.prog) (e := 3) W (by kernel_rfl) e2, Result.andThen_ok, run_equalIn_int (P := Tryz.prog) W 9997 3 .i64 .i64 xs[i] ys[i] Tryz.underlying3]
    by_cases e : xs[i] = ys[i]
    · have ih := eqA_ints W xs ys r (fun k hk => h k (List.mem_cons_of_mem _ hk))
      simp [e, ih, h1, h2]
    · simp [e, h1, h2, Sem.run_pure]
def hdI2 (h : HdP) : List Int := [rtH h 0, rtH h 1, rtH h 2, rtH h 3, rtH h 4, rtH h 5, rtH h 6, rtH h 7]
theorem arrI : Tryz.prog.cellsOf 3 = 1 := by kernel_rfl
theorem infI : ∃ i, Tryz.prog.info? 3 = some i := info_of_underlying Tryz.underlying3
theorem eq_arr (W : World) (a b : HdP) : (Op.equalIn 9999 63 (.agg (its (hdI2 a)).toArray) (.agg (its (hdI2 b)).toArray)).run Tryz.prog W = .ok ((List.range 8).all fun i => (hdI2 a)[i]? == (hdI2 b)[i]?) W := by
  obtain ⟨i, hi⟩ := infI
  rw [run_equalIn_array (P := Tryz.prog) W 9998 _ _ Tryz.underlying63 hi, arrI]
  exact eqA_ints W _ _ _ (fun i hi => by simpa [hdI2] using hi)
set_option maxRecDepth 100000 in
set_option maxHeartbeats 1000000 in
theorem part_roots (W : World) (a : HdP) : (part 63 (hdL a).toArray 2).run Tryz.prog W = .ok (.agg (its (hdI2 a)).toArray) W := by
  have h8 : (Tryz.prog.info? 63).map (·.size) = some 8 := by kernel_rfl
  have hg : (isAgg 63).run Tryz.prog W = .ok true W := by
    unfold isAgg
    rw [Sem.run_bind, run_underlying Tryz.underlying63 W]
    rfl
  cases hq : Tryz.prog.info? 63 with
  | none => rw [hq] at h8; cases h8
  | some i =>
    rw [hq] at h8
    injection h8 with h8
    have hs : i.size = 8 := h8
    unfold part
    simp only [Sem.run_bind, hg, Result.andThen_ok, sizeOf, typeInfo, hq]
    simp [hs, Sem.run_pure, hq]
    rfl
set_option maxHeartbeats 4000000 in
theorem neq_run (W : World) (a b : HdP) : (binOp .neq 65 (.agg (hdL a).toArray) (.agg (hdL b).toArray)).run Tryz.prog W = .ok (.bool (!((a.many : Int) == b.many && (a.free : Int) == b.free && (List.range 8).all fun i => (hdI2 a)[i]? == (hdI2 b)[i]?))) W := by
  have hu := Tryz.underlying65
  have hu2 : Tryz.prog.underlying 65 = some (.struct (Tryz.prog.fieldsOf 65)) := by unfold Program.fieldsOf; rw [hu]
  have p1 := part_roots W a
  have p2 := part_roots W b
  have q1 : (part 3 (hdL a).toArray 0).run Tryz.prog W = .ok (.int .i64 (a.many : Int)) W := run_part_plain (P := Tryz.prog) (e := 3) W (by kernel_rfl) rfl
  have q2 : (part 3 (hdL b).toArray 0).run Tryz.prog W = .ok (.int .i64 (b.many : Int)) W := run_part_plain (P := Tryz.prog) (e := 3) W (by kernel_rfl) rfl
  have q3 : (part 3 (hdL a).toArray 1).run Tryz.prog W = .ok (.int .i64 (a.free : Int)) W := run_part_plain (P := Tryz.prog) (e := 3) W (by kernel_rfl) rfl
  have q4 : (part 3 (hdL b).toArray 1).run Tryz.prog W = .ok (.int .i64 (b.free : Int)) W := run_part_plain (P := Tryz.prog) (e := 3) W (by kernel_rfl) rfl
  have E := eq_arr W a b
  rw [run_neq_struct, run_equalIn_agg W 9999 65 _ _ hu2 (by kernel_rfl)]
  unfold Program.fieldsOf
  rw [hu]
  have n1 : ("many" : String) ≠ "_" := by decide
  have n2 : ("free" : String) ≠ "_" := by decide
  have n3 : ("roots" : String) ≠ "_" := by decide
  have i1 := run_equalIn_int (P := Tryz.prog) W 9998 3 .i64 .i64 (a.many : Int) (b.many : Int) Tryz.underlying3
  have i2 := run_equalIn_int (P := Tryz.prog) W 9998 3 .i64 .i64 (a.free : Int) (b.free : Int) Tryz.underlying3
  simp only [Op.eqFields, if_pos n1, if_pos n2, if_pos n3, Sem.run_bind, q1, q2, i1, Result.andThen_ok]
  cases (a.many : Int) == (b.many : Int) with
  | false => rfl
  | true =>
    simp only [Bool.not_true, Bool.false_eq_true, if_false, Sem.run_bind, q3, q4, i2, Result.andThen_ok]
    cases (a.free : Int) == (b.free : Int) with
    | false => rfl
    | true =>
      simp only [Bool.not_true, Bool.false_eq_true, if_false, Sem.run_bind, p1, p2, E, Result.andThen_ok]
      cases (List.range 8).all fun i => (hdI2 a)[i]? == (hdI2 b)[i]? <;> rfl
theorem neq_hd (a b : HdP) : ∃ r : Bool, (∀ W, (binOp .neq 65 (.agg (hdL a).toArray) (.agg (hdL b).toArray)).run Tryz.prog W = .ok (.bool (!r)) W) ∧ (r = true ↔ hdL a = hdL b) :=
  ⟨_, fun W => neq_run W a b, by simp [hdI2, hdL, List.range, List.range.loop, and_assoc]⟩
set_option maxHeartbeats 2000000 in
theorem changed_some (f p mch mcl : Nat) (nm : ByteArray) (P : PgP) (tch tcl : Nat → SlT) (vrow : Value) (w : World) (h : PgM w f p nm P mch mcl tch tcl vrow) (hd : P.dead = false) (hc : P.ch ≠ []) :
    Calls Tryz.prog 21 #[.pointer (some ⟨p, 0, none⟩)] w fun e w' => e = .returned (.bool true) ∧ Ch (fun _ => False) w w' := by
  have c26 : w.cell? ⟨p, 26, none⟩ = some (.bool false) := by have := h.hd.cell 26; rw [← hd]; exact this
  have c22 : w.cell? ⟨p, 22, none⟩ = some (.map (some mch)) := h.hd.cell 22
  obtain ⟨x, hl, hx0⟩ := len_all h.ch
  have hx : 0 < x := by
    rcases Nat.eq_zero_or_pos x with e | e
    · obtain ⟨k, hk⟩ := lookup_head hc
      have := hx0.1 e k
      rw [Option.map_eq_none_iff] at this
      rw [this] at hk; cases hk
    · exact e
  clear hx0
  have HU := Lib.hid (fun q => up_any p false (w.drewN q) c26)
  clear h hd hc
  go_enter Tryz.func21, Tryz.ntmps21
  go_wp2_with fail
  go_quiet ((go_at_call 38; exact Calls.quiet_of_same (HU.out _)))
  go_wp2_with fail
  go_ret
  exact ⟨rfl, (Ch.refl _ _).drewN _⟩
end Go.Proofs.YtoadamkmabkldaaGreatDoor
/- Contracts of package pager: Changed with no changed page. -/
namespace Go.Proofs.YtoadamkmabkldaaGreatDoor
open Go.RowKit
attribute [local go_sem ↓] Go.wp_at_zero Go.wp_at_succ
set_option maxHeartbeats 4000000 in
set_option maxRecDepth 100000 in
theorem changed_none (f p mch mcl : Nat) (nm : ByteArray) (P : PgP) (tch tcl : Nat → SlT) (vrow : Value) (w : World) (h : PgM w f p nm P mch mcl tch tcl vrow) (hd : P.dead = false) (hc : P.ch = []) (r : Bool) (hrq : r = false ↔ hdL P.now = hdL P.last) :
    Calls Tryz.prog 21 #[.pointer (some ⟨p, 0, none⟩)] w fun e w' => e = .returned (.bool r) ∧ Ch (fun _ => False) w w' := by
  have c26 : w.cell? ⟨p, 26, none⟩ = some (.bool false) := by have := h.hd.cell 26; rw [← hd]; exact this
  have c22 : w.cell? ⟨p, 22, none⟩ = some (.map (some mch)) := h.hd.cell 22
  have c2 : w.cell? ⟨p, 2, none⟩ = some (.int .i64 (P.now.many : Int)) := h.hd.cell 2
  have c3 : w.cell? ⟨p, 3, none⟩ = some (.int .i64 (P.now.free : Int)) := h.hd.cell 3
  have c4 : w.cell? ⟨p, 4, none⟩ = some (.int .i64 (rtH P.now 0)) := h.hd.cell 4
  have c5 : w.cell? ⟨p, 5, none⟩ = some (.int .i64 (rtH P.now 1)) := h.hd.cell 5
  have c6 : w.cell? ⟨p, 6, none⟩ = some (.int .i64 (rtH P.now 2)) := h.hd.cell 6
  have c7 : w.cell? ⟨p, 7, none⟩ = some (.int .i64 (rtH P.now 3)) := h.hd.cell 7
  have c8 : w.cell? ⟨p, 8, none⟩ = some (.int .i64 (rtH P.now 4)) := h.hd.cell 8
  have c9 : w.cell? ⟨p, 9, none⟩ = some (.int .i64 (rtH P.now 5)) := h.hd.cell 9
  have c10 : w.cell? ⟨p, 10, none⟩ = some (.int .i64 (rtH P.now 6)) := h.hd.cell 10
  have c11 : w.cell? ⟨p, 11, none⟩ = some (.int .i64 (rtH P.now 7)) := h.hd.cell 11
  have c12 : w.cell? ⟨p, 12, none⟩ = some (.int .i64 (P.last.many : Int)) := h.hd.cell 12
  have c13 : w.cell? ⟨p, 13, none⟩ = some (.int .i64 (P.last.free : Int)) := h.hd.cell 13
  have c14 : w.cell? ⟨p, 14, none⟩ = some (.int .i64 (rtH P.last 0)) := h.hd.cell 14
  have c15 : w.cell? ⟨p, 15, none⟩ = some (.int .i64 (rtH P.last 1)) := h.hd.cell 15
  have c16 : w.cell? ⟨p, 16, none⟩ = some (.int .i64 (rtH P.last 2)) := h.hd.cell 16
  have c17 : w.cell? ⟨p, 17, none⟩ = some (.int .i64 (rtH P.last 3)) := h.hd.cell 17
  have c18 : w.cell? ⟨p, 18, none⟩ = some (.int .i64 (rtH P.last 4)) := h.hd.cell 18
  have c19 : w.cell? ⟨p, 19, none⟩ = some (.int .i64 (rtH P.last 5)) := h.hd.cell 19
  have c20 : w.cell? ⟨p, 20, none⟩ = some (.int .i64 (rtH P.last 6)) := h.hd.cell 20
  have c21 : w.cell? ⟨p, 21, none⟩ = some (.int .i64 (rtH P.last 7)) := h.hd.cell 21
  obtain ⟨x, hl, hx0⟩ := len_all h.ch
  have hx : x = 0 := hx0.2 (fun k => by rw [hc]; rfl)
  subst hx
  have HU := Lib.hid (fun q => up_any p false (w.drewN q) c26)
  obtain ⟨r0, hn, hr0⟩ := neq_hd P.now P.last
  have hr1 : (!r0) = r := by
    cases r0 with
    | true => rw [hrq.2 (hr0.1 rfl)]; rfl
    | false => cases r with
      | true => rfl
      | false => have := hr0.2 (hrq.1 rfl); cases this
  rw [hr1] at hn
  simp only [hdL] at hn
  clear hr0 hr1 hrq h hd hc hx0
  go_enter Tryz.func21, Tryz.ntmps21
  go_wp2_with fail
  go_quiet ((go_at_call 38; exact Calls.quiet_of_same (HU.out _)))
  go_wp2_with fail
  go_ret
  exact ⟨rfl, (Ch.refl _ _).drewN _⟩
end Go.Proofs.YtoadamkmabkldaaGreatDoor
/- Contracts of package pager: SetRoot; refusals of Free, Read, Write. -/
namespace Go.Proofs.YtoadamkmabkldaaGreatDoor
open Go.RowKit
attribute [local go_sem ↓] Go.wp_at_zero Go.wp_at_succ
set_option maxHeartbeats 1000000 in
theorem free_out (p many : Nat) (no : Int) (w : World) (c8 : w.cell? ⟨p, 26, none⟩ = some (.bool false)) (c2 : w.cell? ⟨p, 2, none⟩ = some (.int .i64 (many : Int))) (hn : no < 1 ∨ (many : Int) ≤ no) :
    Calls Tryz.prog 17 #[.pointer (some ⟨p, 0, none⟩), .int .i64 no] w fun e w' => e = .returned (.int .i64 1) ∧ w' = w := by
  have HU := has_any p many no 1 w c8 c2
  rw [if_pos hn] at HU
  replace HU := Lib.hid HU
  clear hn
  go_enter Tryz.func17, Tryz.ntmps17
  go_wp2_with fail
  with_reducible refine HU.out.mono ?_
  rintro e wz ⟨rfl, hwz⟩
  replace hwz := hwz.symm
  subst hwz
  go_wp2_with fail
  go_ret
  exact ⟨rfl, by first | rfl | trivial⟩
set_option maxHeartbeats 1000000 in
theorem pread_out (p many : Nat) (no : Int) (w : World) (c8 : w.cell? ⟨p, 26, none⟩ = some (.bool false)) (c2 : w.cell? ⟨p, 2, none⟩ = some (.int .i64 (many : Int))) (hn : no < 0 ∨ (many : Int) ≤ no) :
    Calls Tryz.prog 16 #[.pointer (some ⟨p, 0, none⟩), .int .i64 no] w fun e w' => e = .returned (.tuple #[.slice none 0 0, .int .i64 1]) ∧ w' = w := by
  have HU := has_any p many no 0 w c8 c2
  rw [if_pos hn] at HU
  replace HU := Lib.hid HU
  clear hn
  go_enter Tryz.func16, Tryz.ntmps16
  go_wp2_with fail
  with_reducible refine HU.out.mono ?_
  rintro e wz ⟨rfl, hwz⟩
  replace hwz := hwz.symm
  subst hwz
  go_wp2_with fail
  go_ret2
  exact ⟨rfl, by first | rfl | trivial⟩
set_option maxHeartbeats 1000000 in
theorem pwrite_out (p many : Nat) (no : Int) (A : Option Addr) (n c : Nat) (w : World) (c8 : w.cell? ⟨p, 26, none⟩ = some (.bool false)) (c2 : w.cell? ⟨p, 2, none⟩ = some (.int .i64 (many : Int))) (hn : no < 1 ∨ (many : Int) ≤ no) :
    Calls Tryz.prog 13 #[.pointer (some ⟨p, 0, none⟩), .int .i64 no, .slice A n c] w fun e w' => e = .returned (.int .i64 1) ∧ w' = w := by
  have HU := has_any p many no 1 w c8 c2
  rw [if_pos hn] at HU
  replace HU := Lib.hid HU
  clear hn
  go_enter Tryz.func13, Tryz.ntmps13
  go_wp2_with fail
  with_reducible refine HU.out.mono ?_
  rintro e wz ⟨rfl, hwz⟩
  replace hwz := hwz.symm
  subst hwz
  go_wp2_with fail
  go_ret
  exact ⟨rfl, by first | rfl | trivial⟩
set_option maxHeartbeats 1000000 in
theorem pwrite_long (p many : Nat) (no : Int) (A : Option Addr) (n c : Nat) (w : World) (c8 : w.cell? ⟨p, 26, none⟩ = some (.bool false)) (c2 : w.cell? ⟨p, 2, none⟩ = some (.int .i64 (many : Int))) (hn : ¬ (no < 1 ∨ (many : Int) ≤ no)) (hl : 508 < n) :
    Calls Tryz.prog 13 #[.pointer (some ⟨p, 0, none⟩), .int .i64 no, .slice A n c] w fun e w' => e = .returned (.int .i64 10) ∧ w' = w := by
  have HU := has_any p many no 1 w c8 c2
  rw [if_neg hn] at HU
  replace HU := Lib.hid HU
  have hl2 : (508 : Int) < (n : Int) := by omega
  clear hn hl
  go_enter Tryz.func13, Tryz.ntmps13
  go_wp2_with fail
  with_reducible refine HU.out.mono ?_
  rintro e wz ⟨rfl, hwz⟩
  replace hwz := hwz.symm
  subst hwz
  go_wp2_with fail
  go_ret
  exact ⟨rfl, by first | rfl | trivial⟩
set_option maxHeartbeats 1000000 in
theorem setroot_out (p many : Nat) (k no : Int) (w : World) (c8 : w.cell? ⟨p, 26, none⟩ = some (.bool false)) (c2 : w.cell? ⟨p, 2, none⟩ = some (.int .i64 (many : Int))) (hn : no < 0 ∨ (many : Int) ≤ no) :
    Calls Tryz.prog 22 #[.pointer (some ⟨p, 0, none⟩), .int .i64 k, .int .i64 no] w fun e w' => e = .returned (.int .i64 1) ∧ w' = w := by
  have HU := has_any p many no 0 w c8 c2
  rw [if_pos hn] at HU
  replace HU := Lib.hid HU
  clear hn
  go_enter Tryz.func22, Tryz.ntmps22
  go_wp2_with fail
  with_reducible refine HU.out.mono ?_
  rintro e wz ⟨rfl, hwz⟩
  replace hwz := hwz.symm
  subst hwz
  go_wp2_with fail
  go_ret
  exact ⟨rfl, by first | rfl | trivial⟩
set_option maxHeartbeats 1000000 in
theorem setroot_bad (p many : Nat) (k no : Int) (w : World) (c8 : w.cell? ⟨p, 26, none⟩ = some (.bool false)) (c2 : w.cell? ⟨p, 2, none⟩ = some (.int .i64 (many : Int))) (hn : ¬ (no < 0 ∨ (many : Int) ≤ no)) (hk : k < 0 ∨ 8 ≤ k) :
    Calls Tryz.prog 22 #[.pointer (some ⟨p, 0, none⟩), .int .i64 k, .int .i64 no] w fun e w' => e = .returned (.int .i64 1) ∧ w' = w := by
  have HU := has_any p many no 0 w c8 c2
  rw [if_neg hn] at HU
  replace HU := Lib.hid HU
  clear hn
  rcases hk with hk | hk
  · go_enter Tryz.func22, Tryz.ntmps22
    go_wp2_with fail
    with_reducible refine HU.out.mono ?_
    rintro e wz ⟨rfl, hwz⟩
    replace hwz := hwz.symm
    subst hwz
    go_wp2_with fail
    go_ret
    exact ⟨rfl, by first | rfl | trivial⟩
  · have hk2 : ¬ k < 0 := by omega
    go_enter Tryz.func22, Tryz.ntmps22
    go_wp2_with fail
    with_reducible refine HU.out.mono ?_
    rintro e wz ⟨rfl, hwz⟩
    replace hwz := hwz.symm
    subst hwz
    go_wp2_with fail
    go_ret
    exact ⟨rfl, by first | rfl | trivial⟩
set_option maxHeartbeats 1000000 in
theorem setroot_set (p many k : Nat) (no : Int) (v : Value) (w : World) (c8 : w.cell? ⟨p, 26, none⟩ = some (.bool false)) (c2 : w.cell? ⟨p, 2, none⟩ = some (.int .i64 (many : Int))) (hn : ¬ (no < 0 ∨ (many : Int) ≤ no)) (hk : k < 8)
    (ck : w.cell? ⟨p, 4 + k, none⟩ = some v) (fk : w.frozen? ⟨p, 4 + k, none⟩ = false) :
    Calls Tryz.prog 22 #[.pointer (some ⟨p, 0, none⟩), .int .i64 (k : Int), .int .i64 no] w fun e w' => e = .returned (.int .i64 0) ∧ w' = w.setCell ⟨p, 4 + k, none⟩ (.int .i64 no) := by
  have HU := has_any p many no 0 w c8 c2
  rw [if_neg hn] at HU
  replace HU := Lib.hid HU
  have k1 : ¬ ((k : Int) < 0) := by omega
  have k2 : ¬ ((8 : Int) ≤ (k : Int)) := by omega
  have k3 : (k : Int) < 8 := by omega
  clear hn hk
  go_enter Tryz.func22, Tryz.ntmps22
  go_wp2_with fail
  with_reducible refine HU.out.mono ?_
  rintro e wz ⟨rfl, hwz⟩
  replace hwz := hwz.symm
  subst hwz
  go_wp2_with fail
  go_ret
  exact ⟨rfl, by first | rfl | trivial⟩
end Go.Proofs.YtoadamkmabkldaaGreatDoor
/- Contracts of package pager: a head's bytes. -/
namespace Go.Proofs.YtoadamkmabkldaaGreatDoor
open Go.RowKit
attribute [local go_sem ↓] Go.wp_at_zero Go.wp_at_succ
theorem modify_two (a : Array Obj) (x y : Obj) (f : Obj → Obj) : ((a.push x).push y).modify a.size f = (a.push (f x)).push y := by
  apply Array.ext
  · simp
  · intro i h1 h2
    simp only [Array.getElem_modify, Array.getElem_push, Array.size_push]
    by_cases h : a.size = i
    · subst h; simp
    · rw [if_neg h]
      by_cases hi : i < a.size
      · simp [hi, show i < a.size + 1 by omega]
      · have : ¬ i < a.size + 1 := by omega
        simp [this]
/-- []byte("..") with a block laid behind it. -/
theorem conv_two (w : World) (C : Array Value) (n c g : Nat) (o : Obj) (hg : g = w.heap.size) :
    (convert 22 22 (.slice (some ⟨g, 0, none⟩) n c)).run Tryz.prog ((w.alloc (.cells C 5)).alloc o) = .ok (.slice (some ⟨g, 0, none⟩) n c) ((w.alloc (.cells C 5 (C.size, C.size + 1))).alloc o) := by
  subst hg
  have h0 : ((w.alloc (.cells C 5)).alloc o).heap[w.heap.size]? = some (.cells C 5) := by
    show ((w.heap.push (.cells C 5)).push o)[w.heap.size]? = _
    rw [Array.getElem?_push, if_neg (by simp), Array.getElem?_push, if_pos rfl]
  have hsh : ((w.alloc (.cells C 5)).alloc o).shape? w.heap.size = some (5, C.size) := by
    unfold World.shape?
    rw [h0]
  have hfr : ∀ (k : Nat), ((w.alloc (.cells C 5)).alloc o).freeze ⟨w.heap.size, k, none⟩ 1 = (w.alloc (.cells C 5 (k, k + 1))).alloc o := fun k => by
    unfold World.freeze
    rw [if_neg (by decide)]
    show ({ (w.alloc (.cells C 5)).alloc o with heap := ((w.heap.push (.cells C 5)).push o).modify w.heap.size _ } : World) = _
    rw [modify_two]
    rfl
  simp [convert, run_underlying Tryz.underlying22, run_underlying Tryz.underlying5, markStringish, hsh]
  exact hfr _
theorem rd_blk {W : World} {g : Nat} {t : TypeId} {cs : Array Value} {fr : Nat × Nat} (h : W.heap[g]? = some (.cells cs t fr)) {n : Nat} {xs : List Value} (hn : cs.size = n) (hx : cs.toList = xs) : Rd W W.heap.size 1 (some ⟨g, 0, none⟩) n xs := by
  subst hx hn
  have hlt : g < W.heap.size := by
    rcases Nat.lt_or_ge g W.heap.size with h' | h'
    · exact h'
    · rw [Array.getElem?_eq_none h'] at h; cases h
  refine ⟨by simp, fun _ => ⟨g, 0, rfl, hlt, fun j u hu => ?_⟩⟩
  have := cell_of_row W g (0 + j) cs t fr h
  rw [this, Nat.zero_add, ← Array.getElem?_toList]
  exact hu
theorem blk1 (W : World) (x o : Obj) (g : Nat) (hg : g = W.heap.size) : ((W.alloc x).alloc o).drew.heap[g]? = some x := by
  subst hg
  show ((W.heap.push x).push o)[W.heap.size]? = _
  rw [Array.getElem?_push, if_neg (by simp), Array.getElem?_push, if_pos rfl]
theorem blk2 (W : World) (x : Obj) (g : Nat) (hg : g = W.heap.size) : (W.alloc x).drew.heap[g]? = some x := by
  subst hg
  show (W.heap.push x)[W.heap.size]? = _
  rw [Array.getElem?_push, if_pos rfl]
theorem roots_its (h : HdP) (hl : h.roots.length = 8) : its (natI h.roots) = [.int .i64 (rtH h 0), .int .i64 (rtH h 1), .int .i64 (rtH h 2), .int .i64 (rtH h 3), .int .i64 (rtH h 4), .int .i64 (rtH h 5), .int .i64 (rtH h 6), .int .i64 (rtH h 7)] := by
  obtain ⟨m, fr, l⟩ := h
  match l, hl with
  | [_, _, _, _, _, _, _, _], _ => rfl
theorem blk0 (W : World) (x a b : Obj) : (((W.alloc x).alloc a).alloc b).drew.heap[W.heap.size]? = some x := by
  show (((W.heap.push x).push a).push b)[W.heap.size]? = _
  rw [Array.getElem?_push, if_neg (by simp; omega), Array.getElem?_push, if_neg (by simp), Array.getElem?_push, if_pos rfl]
/-- Behind the first word.Put: the head's block still lies there; the row is ready for the second. -/
theorem hb_mid {w W w2 : World} {h : HdP} {v2 : Value} (hl : h.roots.length = 8) (hW : W.heap[w.heap.size]? = some (.cells (hdL h).toArray 65)) (hz : w.heap.size < W.heap.size) (hw : Below w.heap.size w W)
    (ho : w2.ownsRow W.heap.size 5 1 v2 (4 + 2 * (wid 4).toNat) (bys (putB markD (wid 4).toNat [(h.many : Int), (h.free : Int)]))) (hb : Below W.heap.size W w2) :
    ∃ A c, v2 = .slice A 12 c ∧ w2.cell? ⟨w.heap.size, 0, none⟩ = some (.int .i64 (h.many : Int)) ∧ w2.cell? ⟨w.heap.size, 1, none⟩ = some (.int .i64 (h.free : Int)) ∧
      Hid (Rd w2 w2.heap.size 1 A 12 (bys (putB markD 4 [(h.many : Int), (h.free : Int)])) ∧ Rd w2 w2.heap.size 1 (some ⟨w.heap.size, 2, none⟩) 8 (its (natI h.roots)) ∧ Bk w2 w.heap.size 65 (hdL h).toArray ∧ Below w.heap.size w w2) := by
  have w4 : (wid 4).toNat = 4 := by decide
  rw [w4] at ho
  obtain ⟨A, c, rfl, _, _⟩ := own_form ho
  have hk : Bk w2 w.heap.size 65 (hdL h).toArray := (hb.block _ hz).trans hW
  refine ⟨A, c, rfl, hk.cell 0, hk.cell 1, Lib.hid ⟨Rd.of_own ho, ?_, hk, hw.trans (hb.mono hw.size)⟩⟩
  rw [roots_its h hl]
  refine ⟨rfl, fun _ => ⟨w.heap.size, 2, rfl, hk.lt, fun j u hu => ?_⟩⟩
  rw [hk.cell]
  have hj : j < 8 := by
    have := (List.getElem?_eq_some_iff.1 hu).1
    simpa using this
  match j, hj, hu with
  | 0, _, hu => exact hu | 1, _, hu => exact hu | 2, _, hu => exact hu | 3, _, hu => exact hu
  | 4, _, hu => exact hu | 5, _, hu => exact hu | 6, _, hu => exact hu | 7, _, hu => exact hu
theorem bel3 (w : World) (a b c : Obj) : Below w.heap.size w (((w.alloc a).alloc b).alloc c).drew :=
  ((((Below.refl w.heap.size w).alloc (Nat.le_refl _) a).alloc (by simp) b).alloc (by simp; omega) c).drew
/-- Behind the second word.Put. -/
theorem hb_end {w w2 w3 : World} {h : HdP} {v3 : Value} (hk : Bk w2 w.heap.size 65 (hdL h).toArray) (hw : Below w.heap.size w w2)
    (ho : w3.ownsRow w2.heap.size 5 1 v3 (12 + 8 * (wid 4).toNat) (bys (putB (putB markD 4 [(h.many : Int), (h.free : Int)]) (wid 4).toNat (natI h.roots)))) (hb : Below w2.heap.size w2 w3) :
    ∃ A c, v3 = .slice A 44 c ∧ w3.cell? ⟨w.heap.size, 0, none⟩ = some (.int .i64 (h.many : Int)) ∧ w3.cell? ⟨w.heap.size, 1, none⟩ = some (.int .i64 (h.free : Int)) ∧
      Hid (w3.ownsRow w.heap.size 5 1 (.slice A 44 c) 44 (bys (hdB h)) ∧ Below w.heap.size w w3) := by
  have w4 : (wid 4).toNat = 4 := by decide
  rw [w4] at ho
  obtain ⟨A, c, rfl, _, _⟩ := own_form ho
  have hk3 : Bk w3 w.heap.size 65 (hdL h).toArray := (hb.block _ hk.lt).trans hk
  exact ⟨A, c, rfl, hk3.cell 0, hk3.cell 1, Lib.hid ⟨own_base ho hw.size, hw.trans (hb.mono hw.size)⟩⟩
theorem put_hd1 {W : World} {g1 g2 : Nat} {fr fr2 : Nat × Nat} (h : HdP) (h1 : W.heap[g1]? = some (.cells #[.int .u8 105, .int .u8 113, .int .u8 100, .int .u8 98] 5 fr)) (h2 : W.heap[g2]? = some (.cells #[.int .i64 (h.many : Int), .int .i64 (h.free : Int)] 3 fr2)) :
    Calls Tryz.prog 47 #[.slice (some ⟨g1, 0, none⟩) 4 4, .int .i64 4, .slice (some ⟨g2, 0, none⟩) 2 2] W fun e w' => ∃ v, e = .returned v ∧
      w'.ownsRow W.heap.size 5 1 v (4 + 2 * (wid 4).toNat) (bys (putB markD (wid 4).toNat [(h.many : Int), (h.free : Int)])) ∧ Below W.heap.size W w' :=
  put_any _ _ 4 4 2 2 4 markD [(h.many : Int), (h.free : Int)] W (rd_blk h1 rfl rfl) (rd_blk h2 rfl rfl) (by omega) (by omega)
set_option maxHeartbeats 2000000 in
set_option maxRecDepth 100000 in
theorem hbytes_any (h : HdP) (w : World) (hl : h.roots.length = 8) :
    Calls Tryz.prog 46 #[.agg (hdL h).toArray] w fun e w' => ∃ A c, e = .returned (.slice A 44 c) ∧ w'.ownsRow w.heap.size 5 1 (.slice A 44 c) 44 (bys (hdB h)) ∧ Below w.heap.size w w' := by
  have w4 : (wid 4).toNat = 4 := by decide
  have W4 := Lib.hid w4
  have kc : ∀ (W : World) (C : Array Value) (n c g : Nat), g = W.heap.size → (convert 22 22 (.slice (some ⟨g, 0, none⟩) n c)).run Tryz.prog (W.alloc (.cells C 5)).drew = .ok (.slice (some ⟨g, 0, none⟩) n c) (W.alloc (.cells C 5 (C.size, C.size + 1))).drew :=
    fun W C n c g hg => Go.Joins.run_convert_bytes_const_at (P := Tryz.prog) W.drew 22 5 C n c g hg Tryz.underlying22 Tryz.underlying5
  have kc2 : ∀ (W : World) (C : Array Value) (n c g : Nat) (o : Obj), g = W.heap.size → (convert 22 22 (.slice (some ⟨g, 0, none⟩) n c)).run Tryz.prog ((W.alloc (.cells C 5)).alloc o).drew = .ok (.slice (some ⟨g, 0, none⟩) n c) ((W.alloc (.cells C 5 (C.size, C.size + 1))).alloc o).drew :=
    fun W C n c g o hg => conv_two W.drew C n c g o hg
  have HPA := put_hd1 (W := (((w.alloc (.cells (hdL h).toArray 65)).alloc (.cells #[.int .u8 105, .int .u8 113, .int .u8 100, .int .u8 98] 5 (4, 5))).alloc (.cells #[.int .i64 (h.many : Int), .int .i64 (h.free : Int)] 3)).drew) (g1 := w.heap.size + 1) (g2 := w.heap.size + 1 + 1) h (blk1 _ _ _ _ (by simp)) (blk2 _ _ _ (by simp))
  have HPB := put_hd1 (W := (((w.alloc (.cells (hdL h).toArray 65)).alloc (.cells #[.int .i64 (h.many : Int), .int .i64 (h.free : Int)] 3)).alloc (.cells #[.int .u8 105, .int .u8 113, .int .u8 100, .int .u8 98] 5 (4, 5))).drew) (g1 := w.heap.size + 1 + 1) (g2 := w.heap.size + 1) h (blk2 _ _ _ (by simp)) (blk1 _ _ _ _ (by simp))
  simp only [hdL] at HPA HPB
  unfold hdL
  go_enter Tryz.func46, Tryz.ntmps46
  go_wp2_with fail
  have a0 : ((w.alloc (.cells #[.int .i64 (h.many : Int), .int .i64 (h.free : Int), .int .i64 (rtH h 0), .int .i64 (rtH h 1), .int .i64 (rtH h 2), .int .i64 (rtH h 3), .int .i64 (rtH h 4), .int .i64 (rtH h 5), .int .i64 (rtH h 6), .int .i64 (rtH h 7)] 65)).drew).cell? ⟨w.heap.size, 0, none⟩ = some (.int .i64 (h.many : Int)) := (Bk.new w 65 _).cell 0
  have a1 : ((w.alloc (.cells #[.int .i64 (h.many : Int), .int .i64 (h.free : Int), .int .i64 (rtH h 0), .int .i64 (rtH h 1), .int .i64 (rtH h 2), .int .i64 (rtH h 3), .int .i64 (rtH h 4), .int .i64 (rtH h 5), .int .i64 (rtH h 6), .int .i64 (rtH h 7)] 65)).drew).cell? ⟨w.heap.size, 1, none⟩ = some (.int .i64 (h.free : Int)) := (Bk.new w 65 _).cell 1
  go_region_with
    (first
      | (go_at_call 47; (first | with_reducible refine Calls.mono HPA ?_ | with_reducible refine Calls.mono HPB ?_); rintro e w2 ⟨v2, rfl, hown2, hb2⟩; obtain ⟨A2, c2, rfl, k0, k1, HR2⟩ := hb_mid (w := w) hl (blk0 w _ _ _) (by simp; omega) (bel3 w _ _ _) hown2 hb2; replace hb2 := Lib.hid hb2; clear hown2)
      | (go_at_call 47; (have HP := put_any _ _ 12 c2 8 8 4 (putB markD 4 [(h.many : Int), (h.free : Int)]) (natI h.roots) _ HR2.out.1 HR2.out.2.1 (by omega) (by omega)); (with_reducible refine Calls.mono HP ?_); clear HP; rintro e w3 ⟨v3, rfl, hown3, hb3⟩; obtain ⟨A3, c3, rfl, m0, m1, HR3⟩ := hb_end (w := w) HR2.out.2.2.1 HR2.out.2.2.2 hown3 hb3; clear hown3; replace hb3 := Lib.hid hb3))
  all_goals (go_wp2_with fail)
  all_goals go_ret
  all_goals exact ⟨_, _, rfl, HR3.out.1, HR3.out.2⟩
end Go.Proofs.YtoadamkmabkldaaGreatDoor
