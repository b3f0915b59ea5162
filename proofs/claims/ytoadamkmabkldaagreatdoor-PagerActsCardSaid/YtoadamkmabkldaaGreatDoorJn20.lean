/- Contracts of package page: Open. -/
import Derived.Test.YtoadamkmabkldaaGreatDoorJn12
import Derived.Test.YtoadamkmabkldaaGreatDoorJn03
import Derived.Test.YtoadamkmabkldaaGreatDoorJn19
import Derived.Test.YtoadamkmabkldaaGreatDoorJn01
import Derived.Lib.AppendZeros
import Derived.Maps.AppendAt
set_option linter.unusedVariables false
set_option linter.unusedSimpArgs false
namespace Go.Proofs.YtoadamkmabkldaaGreatDoor
open Go.RowKit
attribute [local go_sem ↓] Go.wp_at_zero Go.wp_at_succ

theorem popen_arg (z : Int) (A : Option Addr) (n c : Nat) (w : World) (hz : fitsB 3 [z] = false) (hz0 : -9223372036854775808 ≤ z ∧ z ≤ 9223372036854775807) :
    Calls Tryz.prog 64 #[.int .i64 z, .slice A n c] w fun e w' => e = .returned (.tuple #[.slice none 0 0, .int .i64 1]) ∧ Below w.heap.size w w' := by
  have w3 : (wid 3).toNat = 3 := by decide
  have hf := fits_any 3 _ 1 1 [z] _ ((Rd.oneI w 3 z).more (B' := (w.alloc (.cells #[.int .i64 z] 3)).heap.size) (by simp)) (by omega) (by simpa using hz0)
  rw [w3, hz] at hf
  clear w3 hz
  go_enter Tryz.func64, Tryz.ntmps64
  go_wp2_with fail
  refine hf.mono ?_
  rintro e w1 ⟨rfl, rfl⟩
  go_wp2
  go_ret2
  exact ⟨rfl, (Below.refl _ _).alloc (Nat.le_refl _) _⟩
theorem popen_size (z : Int) (A : Option Addr) (n c : Nat) (w : World) (hz : fitsB 3 [z] = true) (hz0 : -9223372036854775808 ≤ z ∧ z ≤ 9223372036854775807) (hn : n ≠ 512) :
    Calls Tryz.prog 64 #[.int .i64 z, .slice A n c] w fun e w' => e = .returned (.tuple #[.slice none 0 0, .int .i64 14]) ∧ Below w.heap.size w w' := by
  have w3 : (wid 3).toNat = 3 := by decide
  have hf := fits_any 3 _ 1 1 [z] _ ((Rd.oneI w 3 z).more (B' := (w.alloc (.cells #[.int .i64 z] 3)).heap.size) (by simp)) (by omega) (by simpa using hz0)
  rw [w3, hz] at hf
  have hne : ((n : Int) != 512) = true := by rw [bne_iff_ne]; omega
  clear w3 hz hn
  go_enter Tryz.func64, Tryz.ntmps64
  go_wp2_with fail
  refine hf.mono ?_
  rintro e w1 ⟨rfl, rfl⟩
  go_wp2
  go_ret2
  exact ⟨rfl, (Below.refl _ _).alloc (Nat.le_refl _) _⟩
set_option maxHeartbeats 1000000 in
set_option maxRecDepth 100000 in
theorem popen_sum (z : Int) (A : Option Addr) (c : Nat) (l : List UInt8) (w : World) (hr : Rd w w.heap.size 1 A 512 (bys l)) (hnc : 512 ≤ c) (hne : ¬ sumB z (l.take 508) = l.drop 508) (hz : fitsB 3 [z] = true) (hz0 : -9223372036854775808 ≤ z ∧ z ≤ 9223372036854775807) :
    Calls Tryz.prog 64 #[.int .i64 z, .slice A 512 c] w fun e w' => e = .returned (.tuple #[.slice none 0 0, .int .i64 5]) ∧ Below w.heap.size w w' := by
  have w3 : (wid 3).toNat = 3 := by decide
  have hf := fits_any 3 _ 1 1 [z] _ ((Rd.oneI w 3 z).more (B' := (w.alloc (.cells #[.int .i64 z] 3)).heap.size) (by simp)) (by omega) (by simpa using hz0)
  rw [w3, hz] at hf
  have hl := hr.blen
  obtain ⟨b, o, rfl, hbb, _⟩ := hr.2 (by omega)
  have hmk := mk_bys 508 508 508 rfl rfl (by omega)
  have hgen : (bys (List.replicate 508 0)).toArray = (bys (List.replicate 508 0)).toArray := rfl
  generalize hzz : (bys (List.replicate 508 0)).toArray = zz at hmk
  have Hzz := Lib.hid hzz
  clear w3 hz hgen hzz
  go_enter Tryz.func64, Tryz.ntmps64
  go_wp2_with fail
  refine hf.mono ?_
  rintro e w1 ⟨rfl, rfl⟩
  have hal : Bk ((w.alloc (.cells #[.int .i64 z] 3)).alloc (.cells zz 5)) (w.heap.size + 1) 5 (bys (List.replicate 508 0)).toArray := by rw [Hzz.out]; exact Bk.new' _ _ _ (by simp)
  have hbe : Below w.heap.size w ((w.alloc (.cells #[.int .i64 z] 3)).alloc (.cells zz 5)) := ((Below.refl _ _).alloc (Nat.le_refl _) _).alloc (by simp) _
  go_wp2_with (refine copy_bys hal (hr.below hbe (Nat.le_refl _)) 508 rfl (by rw [List.length_replicate]; omega) rfl rfl hbe (by omega) ?_; intro w2 hbk2 hbe2)
  have hlay : lay (List.replicate 508 0) 0 (l.take 508) = l.take 508 := by
    unfold lay
    rw [List.take_zero, List.nil_append, List.drop_of_length_le (by rw [List.length_replicate, List.length_take]; omega), List.append_nil]
  rw [hlay] at hbk2
  have hP : (l.take 508).length = 508 := by rw [List.length_take]; omega
  have hr2 := Rd.of_bk hbk2 0 508 (by omega)
  rw [List.drop_zero, List.take_of_length_le (by omega)] at hr2
  have hcut : Rd w w.heap.size 1 (some ⟨b, o + 508, none⟩) 4 (bys (l.drop 508)) := by
    have := hr.bcut (k := 508) (m := 4) (by omega) (A' := some ⟨b, o + 508, none⟩) (fun _ => by simp [addLit])
    rwa [List.take_of_length_le (by rw [List.length_drop]; omega)] at this
  have hq : ∀ w', Below w.heap.size w w' → (convert 22 9 (.slice (some ⟨b, o + 508, none⟩) 4 (c - 508))).run Tryz.prog w' = .ok (.string ⟨(l.drop 508).toArray⟩) w' := fun w' h => conv_bys (hcut.below h (Nat.le_refl _))
  have heq : (sumB z (l.take 508) == l.drop 508) = false := by simpa using hne
  clear hne
  have HQ := Lib.hid hq
  have HP := Lib.hid hP
  have hC : ∀ W w3 v3, Below w.heap.size w W → w3.ownsRow W.heap.size 5 1 v3 4 (bys (sumB z (l.take 508))) → Below W.heap.size W w3 → Bk W (w.heap.size + 1) 5 (bys (l.take 508)).toArray → ∃ A3 c3, v3 = .slice A3 4 c3 ∧ (convert 22 9 (.slice A3 4 c3)).run Tryz.prog w3 = .ok (.string ⟨(sumB z (l.take 508)).toArray⟩) w3 ∧ Below w.heap.size w w3 ∧ Bk w3 (w.heap.size + 1) 5 (bys (l.take 508)).toArray := by
    intro W w3 v3 hW hown3 hb3 hbk
    obtain ⟨A3, c3, rfl, hc3, _⟩ := own_form hown3
    exact ⟨A3, c3, rfl, conv_bys (Rd.of_own hown3), hW.trans (hb3.mono hW.size), hbk.below hb3 hbk.lt⟩
  have HC := Lib.hid hC
  have hq2 := hq w2 hbe2
  have hbe2d := hbe2.drew
  clear hq hC hal hbe hf hmk hcut hlay hl hP
  generalize hD : l.drop 508 = D at *
  generalize hPP : l.take 508 = P at *
  generalize hT : sumB z P = T at *
  have HT := Lib.hid hT
  have HPe := Lib.hid hPP
  clear hD hPP hT
  go_wp2_with fail
  have hq2d := HQ.out _ hbe2d
  have hbk2d := hbk2.drew
  have hc508 : ¬ c = 508 := by omega
  go_region_with (go_at_call 94; refine (psum_any z _ 508 508 P _ (by exact hr2) (by omega) (by omega)).mono ?_; rintro e w3 ⟨v3, rfl, hown3, hb3⟩; rw [HT.out] at hown3; obtain ⟨A3, c3, rfl, hq3, hbe3, hbk3⟩ := HC.out _ w3 v3 hbe2d hown3 hb3 hbk2d; have hq4 := HQ.out _ hbe3)
  all_goals (go_wp2; go_ret2; exact ⟨rfl, by assumption⟩)
set_option maxHeartbeats 1000000 in
set_option maxRecDepth 100000 in
theorem popen_ok (z : Int) (A : Option Addr) (c : Nat) (l : List UInt8) (w : World) (hr : Rd w w.heap.size 1 A 512 (bys l)) (hnc : 512 ≤ c) (hne : sumB z (l.take 508) = l.drop 508) (hz : fitsB 3 [z] = true) (hz0 : -9223372036854775808 ≤ z ∧ z ≤ 9223372036854775807) :
    Calls Tryz.prog 64 #[.int .i64 z, .slice A 512 c] w fun e w' => ∃ g, e = .returned (.tuple #[.slice (some ⟨g, 0, none⟩) 508 508, .int .i64 0]) ∧ Bk w' g 5 (bys (l.take 508)).toArray ∧ w.heap.size ≤ g ∧ Below w.heap.size w w' := by
  have w3 : (wid 3).toNat = 3 := by decide
  have hf := fits_any 3 _ 1 1 [z] _ ((Rd.oneI w 3 z).more (B' := (w.alloc (.cells #[.int .i64 z] 3)).heap.size) (by simp)) (by omega) (by simpa using hz0)
  rw [w3, hz] at hf
  have hl := hr.blen
  obtain ⟨b, o, rfl, hbb, _⟩ := hr.2 (by omega)
  have hmk := mk_bys 508 508 508 rfl rfl (by omega)
  have hgen : (bys (List.replicate 508 0)).toArray = (bys (List.replicate 508 0)).toArray := rfl
  generalize hzz : (bys (List.replicate 508 0)).toArray = zz at hmk
  have Hzz := Lib.hid hzz
  clear w3 hz hgen hzz
  go_enter Tryz.func64, Tryz.ntmps64
  go_wp2_with fail
  refine hf.mono ?_
  rintro e w1 ⟨rfl, rfl⟩
  have hal : Bk ((w.alloc (.cells #[.int .i64 z] 3)).alloc (.cells zz 5)) (w.heap.size + 1) 5 (bys (List.replicate 508 0)).toArray := by rw [Hzz.out]; exact Bk.new' _ _ _ (by simp)
  have hbe : Below w.heap.size w ((w.alloc (.cells #[.int .i64 z] 3)).alloc (.cells zz 5)) := ((Below.refl _ _).alloc (Nat.le_refl _) _).alloc (by simp) _
  go_wp2_with (refine copy_bys hal (hr.below hbe (Nat.le_refl _)) 508 rfl (by rw [List.length_replicate]; omega) rfl rfl hbe (by omega) ?_; intro w2 hbk2 hbe2)
  have hlay : lay (List.replicate 508 0) 0 (l.take 508) = l.take 508 := by
    unfold lay
    rw [List.take_zero, List.nil_append, List.drop_of_length_le (by rw [List.length_replicate, List.length_take]; omega), List.append_nil]
  rw [hlay] at hbk2
  have hP : (l.take 508).length = 508 := by rw [List.length_take]; omega
  have hr2 := Rd.of_bk hbk2 0 508 (by omega)
  rw [List.drop_zero, List.take_of_length_le (by omega)] at hr2
  have hcut : Rd w w.heap.size 1 (some ⟨b, o + 508, none⟩) 4 (bys (l.drop 508)) := by
    have := hr.bcut (k := 508) (m := 4) (by omega) (A' := some ⟨b, o + 508, none⟩) (fun _ => by simp [addLit])
    rwa [List.take_of_length_le (by rw [List.length_drop]; omega)] at this
  have hq : ∀ w', Below w.heap.size w w' → (convert 22 9 (.slice (some ⟨b, o + 508, none⟩) 4 (c - 508))).run Tryz.prog w' = .ok (.string ⟨(l.drop 508).toArray⟩) w' := fun w' h => conv_bys (hcut.below h (Nat.le_refl _))
  have heq : (sumB z (l.take 508) == l.drop 508) = true := by simpa using hne
  clear hne
  have HQ := Lib.hid hq
  have HP := Lib.hid hP
  have hC : ∀ W w3 v3, Below w.heap.size w W → w3.ownsRow W.heap.size 5 1 v3 4 (bys (sumB z (l.take 508))) → Below W.heap.size W w3 → Bk W (w.heap.size + 1) 5 (bys (l.take 508)).toArray → ∃ A3 c3, v3 = .slice A3 4 c3 ∧ (convert 22 9 (.slice A3 4 c3)).run Tryz.prog w3 = .ok (.string ⟨(sumB z (l.take 508)).toArray⟩) w3 ∧ Below w.heap.size w w3 ∧ Bk w3 (w.heap.size + 1) 5 (bys (l.take 508)).toArray := by
    intro W w3 v3 hW hown3 hb3 hbk
    obtain ⟨A3, c3, rfl, hc3, _⟩ := own_form hown3
    exact ⟨A3, c3, rfl, conv_bys (Rd.of_own hown3), hW.trans (hb3.mono hW.size), hbk.below hb3 hbk.lt⟩
  have HC := Lib.hid hC
  have hq2 := hq w2 hbe2
  have hbe2d := hbe2.drew
  clear hq hC hal hbe hf hmk hcut hlay hl hP
  generalize hD : l.drop 508 = D at *
  generalize hPP : l.take 508 = P at *
  generalize hT : sumB z P = T at *
  have HT := Lib.hid hT
  have HPe := Lib.hid hPP
  clear hD hPP hT
  go_wp2_with fail
  have hq2d := HQ.out _ hbe2d
  have hbk2d := hbk2.drew
  have hc508 : ¬ c = 508 := by omega
  go_region_with (go_at_call 94; refine (psum_any z _ 508 508 P _ (by exact hr2) (by omega) (by omega)).mono ?_; rintro e w3 ⟨v3, rfl, hown3, hb3⟩; rw [HT.out] at hown3; obtain ⟨A3, c3, rfl, hq3, hbe3, hbk3⟩ := HC.out _ w3 v3 hbe2d hown3 hb3 hbk2d; have hq4 := HQ.out _ hbe3)
  all_goals (go_wp2; go_ret2; exact ⟨_, rfl, by rw [HPe.out]; assumption, by omega, by assumption⟩)
end Go.Proofs.YtoadamkmabkldaaGreatDoor
/- Contracts of package pager: page. -/
namespace Go.Proofs.YtoadamkmabkldaaGreatDoor
open Go.RowKit
attribute [local go_sem ↓] Go.wp_at_zero Go.wp_at_succ
/-- What a pager is when a page was got, which has the bytes b in the file; and what is got. -/
def pgR (P : PgP) (no : Nat) (b : List UInt8) : PgP := if (P.ch.lookup no).isSome then P else if no ∈ P.row then P else keepP { P with reads := P.reads + 1 } no b
def contB (P : PgP) (no : Nat) (b : List UInt8) : List UInt8 := match P.ch.lookup no with | some c => c | none => if no ∈ P.row then P.cv no else b
/-- The file has a page. -/
def Holds (S : FsP) (nm : List UInt8) (no : Nat) (b : List UInt8) : Prop := ∃ pg, readP S (dbN nm) ((512 * no : Nat) : Int) 512 = (0, pg) ∧ pg.length = 512 ∧ sumB (no : Int) (pg.take 508) = pg.drop 508 ∧ b = pg.take 508
set_option maxHeartbeats 4000000 in
set_option maxRecDepth 100000 in
theorem page_ch (f p mch mcl no : Nat) (nm : ByteArray) (P : PgP) (tch tcl : Nat → SlT) (vrow : Value) (b : List UInt8) (w : World) (h : PgM w f p nm P mch mcl tch tcl vrow) (hb : P.ch.lookup no = some b) (hn : no ≤ 65536) :
    Calls Tryz.prog 39 #[.pointer (some ⟨p, 0, none⟩), .int .i64 (no : Int)] w fun e w' => e = .returned (.tuple #[slV (tch no), .int .i64 0]) ∧ w' = w := by
  have c22 : w.cell? ⟨p, 22, none⟩ = some (.map (some mch)) := h.hd.cell 22
  have hl := h.ch.look_ok (k := no) (by omega)
  simp only [hb, Option.map_some] at hl
  unfold slV at hl ⊢
  clear h hb hn
  go_enter Tryz.func39, Tryz.ntmps39
  go_wp2_with fail
  go_ret2
  exact ⟨rfl, by first | rfl | trivial⟩
set_option maxHeartbeats 4000000 in
set_option maxRecDepth 100000 in
theorem page_cl (f p mch mcl no : Nat) (nm : ByteArray) (P : PgP) (tch tcl : Nat → SlT) (vrow : Value) (w : World) (h : PgM w f p nm P mch mcl tch tcl vrow) (hb : P.ch.lookup no = none) (hr : no ∈ P.row) (hn : no ≤ 65536) :
    Calls Tryz.prog 39 #[.pointer (some ⟨p, 0, none⟩), .int .i64 (no : Int)] w fun e w' => e = .returned (.tuple #[slV (tcl no), .int .i64 0]) ∧ w' = w := by
  have c22 : w.cell? ⟨p, 22, none⟩ = some (.map (some mch)) := h.hd.cell 22
  have c23 : w.cell? ⟨p, 23, none⟩ = some (.map (some mcl)) := h.hd.cell 23
  have hl := h.ch.look_ok (k := no) (by omega)
  simp only [hb, Option.map_none] at hl
  have hl2 := h.cl.look_ok (k := no) (by omega)
  simp only [if_pos hr] at hl2
  unfold slV at hl2 ⊢
  clear h hb hn hr
  go_enter Tryz.func39, Tryz.ntmps39
  go_wp2_with fail
  go_ret2
  exact ⟨rfl, by first | rfl | trivial⟩
/-- The pager behind blocks that are new. -/
theorem PgM.below {w w2 : World} {f p mch mcl : Nat} {nm : ByteArray} {P : PgP} {tch tcl : Nat → SlT} {vrow : Value} (h : PgM w f p nm P mch mcl tch tcl vrow) (hb : Below w.heap.size w w2) : PgM w2 f p nm P mch mcl tch tcl vrow :=
  h.heap hb.size (fun i hi => hb.block i (h.lt i hi))
theorem PgB.of_bk {w : World} {g : Nat} {b : List UInt8} (h : Bk w g 5 (bys b).toArray) (hl : b.length = 508) : PgB w (g, 508, 508) b :=
  ⟨_, h, hl.symm, by show b.length ≤ 508; omega, by show 508 ≤ maxLen; unfold maxLen; decide, by rw [List.take_of_length_le (by simp [bys])]⟩
set_option maxHeartbeats 4000000 in
set_option maxRecDepth 100000 in
theorem page_rd (f p mch mcl no : Nat) (O : Nat → Prop) (S : FsP) (nm : ByteArray) (P : PgP) (tch tcl : Nat → SlT) (vrow : Value) (b : List UInt8) (w : World) (h : PgM w f p nm P mch mcl tch tcl vrow) (hF : FsA w O f S) (hs : nm.size ≤ 100)
    (hb : P.ch.lookup no = none) (hr : no ∉ P.row) (hn : no ≤ 65536) (hN : P.row.Nodup) (hl : P.row.length ≤ 16) (hk : ∀ k ∈ P.row, k ≤ 65536) (hrd : P.reads ≤ 1000000) (hH : Holds S nm.data.toList no b) :
    Calls Tryz.prog 39 #[.pointer (some ⟨p, 0, none⟩), .int .i64 (no : Int)] w fun e w' => ∃ t v2, e = .returned (.tuple #[slV t, .int .i64 0]) ∧ PgM w' f p nm (keepP { P with reads := P.reads + 1 } no b) mch mcl tch (fun x => if x = no then t else tcl x) v2 ∧ PgB w' t b ∧
      Ch (fun i => i = p ∨ i = mcl ∨ vrow.ownBlock = some i) w w' ∧ (∀ i, v2.ownBlock = some i → vrow.ownBlock = some i ∨ w.heap.size ≤ i) ∧ w.heap.size ≤ t.1 := by
  have c22 : w.cell? ⟨p, 22, none⟩ = some (.map (some mch)) := h.hd.cell 22
  have c23 : w.cell? ⟨p, 23, none⟩ = some (.map (some mcl)) := h.hd.cell 23
  have hl1 := h.ch.look_ok (k := no) (by omega)
  simp only [hb, Option.map_none] at hl1
  have hl2 := h.cl.look_ok (k := no) (by omega)
  simp only [if_neg hr] at hl2
  obtain ⟨pg, hpg, hlen, hsum, hbe⟩ := hH
  have hS0 : w.drew.cell? ⟨p, 0, none⟩ = some (.pointer (some ⟨f, 0, none⟩)) := h.hd.cell 0
  have HDB := Lib.hid (db_any p nm w.drew (h.hd.cell 1) (by omega))
  obtain ⟨X, hX⟩ : ∃ X : Int, X = ((512 * no : Nat) : Int) := ⟨_, rfl⟩
  have q1 : IntKind.i64.wrap ((no : Int) * 512) = X := by rw [IntWalk.i64_in _ (by omega), hX]; omega
  have hRd := read_at f O S w.drew (hF.heap (fun _ _ _ => rfl)) (nm ++ dbS) X 512 (by rw [db_size]; omega) (by omega)
  rw [db_list, hX, hpg] at hRd
  rw [← hX] at hRd
  have hRd2 := hRd.mono (R' := fun e w' => ∃ A c, e = .returned (.tuple #[.slice A 512 c, .int .i64 0]) ∧ w'.cell? ⟨p, 0, none⟩ = some (.pointer (some ⟨f, 0, none⟩)) ∧ Hid (512 ≤ c ∧ w'.ownsRow w.heap.size 5 1 (.slice A 512 c) 512 (bys pg) ∧ PgM w' f p nm P mch mcl tch tcl vrow ∧ Below w.heap.size w w')) (by
    rintro e w' ⟨A, n, c, rfl, hn1, hn2, hn3, hn4, hn5⟩
    rw [hlen] at hn1
    subst hn1
    have hn6 : Below w.heap.size w w' := (Below.refl _ w).drew.trans hn5
    have hM := h.below hn6
    exact ⟨A, c, rfl, hM.hd.cell 0, Lib.hid ⟨hn2, hn4, hM, hn6⟩⟩)
  have HRd := Lib.hid hRd2
  have HO := Lib.hid (fun W A c (hr : Rd W W.heap.size 1 A 512 (bys pg)) hc => popen_ok (no : Int) A c pg W hr hc hsum (by simp [fitsB]; omega) (by omega))
  have HP0 := Lib.hid h.hd.lt
  have HH := Lib.hid (And.intro hn (And.intro hN (And.intro hl (And.intro hk (And.intro hr (And.intro hlen hbe))))))
  obtain ⟨R, hR⟩ : ∃ R, R = P.reads := ⟨_, rfl⟩
  obtain ⟨R1, hR1⟩ : ∃ R1, R1 = R + 1 := ⟨_, rfl⟩
  have q2 : IntKind.i64.wrap ((R : Int) + 1) = (R1 : Int) := by rw [IntWalk.i64_in _ (by omega)]; omega
  have HR := Lib.hid (And.intro hR hR1)
  clear h hF hb hr hn hN hl hk hrd hs hpg hlen hsum hbe hX hRd hRd2 hR hR1
  go_enter Tryz.func39, Tryz.ntmps39
  go_wp2_with fail
  go_region_held3 (fun w' => w'.cell? ⟨p, 0, none⟩ = some (.pointer (some ⟨f, 0, none⟩))) (first | exact hS0 | exact hS5 | go_keep)
    (first
      | (go_at_call 33; with_reducible refine HDB.out.mono ?_; rintro e w5 ⟨rfl, hw5⟩; subst hw5)
      | (go_at_call 58; with_reducible refine HRd.out.mono ?_; rintro e w6 ⟨A6, C6, rfl, hS5, H6⟩))
  obtain ⟨hC6, hr6, hM6, hB6⟩ := H6.out
  have c25 : w6.cell? ⟨p, 25, none⟩ = some (.int .i64 (R : Int)) := by rw [HR.out.1]; exact hM6.hd.cell 25
  have f25 := hM6.hd.free 25
  have hb7 : Bk (w6.setCell ⟨p, 25, none⟩ (.int .i64 (R1 : Int))) p 67 (pgC f nm P.now P.last mch mcl vrow R1 P.dead) := pgC_reads f nm P.now P.last mch mcl vrow P.reads R1 P.dead ▸ hM6.hd.set 25 _
  have hc7 : Ch (fun i => i = p) w6 (w6.setCell ⟨p, 25, none⟩ (.int .i64 (R1 : Int))) := (Ch.refl (fun i => i = p) w6).set (p := ⟨p, 25, none⟩) (.inl rfl) _
  have hM7 := hM6.own P.now P.last R1 P.dead hb7 hc7
  have hr7 : Rd (w6.setCell ⟨p, 25, none⟩ (.int .i64 (R1 : Int))) (w6.setCell ⟨p, 25, none⟩ (.int .i64 (R1 : Int))).heap.size 1 A6 512 (bys pg) := Rd.of_own (own_ch hr6 hc7 (fun i hi e => by
    obtain ⟨g, c', hv, h1, h2, _⟩ := own_pos hr6 (by omega)
    rw [hv] at hi
    simp [Value.ownBlock] at hi
    have := HP0.out
    omega))
  have HP := Lib.hid (HO.out _ _ _ hr7 hC6)
  have HM := Lib.hid (And.intro hM7 (And.intro hc7 hB6))
  clear hC6 hr6 hM6 hb7 hc7 hM7 hr7 hS0 hS5
  go_wp2_with fail
  with_reducible refine HP.out.mono ?_
  rintro e w8 ⟨g, rfl, k1, k2, k3⟩
  have hM8 := HM.out.1.below k3
  obtain ⟨hn, hN, hl, hk, hr, hlen, hbe⟩ := HH.out
  rw [← hbe] at k1
  have hB8 : PgB w8 (g, 508, 508) b := .of_bk k1 (by rw [hbe, List.length_take]; omega)
  have HK := Lib.hid (keep_any f p mch mcl no nm _ tch tcl vrow (g, 508, 508) b w8 hM8 hr hN hl hk hB8 hn)
  have H8 := Lib.hid (And.intro k2 (And.intro k3 hB8))
  unfold slV at HK
  clear k1 k2 k3 hM8 hB8 hn hN hl hk hr hlen hbe
  go_wp2_with fail
  with_reducible refine HK.out.mono ?_
  rintro e w9 ⟨rfl, v9, k1, k2, k3⟩
  have H9 := Lib.hid (And.intro k1 (And.intro k2 k3))
  clear k1 k2 k3
  go_wp2_with fail
  go_ret2
  have z6 := HM.out.2.2.size
  have z7 := HM.out.2.1.size
  have z8 := H8.out.2.1.size
  have z8' := H8.out.1
  have hM8 := HM.out.1.below H8.out.2.1
  have k2 : Ch (fun i => i = p ∨ i = mcl ∨ vrow.ownBlock = some i) w w8 := ((Ch.of_below HM.out.2.2 (Nat.le_refl _)).trans HM.out.2.1 (fun i e => .inl (.inl e))).trans (Ch.of_below (S := fun _ => False) H8.out.2.1 (Nat.le_refl _)) (fun i e => e.elim)
  refine ⟨(g, 508, 508), v9, rfl, ?_, H8.out.2.2.heap (H9.out.2.1.block _ H8.out.2.2.lt (hM8.page_ne H8.out.2.2)), k2.trans H9.out.2.1 (fun i hi => .inl hi), fun i hi => ?_, by show w.heap.size ≤ g; omega⟩
  · rw [← HR.out.1, ← HR.out.2]; exact H9.out.1
  · rcases H9.out.2.2 i hi with e | e
    · exact .inl e
    · exact .inr (by omega)
end Go.Proofs.YtoadamkmabkldaaGreatDoor
/- Contracts of package pager: page, whatever it is; what a pager in memory is to be. -/
namespace Go.Proofs.YtoadamkmabkldaaGreatDoor
open Go.RowKit
attribute [local go_sem ↓] Go.wp_at_zero Go.wp_at_succ
/-- A pager as it is to be. -/
structure PgP.Ok (P : PgP) : Prop where
  srt : P.ch.Pairwise fun p q => p.1 < q.1
  chb : ∀ q ∈ P.ch, 1 ≤ q.1 ∧ q.1 < 65536 ∧ q.2.length = 508
  nd : P.row.Nodup
  rl : P.row.length ≤ 16
  rk : ∀ k ∈ P.row, k ≤ 65536
theorem lookup_mem2 {l : List (Nat × List UInt8)} {k : Nat} {b : List UInt8} (h : l.lookup k = some b) : (k, b) ∈ l := by
  induction l with
  | nil => cases h
  | cons q r ih =>
    obtain ⟨j, c⟩ := q
    rw [List.lookup_cons] at h
    by_cases e : k = j
    · subst e
      simp at h
      subst h
      exact List.mem_cons_self ..
    · rw [show (k == j) = false by simpa using e] at h
      exact List.mem_cons_of_mem _ (ih h)
theorem PgP.Ok.put {P : PgP} (h : P.Ok) {k : Nat} {b : List UInt8} (h1 : 1 ≤ k) (h2 : k < 65536) (hb : b.length = 508) (now : HdP) : PgP.Ok { P with now := now, ch := putK k b P.ch } :=
  ⟨sorted_putK k b P.ch h.srt, fun q hq => by
    rcases mem_putK hq with rfl | hq
    · exact ⟨h1, h2, hb⟩
    · exact h.chb q hq, h.nd, h.rl, h.rk⟩
theorem PgP.Ok.len {P : PgP} (h : P.Ok) : P.ch.length ≤ 65536 := by
  have h1 : ∀ (l : List (Nat × List UInt8)) (a : Nat), l.Pairwise (fun p q => p.1 < q.1) → (∀ q ∈ l, a ≤ q.1 ∧ q.1 < 65536) → a ≤ 65536 → l.length ≤ 65536 - a := by
    intro l
    induction l with
    | nil => intro a _ _ _; simp
    | cons q r ih =>
      intro a hs hb ha
      obtain ⟨h2, h3⟩ := List.pairwise_cons.1 hs
      have hq := hb q (List.mem_cons_self ..)
      have := ih (q.1 + 1) h3 (fun s hs => ⟨h2 s hs, (hb s (List.mem_cons_of_mem _ hs)).2⟩) (by omega)
      simp only [List.length_cons]; omega
  have := h1 P.ch 0 h.srt (fun q hq => ⟨Nat.zero_le _, (h.chb q hq).2.1⟩) (by omega)
  omega
theorem keepP_ok {P : PgP} (h : P.Ok) {no : Nat} (b : List UInt8) (reads : Nat) (hr : no ∉ P.row) (hn : no ≤ 65536) : (keepP { P with reads := reads } no b).Ok := by
  have hnd : (P.row ++ [no]).Nodup := by
    rw [List.nodup_append]
    exact ⟨h.nd, by simp, fun a ha c hc => by simp at hc; subst hc; rintro rfl; exact hr ha⟩
  have hk : ∀ k ∈ P.row ++ [no], k ≤ 65536 := fun k hk => by
    rcases List.mem_append.1 hk with e | e
    · exact h.rk k e
    · simp at e; omega
  unfold keepP
  refine ⟨h.srt, h.chb, ?_, ?_, ?_⟩
  · dsimp only
    split
    · exact (List.tail_sublist _).nodup hnd
    · exact hnd
  · dsimp only
    have := h.rl
    split
    · rw [List.length_tail, List.length_append, List.length_singleton]; omega
    · rename_i e; omega
  · dsimp only
    split
    · exact fun k hk2 => hk k (List.mem_of_mem_tail hk2)
    · exact hk
theorem pgR_ok {P : PgP} (h : P.Ok) {no : Nat} (b : List UInt8) (hn : no ≤ 65536) : (pgR P no b).Ok := by
  unfold pgR
  split
  · exact h
  · split
    · exact h
    · rename_i hr; exact keepP_ok h b _ hr hn
theorem pgR_same (P : PgP) (no : Nat) (b : List UInt8) : (pgR P no b).now = P.now ∧ (pgR P no b).last = P.last ∧ (pgR P no b).ch = P.ch ∧ (pgR P no b).dead = P.dead ∧ (pgR P no b).reads ≤ P.reads + 1 := by
  unfold pgR keepP
  split
  · exact ⟨rfl, rfl, rfl, rfl, Nat.le_succ _⟩
  · split
    · exact ⟨rfl, rfl, rfl, rfl, Nat.le_succ _⟩
    · exact ⟨rfl, rfl, rfl, rfl, Nat.le_refl _⟩
/-- What is kept is what the file has. -/
def Kept (P : PgP) (c : Nat → List UInt8) : Prop := ∀ k ∈ P.row, P.cv k = c k
theorem pgR_kept {P : PgP} {c : Nat → List UInt8} (h : Kept P c) (no : Nat) : Kept (pgR P no (c no)) c := by
  unfold pgR
  split
  · exact h
  · split
    · exact h
    · have h1 : ∀ k ∈ P.row ++ [no], (if k = no then c no else P.cv k) = c k := fun k hk => by
        by_cases e : k = no
        · rw [if_pos e, e]
        · rw [if_neg e]
          refine h k ?_
          rcases List.mem_append.1 hk with h | h
          · exact h
          · simp at h; exact absurd h e
      intro k hk
      unfold keepP at hk ⊢
      dsimp only at hk ⊢
      refine h1 k ?_
      split at hk
      · exact List.mem_of_mem_tail hk
      · exact hk
theorem contB_of {P : PgP} {c : Nat → List UInt8} (h : Kept P c) (no : Nat) : contB P no (c no) = (P.ch.lookup no).getD (c no) := by
  unfold contB
  cases P.ch.lookup no with
  | some b => rfl
  | none =>
    dsimp only [Option.getD_none]
    split
    · rename_i hr; exact h no hr
    · rfl
theorem page_at (f p no : Nat) (O1 O2 : Nat → Prop) (S : FsP) (nm : ByteArray) (P : PgP) (b : List UInt8) (w : World) (hA : PgA w O2 f p nm P) (hF : FsA w O1 f S) (hs : nm.size ≤ 100) (hok : P.Ok) (hn : no ≤ 65536) (hrd : P.reads ≤ 1000000)
    (hH : P.ch.lookup no = none → no ∉ P.row → Holds S nm.data.toList no b) :
    Calls Tryz.prog 39 #[.pointer (some ⟨p, 0, none⟩), .int .i64 (no : Int)] w fun e w' => ∃ t, e = .returned (.tuple #[slV t, .int .i64 0]) ∧ PgA w' (fun i => O2 i ∨ w.heap.size ≤ i) f p nm (pgR P no b) ∧ PgB w' t (contB P no b) ∧ Ch O2 w w' ∧ (O2 t.1 ∨ w.heap.size ≤ t.1) := by
  obtain ⟨mch, mcl, tch, tcl, vrow, h, hO⟩ := hA
  unfold pgR contB
  cases hb : P.ch.lookup no with
  | some c =>
    refine (page_ch f p mch mcl no nm P tch tcl vrow c w h hb hn).mono ?_
    rintro e w' ⟨rfl, rfl⟩
    exact ⟨tch no, rfl, ⟨mch, mcl, tch, tcl, vrow, h, fun i hi => .inl (hO i hi)⟩, h.cb no c hb, Ch.refl _ _, .inl (hO _ (.inr (.inr (.inr (.inr (.inl ⟨no, c, hb, rfl⟩))))))⟩
  | none =>
    by_cases hr : no ∈ P.row
    · rw [if_neg (by simp), if_pos hr]
      refine (page_cl f p mch mcl no nm P tch tcl vrow w h hb hr hn).mono ?_
      rintro e w' ⟨rfl, rfl⟩
      exact ⟨tcl no, rfl, ⟨mch, mcl, tch, tcl, vrow, h, fun i hi => .inl (hO i hi)⟩, by simp only [if_pos hr]; exact h.lb no hr, Ch.refl _ _, .inl (hO _ (.inr (.inr (.inr (.inr (.inr ⟨no, hr, rfl⟩))))))⟩
    · rw [if_neg (by simp), if_neg hr]
      refine (page_rd f p mch mcl no O1 S nm P tch tcl vrow b w h hF hs hb hr hn hok.nd hok.rl hok.rk hrd (hH hb hr)).mono ?_
      rintro e w' ⟨t, v2, rfl, h1, h2, h3, h4, h5⟩
      refine ⟨t, rfl, ⟨mch, mcl, tch, _, v2, h1, fun i hi => ?_⟩, by simp only [if_neg hr]; exact h2, h3.mono (fun i hi => ?_), .inr h5⟩
      · rcases hi with e | e | e | e | ⟨k, c, hk, e⟩ | ⟨k, hk, e⟩
        · exact .inl (hO i (.inl e))
        · exact .inl (hO i (.inr (.inl e)))
        · exact .inl (hO i (.inr (.inr (.inl e))))
        · rcases h4 i e with e | e
          · exact .inl (hO i (.inr (.inr (.inr (.inl e)))))
          · exact .inr e
        · exact .inl (hO i (.inr (.inr (.inr (.inr (.inl ⟨k, c, hk, e⟩))))))
        · dsimp only at e
          by_cases e2 : k = no
          · rw [if_pos e2] at e
            exact .inr (by omega)
          · rw [if_neg e2] at e
            refine .inl (hO i (.inr (.inr (.inr (.inr (.inr ⟨k, ?_, e⟩))))))
            unfold keepP at hk
            dsimp only at hk
            have hk2 : k ∈ P.row ++ [no] := by
              split at hk
              · exact List.mem_of_mem_tail hk
              · exact hk
            rcases List.mem_append.1 hk2 with h | h
            · exact h
            · simp at h; exact absurd h e2
      · rcases hi with e | e | e
        · exact hO i (.inl e)
        · exact hO i (.inr (.inr (.inl e)))
        · exact hO i (.inr (.inr (.inr (.inl e))))
end Go.Proofs.YtoadamkmabkldaaGreatDoor
/- append(s, make([]T, n)...), onto a row of the call's own: the translation hands the builtin the number. -/
namespace Go.Proofs.YtoadamkmabkldaaGreatDoor
open Go.RowKit

theorem zeroCells_one (z : Value) (m : Nat) : Builtin.zeroCells #[z] m = (List.replicate m z).toArray := by
  apply Array.ext'
  apply List.ext_getElem?
  intro j
  by_cases hj : j < m
  · simp [Builtin.zeroCells, hj, Nat.mod_one]
  · simp [Builtin.zeroCells, hj]
theorem run_append_zeros {P : Program} (w : World) (base : Nat) (t tn ty e : TypeId) (i : TypeInfo) (z : Value) (bytes : Nat) (k kn : IntKind) (ht : P.underlying t = some (.slice e)) (htn : P.underlying tn = some (.int kn)) (hi : P.info? e = some i) (hz : i.zero = some z)
    (hsize : i.size = 1) (hby : i.bytes = bytes) (hzs : z.cells = #[z]) (hz1 : z.oneCell' = true)
    (v : Value) (n : Nat) (xs : List Value) (hown : w.ownsRow base e 1 v n xs) (m : Nat)
    (h63 : n + m ≤ maxLen) (hbytes : (n + m) * bytes ≤ 140737488355328) (hbase : base ≤ w.heap.size) :
    ∃ v' w', (Builtin.append_ #[t, tn] ty #[v, .int k (m : Int)]).run P w = .ok v' w' ∧ w'.ownsRow base e 1 v' (n + m) (xs ++ List.replicate m z) ∧ w.grownBy w' v.ownBlock ∧
      (v'.ownBlock = v.ownBlock ∨ v'.ownBlock = some w.heap.size) := by
  subst hby
  have hsmall : n + m ≤ 9223372036854775807 := by simp only [maxLen] at h63; omega
  have hw : IntKind.i64.wrap (m : Int) = m := by rw [IntKind.wrap_i64]; omega
  have hxn : xs.length = n := by have := hown.1; omega
  have hlen : (xs ++ List.replicate m z).length = (n + m) * 1 := by simp [hxn]
  have hneg : ¬ ((m : Int) < 0) := by omega
  have hmb : m * i.bytes ≤ (n + m) * i.bytes := Nat.mul_le_mul_right _ (by omega)
  have h48i : ¬ (281474976710656 < (m : Int) * (i.bytes : Int)) := by
    rw [← Int.natCast_mul]; omega
  have hmz : m * 1 = 0 ↔ m = 0 := by omega
  have grown : ∀ (old : Nat), old < n + m → ∀ (row : Option Nat),
      (w.drew.alloc (.cells (xs.toArray ++ (List.replicate m z).toArray ++ Builtin.zeroCells z.cells (grownCap w (n + m) old e - (n + m))) e)).ownsRow base e 1
        (.slice (some ⟨w.heap.size, 0, none⟩) (n + m) (grownCap w (n + m) old e)) (n + m) (xs ++ List.replicate m z) ∧
      w.grownBy (w.drew.alloc (.cells (xs.toArray ++ (List.replicate m z).toArray ++ Builtin.zeroCells z.cells (grownCap w (n + m) old e - (n + m))) e)) row := by
    intro old ho row
    have hge := grownCap_ge w (n + m) old e
    have hcm : grownCap w (n + m) old e ≤ maxLen := grownCap_le_maxLen w (n + m) old e h63
    refine ⟨⟨hlen, .inr ⟨w.heap.size, _, _, rfl, hbase, heap_alloc_new w.drew _, hge, hcm, ?_, ?_⟩⟩, ⟨rfl, rfl, rfl, by simp, fun k hk _ => Below.heap_alloc w.drew _ k hk⟩⟩
    · rw [hzs, zeroCells_one]
      simp [hxn]
      omega
    · simp only [Array.toList_append, List.append_assoc]
      rw [← List.append_assoc, ← hlen]
      exact List.take_left
  rcases hown.2 with ⟨rfl, rfl⟩ | ⟨g, cap, cur, rfl, hbg, hg, hnc, hcm, hcs, htake⟩
  · have hx : xs = [] := List.eq_nil_of_length_eq_zero hxn
    subst hx
    by_cases hm : m = 0
    · subst hm
      refine ⟨.slice none 0 0, w, ?_, World.ownsRow_nil w base e 1, ⟨rfl, rfl, rfl, Nat.le_refl _, fun _ _ _ => rfl⟩, Or.inl rfl⟩
      simp [Builtin.append_, run_underlying ht, run_underlying htn, sizeOf, typeInfo, hi, asInt, asIntOf, IntKind.wrap_i64]
    · have hr := Lib.run_append_nil_zeros (P := P) w t tn ty e i z k kn ht htn hi hz m (by omega) (by omega) (by omega) (by omega)
      have hgr := grown 0 (by omega) (Value.ownBlock (.slice none 0 0))
      rw [hzs, zeroCells_one] at hr
      rw [hzs] at hgr
      simp only [Nat.zero_add, List.nil_append, Array.empty_append] at hgr ⊢
      exact ⟨_, _, hr, hgr.1, hgr.2, Or.inr rfl⟩
  · by_cases hroom : n + m ≤ cap
    · have hfit : n + (List.replicate m z).length ≤ cur.size := by rw [List.length_replicate]; omega
      have hst := run_storeCells_at P g n e (List.replicate m z) 0 cur w hg (by simpa using hfit) (by intro u hu; rw [List.eq_of_mem_replicate hu]; exact hz1)
      simp only [Nat.add_zero] at hst
      refine ⟨.slice (some ⟨g, 0, none⟩) (n + m) cap, w.setRow g (cur.toList.take n ++ List.replicate m z ++ cur.toList.drop (n + (List.replicate m z).length)).toArray, ?_,
        ⟨hlen, .inr ⟨g, cap, _, rfl, hbg, setRow_heap w g cur _ e _ hg, hroom, hcm, ?_, ?_⟩⟩, ⟨rfl, rfl, rfl, by simp, fun k _ hk => setRow_other w g k _ (fun e => hk (by simp [Value.ownBlock, e]))⟩, Or.inl rfl⟩
      · by_cases hm : m = 0
        · subst hm
          simp at hst
          simp [Builtin.append_, run_underlying ht, run_underlying htn, sizeOf, typeInfo, hi, asInt, asIntOf, IntKind.wrap_i64, hnc, storeCells, Addr.add_lit]
          simpa [storeCells] using hst
        · simp [Builtin.append_, run_underlying ht, run_underlying htn, sizeOf, typeInfo, zeroValue, hi, hz, hsize, asInt, asIntOf, hw, hneg, h48i, hroom, hm, hzs, zeroCells_one, Addr.add_lit]
          rw [hst]
          simp
      · simp only [List.size_toArray, List.length_append, List.length_take, List.length_drop, Array.length_toList, List.length_replicate]
        omega
      · have ht2 : cur.toList.take n = xs := by rw [← htake]; congr 1; omega
        rw [ht2, ← hlen]
        exact List.take_left
    · have holds : ∀ j u, xs[j]? = some u → w.cell? ((⟨g, 0, none⟩ : Addr).add j) = some u := hown.cells (g := g) rfl
      have hfo := run_firstCells_some (P := P) w.drew i.size n ⟨g, 0, none⟩ n cap xs (by rw [hsize]; omega) (by simpa using holds)
      have hfit := growslice_fits (show cap < n + m by omega) hbytes
      have hgr := grown cap (by omega) (Value.ownBlock (.slice (some ⟨g, 0, none⟩) n cap))
      have h63' : ¬ (9223372036854775807 < ((n : Int) + (m : Int))) := by omega
      have hm : ¬ m = 0 := by omega
      refine ⟨_, _, ?_, hgr.1, hgr.2, Or.inr rfl⟩
      rw [hsize] at hfo
      have h48' : ¬ (281474976710656 < Builtin.nextslicecap (n + m) cap * i.bytes) := by omega
      simp [Builtin.append_, run_underlying ht, run_underlying htn, sizeOf, typeInfo, zeroValue, hi, hz, hsize, asInt, asIntOf, hw, hneg, h48i, hroom, hm, hzs, zeroCells_one, h63', h48', Question.forced, hfo, newRow, grownCap]
/-- Likewise, at the operation, of bytes. -/
theorem ap_zeros {w w0 : World} {ops : Array Oper} {rest : List Oper} {a : Act} {Q : Exit → Act → World → Prop} {d : Option Tmp} {ty : TypeId} {pos : String} {af : Array Edge} {g : Option (Nat × Bool)} {s x : Operand} {base : Nat}
    {v : Value} {n : Nat} {xs : List UInt8} (hown : w.ownsRow base 5 1 v n (bys xs)) (m : Nat) (y : Int) (hy : y = m)
    (hb : Below base w0 w) (hbase : base ≤ w.heap.size) (hbytes : n + m ≤ 140737488355328)
    (hs : a.eval s = v) (hx : a.eval x = .int .i64 y)
    (hw : Region.wanted { dst := d, op := .call { callee := .builtin .append, args := #[s, x], argTypes := #[22, 3] }, type := ty, pos := pos, after := af, guard := g } (yielded ops a.tmps) = true)
    (h : ∀ v' w', w'.ownsRow base 5 1 v' (n + m) (bys (xs ++ List.replicate m 0)) → Below base w0 w' → w.grownBy w' v.ownBlock → (v'.ownBlock = v.ownBlock ∨ v'.ownBlock = some w.heap.size) → wpList Tryz.prog ops Q rest (a.put d v') w') :
    wpList Tryz.prog ops Q ({ dst := d, op := .call { callee := .builtin .append, args := #[s, x], argTypes := #[22, 3] }, type := ty, pos := pos, after := af, guard := g } :: rest) a w := by
  subst hy
  obtain ⟨i0, hi, hz0, hz1, hz2⟩ := info_parts infoB
  refine BigFrame.wpList_want hw fun _ hK => ?_
  obtain ⟨v', w', hrun, h2, h3, h4⟩ := run_append_zeros (P := Tryz.prog) w base 22 3 ty 5 i0 (.int .u8 0) 1 .i64 .i64 Tryz.underlying22 Tryz.underlying3 hi hz0 hz1 hz2 rfl rfl v n (bys xs) hown m (by unfold maxLen; omega) (by omega) hbase
  unfold Oper.wp execOp
  simp only [resolve, invoke, builtin, Sem.run_bind, Sem.run_pure, Result.andThen_ok, List.map_toArray, List.map_cons, List.map_nil, hs, hx, hrun]
  exact hK _ _ (h v' w' (by rw [bys_app, show bys (List.replicate m 0) = List.replicate m (Value.int .u8 0) by simp [bys]]; exact h2) (hb.grown h3 hbase (fun k hk => (hown.lt k hk).1)) h3 h4)
end Go.Proofs.YtoadamkmabkldaaGreatDoor
