/- The example of the record statements: End of a tail of zeros. -/
import Derived.Test.YtbdehlphblbmoaaRec9
namespace Go.Proofs.Ytbdehlphblbmoaa
open Go.RowKit
attribute [local go_sem ↓] Go.wp_at_zero Go.wp_at_succ

set_option maxHeartbeats 400000 in
theorem may_zero (A : Option Addr) (n c : Nat) (b : Int) (w : World) (hr : Rd w w.heap.size 1 A n (its (List.replicate n 0))) (hn : n ≤ 1000000) (hb : 0 < b) :
    Calls Try.prog 30 #[.bool false, .int .i64 b, .slice A n c] w fun e w' => e = .returned (.bool true) ∧ w = w' := by
  go_enter Try.func30, Try.ntmps30
  go_wp2
  go_loop [12] (fun i => ∃ k : Nat, k ≤ n ∧ i = .int .i64 k) (fun i => n - (intOf i).toNat)
  case atStart => exact ⟨0, Nat.zero_le _, rfl⟩
  case round =>
    obtain ⟨k, hk, rfl⟩ := hrel
    by_cases hlt : k < n
    · obtain ⟨b0, o, u, rfl, hb0, hu, hc⟩ := hr.num hlt
      obtain rfl : u = 0 := by rw [List.getElem?_replicate, if_pos hlt] at hu; injection hu with hu; exact hu.symm
      clear hr hu
      go_wp2
      go_round
      case rel => exact ⟨k + 1, by omega, by go_num⟩
      case measure => simp [intOf]; omega
    · go_wp2
      go_ret
      exact ⟨rfl, rfl⟩
set_option maxHeartbeats 400000 in
theorem sput_any (x y : UInt8) (w : World) :
    Calls Try.prog 34 #[sgV x y] w fun e w' => ∃ v, e = .returned v ∧ w'.ownsRow w.heap.size 5 1 v 4 (bys [80, 75, x, y]) ∧ Below w.heap.size w w' := by
  unfold sgV
  have hrow := Rd.lits w 51 #[.int .u8 80, .int .u8 75, .int .u8 (x.toNat : Int), .int .u8 (y.toNat : Int)] (n := 4) rfl (fr := (0, 0))
  have hrow2 : Rd (w.alloc (.cells #[.int .u8 80, .int .u8 75, .int .u8 (x.toNat : Int), .int .u8 (y.toNat : Int)] 51)) (w.heap.size + 1) 1 (some ⟨w.heap.size, 0, none⟩) 4 (bys [80, 75, x, y]) := hrow
  have Hrow := Lib.hid hrow2
  clear hrow hrow2
  go_enter Try.func34, Try.ntmps34
  go_wp2_with (at_builtin; refine ap_bys (base := w.heap.size) (w0 := w) (own_nilB _ _ _) (Hrow.out) ((Below.refl _ _).alloc (Nat.le_refl _) _) (by simp) (by decide) (by rfl) (by rfl) (by rfl) ?_; intro v' w' h1 h2 h3 h4)
  go_ret
  exact ⟨_, rfl, by simpa using h1, h2⟩
/-- Cells of zeros, as ints. -/
theorem Rd.zeros (w : World) (t : TypeId) (cs : Array Value) {n : Nat} (h : cs.toList = its (List.replicate n 0)) {fr : Nat × Nat} : Rd (w.alloc (.cells cs t fr)) (w.alloc (.cells cs t fr)).heap.size 1 (some ⟨w.heap.size, 0, none⟩) n (its (List.replicate n 0)) := by
  have hs : cs.size = n := by rw [← Array.length_toList, h, its_len]; simp
  have := Rd.lits w t cs hs (fr := fr)
  rw [h] at this
  exact this.more (by simp)
theorem Rd.zeros' (w : World) (t : TypeId) (cs : Array Value) {n g : Nat} (h : cs.toList = its (List.replicate n 0)) (hg : g = w.heap.size) {fr : Nat × Nat} : Rd (w.alloc (.cells cs t fr)) (w.alloc (.cells cs t fr)).heap.size 1 (some ⟨g, 0, none⟩) n (its (List.replicate n 0)) := by
  rw [hg]; exact Rd.zeros w t cs h
set_option maxHeartbeats 1000000 in
theorem end_zero (w : World) :
    Calls Try.prog 14 #[.agg #[.int .i64 0, .int .i64 0, .int .i64 0, .bool false], .int .i64 0] w fun e w' => ∃ v, e = .returned (.tuple #[v, .int .i64 0]) ∧ w'.ownsRow w.heap.size 5 1 v 22 (bys (putB (putB (putB [80, 75, 5, 6] 2 [0, 0, 0, 0]) 4 [0, 0]) 2 [0])) ∧ Below w.heap.size w w' := by
  go_enter Try.func14, Try.ntmps14
  go_wp2_with fail
  refine (may_zero (some ⟨w.heap.size + 1, 0, none⟩) 1 _ _ _ (Rd.zeros' _ _ _ rfl (by simp)) (by omega) (by omega)).mono ?_
  rintro e w1 ⟨rfl, rfl⟩
  go_wp2_with fail
  refine (may_zero (some ⟨w.heap.size + 2, 0, none⟩) 2 _ _ _ (Rd.zeros' _ _ _ rfl (by simp)) (by omega) (by omega)).mono ?_
  rintro e w1 ⟨rfl, rfl⟩
  go_wp2_with fail
  refine (tail_any _).mono ?_
  rintro e w1 ⟨rfl, hb1⟩
  have hB := Bk.below (Bk.alloc (Bk.alloc (Bk.new w 25 #[.int .i64 0, .int .i64 0, .int .i64 0, .bool false]) _) _) hb1 (by simp <;> omega)
  have hb1' : Below w.heap.size w w1 := ((((Below.refl _ _).alloc (Nat.le_refl _) _).alloc (by simp) _).alloc (by simp <;> omega) _).trans (hb1.mono (by simp <;> omega))
  have hz1 := hb1.size
  simp only [World.size_alloc] at hz1
  clear hb1
  go_wp2_with fail
  refine (sput_any 5 6 _).mono ?_
  rintro e w2 ⟨v2, rfl, hown2, hb2⟩
  have hB2 := Bk.below hB hb2 hB.lt
  have ho2 := own_base hown2 (base' := w.heap.size) (by omega)
  have hb2' := hb1'.trans (hb2.mono (by omega))
  have t0 : w2.cell? ⟨w.heap.size, 0, none⟩ = some (.int .i64 0) := hB2.cell 0
  have t1 : w2.cell? ⟨w.heap.size, 1, none⟩ = some (.int .i64 0) := hB2.cell 1
  have t2 : w2.cell? ⟨w.heap.size, 2, none⟩ = some (.int .i64 0) := hB2.cell 2
  have hz2 := hb2.size
  obtain ⟨A2, c2, rfl, hc2, hm2⟩ := own_form hown2
  have hr2 := (Rd.of_own hown2)
  have Hr2 := Lib.hid hr2
  clear hb2 hB hown2 hb1' hr2 ho2
  go_wp2_with ((at_builtin; refine ap_bys (base := w.heap.size) (w0 := w) (own_nilB _ _ _) Hr2.out hb2' (by omega) (by decide) (by rfl) (by rfl) (by rfl) ?_; intro v3 w3 hown3 hb3 hg3 hat3; have hB3 := Bk.grown hB2 hg3 (by simp [Value.ownBlock]); have s0 : w3.cell? ⟨w.heap.size, 0, none⟩ = some (.int .i64 0) := hB3.cell 0; obtain ⟨A3, c3, rfl, hc3, hm3⟩ := own_form hown3))
  have hb3z := hb3.size
  have hr3 := Rd.of_own hown3
  refine (put_any A3 (some ⟨w3.heap.size, 0, none⟩) 4 c3 4 4 2 _ _ _ ((hr3.alloc (Nat.le_refl _) _).more (by simp)) (Rd.zeros' w3 3 #[.int .i64 0, .int .i64 0, .int .i64 0, .int .i64 0] (n := 4) rfl rfl) (by omega) (by omega)).mono ?_
  rintro e w4 ⟨v4, rfl, hown4, hb4⟩
  rw [show (wid 2).toNat = 2 by decide] at hown4
  obtain ⟨A4, c4, rfl, hc4, hm4⟩ := own_form hown4
  have hr4 := Rd.of_own hown4
  have hB4 := Bk.below (Bk.alloc hB3 _) hb4 (by have := hB3.lt; simp <;> omega)
  have s1 : w4.cell? ⟨w.heap.size, 1, none⟩ = some (.int .i64 0) := hB4.cell 1
  have s2 : w4.cell? ⟨w.heap.size, 2, none⟩ = some (.int .i64 0) := hB4.cell 2
  have hb4' := (hb3.alloc hb3z _).trans (hb4.mono (by simp <;> omega))
  have hz4 := hb4'.size
  clear hb4 hown3 hr3 hB3 hg3 hat3 s0 t0 t1 t2 hB2
  go_wp2_with fail
  refine (put_any A4 (some ⟨w4.heap.size, 0, none⟩) (4 + 4 * 2) c4 2 2 4 _ _ _ ((hr4.alloc (Nat.le_refl _) _).more (by simp)) (Rd.zeros' w4 3 #[.int .i64 0, .int .i64 0] (n := 2) rfl rfl) (by omega) (by omega)).mono ?_
  rintro e w5 ⟨v5, rfl, hown5, hb5⟩
  rw [show (wid 4).toNat = 4 by decide] at hown5
  obtain ⟨A5, c5, rfl, hc5, hm5⟩ := own_form hown5
  have hr5 := Rd.of_own hown5
  have hb5' := (hb4'.alloc hz4 _).trans (hb5.mono (by simp <;> omega))
  have hz5 := hb5'.size
  clear hb5 hown4 hr4 hB4 s1 s2 hown5
  go_wp2_with fail
  refine (put_any A5 (some ⟨w5.heap.size, 0, none⟩) (4 + 4 * 2 + 2 * 4) c5 1 1 2 _ _ _ ((hr5.alloc (Nat.le_refl _) _).more (by simp)) (Rd.zeros' w5 3 #[.int .i64 0] (n := 1) rfl rfl) (by omega) (by omega)).mono ?_
  rintro e w6 ⟨v6, rfl, hown6, hb6⟩
  rw [show (wid 2).toNat = 2 by decide] at hown6
  have hb6' := (hb5'.alloc hz5 _).trans (hb6.mono (by simp <;> omega))
  clear hb6 hr5
  go_wp2_with fail
  go_ret2
  exact ⟨_, rfl, own_base hown6 (by simp <;> omega), hb6'⟩
set_option maxHeartbeats 1000000 in
theorem rec_wakes (w : World) : Calls Try.prog 5 #[] w fun e w' => e = .returned (.bool true) ∧ Below w.heap.size w w' := by
  go_enter Try.func5, Try.ntmps5
  go_wp2_with fail
  refine (end_zero _).mono ?_
  rintro e w1 ⟨v1, rfl, hown1, hb1⟩
  obtain ⟨g1, c1, rfl, hg1, hgl1, hcc1⟩ := own_pos hown1 (by omega)
  have d2 := own_byte hown1 (j := 2) (by omega)
  have e5 : (((putB (putB (putB [80, 75, 5, 6] 2 [0, 0, 0, 0]) 4 [0, 0]) 2 [0])[2]?.getD 0).toNat : Int) = 5 := by decide
  rw [e5] at d2
  clear hown1 e5
  go_wp2_with fail
  go_ret
  exact ⟨rfl, hb1⟩
set_option maxHeartbeats 1000000 in
theorem eql_tail (W : World) (a b c : Int) (d : Bool) : (binOp .eql 25 (.agg #[.int .i64 a, .int .i64 b, .int .i64 c, .bool d]) (.agg #[.int .i64 a, .int .i64 b, .int .i64 c, .bool d])).run Try.prog W = .ok (.bool true) W := by
  have hu := Try.underlying25
  have hu2 : Try.prog.underlying 25 = some (.struct (Try.prog.fieldsOf 25)) := by unfold Program.fieldsOf; rw [hu]
  rw [run_eql_struct, run_equalIn_agg W 9999 25 _ _ hu2 (by kernel_rfl)]
  unfold Program.fieldsOf
  rw [hu]
  simp [Op.eqFields, part, isAgg, run_underlying Try.underlying3, run_underlying Try.underlying4, fun W a b => run_equalIn_int (P := Try.prog) W 9998 3 .i64 .i64 a b Try.underlying3, fun W a b => run_equalIn_bool' (P := Try.prog) W 9998 4 a b Try.underlying4]
set_option maxHeartbeats 1000000 in
theorem recordFinds_walk (A : Option Addr) (n c : Nat) (L : List UInt8) (w : World) (hr : Rd w w.heap.size 1 A n (bys L)) (hnc : n ≤ c) (hcm : c ≤ maxLen) :
    Calls Try.prog 3 #[.slice A n c] w fun e w' => e = .returned (.bool true) ∧ Below w.heap.size w w' := by
  have hnm : n ≤ maxLen := by omega
  unfold maxLen at hnm hcm
  have Hr := Lib.hid hr
  clear hr
  go_enter Try.func3, Try.ntmps3
  go_wp2_with fail
  refine (rec_wakes _).mono ?_
  rintro e w1 ⟨rfl, hb1⟩
  by_cases hbig : 70000 < n
  · go_wp2_with fail
    go_ret
    exact ⟨rfl, hb1⟩
  · have hf := find_any A n c L w1 ((Hr.out.below hb1 (Nat.le_refl _)).more hb1.size) hnc (by omega)
    have Hf := Lib.hid hf
    have hz1 := hb1.size
    clear hf
    go_wp2_with fail
    refine Hf.out.mono ?_
    rintro e w2 ⟨hp, hb2⟩
    have hb12 := hb1.trans (hb2.mono hz1)
    have hz2 := hb12.size
    clear Hf hb2 hb1 hz1
    rcases hF : findF L with _ | ⟨⟨t0, t1, t2⟩, wd⟩
    · rw [hF] at hp
      obtain rfl : e = .returned (.tuple #[.agg #[.int .i64 0, .int .i64 0, .int .i64 0, .bool false], .int .i64 4]) := hp
      have hrf := rfind_any A n c L (w2.alloc (.cells #[.int .i64 0, .int .i64 0, .int .i64 0, .bool false] 25)) (((Hr.out.below hb12 (Nat.le_refl _)).alloc hz2 _).more (by simp <;> omega)) hnc (by omega)
      rw [hF] at hrf
      have Hrf := Lib.hid hrf
      clear hrf hF
      go_wp2_with fail
      refine Hrf.out.mono ?_
      rintro e w3 ⟨hp, hb3⟩
      obtain rfl : e = .returned (.agg #[.int .i64 0, .int .i64 0, .int .i64 0, .bool false, .bool false]) := hp
      have hT := Bk.below (Bk.new w2 25 #[.int .i64 0, .int .i64 0, .int .i64 0, .bool false]) hb3 (by simp)
      have u0 : w3.cell? ⟨w2.heap.size, 0, none⟩ = some (.int .i64 0) := hT.cell 0
      have u1 : w3.cell? ⟨w2.heap.size, 1, none⟩ = some (.int .i64 0) := hT.cell 1
      have u2 : w3.cell? ⟨w2.heap.size, 2, none⟩ = some (.int .i64 0) := hT.cell 2
      have u3 : w3.cell? ⟨w2.heap.size, 3, none⟩ = some (.bool false) := hT.cell 3
      have hlt := hT.lt
      have heq := fun W => eql_tail W 0 0 0 false
      have hb3' := (hb12.alloc hz2 _).trans (hb3.mono (by simp <;> omega))
      have hz3 := hb3'.size
      clear hb3 hT
      go_wp2
      go_ret
      exact ⟨rfl, hb3'.alloc hz3 _⟩
    · rw [hF] at hp
      obtain rfl : e = .returned (.tuple #[.agg #[.int .i64 t0, .int .i64 t1, .int .i64 t2, .bool wd], .int .i64 0]) := hp
      have hrf := rfind_any A n c L (w2.alloc (.cells #[.int .i64 t0, .int .i64 t1, .int .i64 t2, .bool wd] 25)) (((Hr.out.below hb12 (Nat.le_refl _)).alloc hz2 _).more (by simp <;> omega)) hnc (by omega)
      rw [hF] at hrf
      have Hrf := Lib.hid hrf
      clear hrf hF
      go_wp2_with fail
      refine Hrf.out.mono ?_
      rintro e w3 ⟨hp, hb3⟩
      obtain rfl : e = .returned (.agg #[.int .i64 t0, .int .i64 t1, .int .i64 t2, .bool wd, .bool true]) := hp
      have hT := Bk.below (Bk.new w2 25 #[.int .i64 t0, .int .i64 t1, .int .i64 t2, .bool wd]) hb3 (by simp)
      have u0 : w3.cell? ⟨w2.heap.size, 0, none⟩ = some (.int .i64 t0) := hT.cell 0
      have u1 : w3.cell? ⟨w2.heap.size, 1, none⟩ = some (.int .i64 t1) := hT.cell 1
      have u2 : w3.cell? ⟨w2.heap.size, 2, none⟩ = some (.int .i64 t2) := hT.cell 2
      have u3 : w3.cell? ⟨w2.heap.size, 3, none⟩ = some (.bool wd) := hT.cell 3
      have hlt := hT.lt
      have heq := fun W => eql_tail W t0 t1 t2 wd
      have hb3' := (hb12.alloc hz2 _).trans (hb3.mono (by simp <;> omega))
      have hz3 := hb3'.size
      clear hb3 hT
      go_wp2
      go_ret
      exact ⟨rfl, hb3'.alloc hz3 _⟩
end Go.Proofs.Ytbdehlphblbmoaa
