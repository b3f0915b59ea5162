/- Contracts of layer 5's law and reference: may, pow, bitsOf. -/
import Derived.Test.YtnedboomhbdecaaHuf3
import Derived.Test.YtnedboomhbdecaaHufQ
import Derived.Laws.OwnMore
import Derived.Deep.OwnRows
namespace Go.Proofs.Ytnedboomhbdecaa
open Go.RowKit
attribute [local go_sem ↓] Go.wp_at_zero Go.wp_at_succ

theorem made_its (n : Nat) : madeCells #[Value.int .i64 0] n = (its (List.replicate n 0)).toArray := by
  apply Array.ext'
  rw [toList_madeCells_one]
  simp [its]
/-- make([]int, n). -/
theorem mk_its (n : Nat) (x y : Int) (hx : x = n) (hy : y = n) (hn : n ≤ 100000000) (w : World) :
    (Instr.makeSlice 32 (.int .i64 x) (.int .i64 y)).run Try.prog w = .ok (.slice (some ⟨w.heap.size, 0, none⟩) n n) (w.alloc (.cells (its (List.replicate n 0)).toArray 3)) := by
  subst hx hy
  rw [← made_its]
  exact run_make_row' (P := Try.prog) 32 3 (.int .i64 0) 8 Try.underlying32 infoI rfl .i64 .i64 n (by omega) (by omega) w
theorem its_set (l : List Int) (j : Nat) (x : Int) : (its l).set j (.int .i64 x) = its (l.set j x) := by simp [its, List.map_set]
theorem own_seti {w : World} {base g n c : Nat} {e : TypeId} {l : List Int} (h : w.ownsRow base e 1 (.slice (some ⟨g, 0, none⟩) n c) n (its l)) (j : Nat) (x : Int) :
    (w.setCell ⟨g, j, none⟩ (.int .i64 x)).ownsRow base e 1 (.slice (some ⟨g, 0, none⟩) n c) n (its (l.set j x)) ∧ w.grownBy (w.setCell ⟨g, j, none⟩ (.int .i64 x)) (some g) := by
  have := h.stored j (.int .i64 x)
  rwa [its_set] at this
theorem own_num {w : World} {base g n c : Nat} {e : TypeId} {l : List Int} (h : w.ownsRow base e 1 (.slice (some ⟨g, 0, none⟩) n c) n (its l)) {j : Nat} (hj : j < n) : w.cell? ⟨g, j, none⟩ = some (.int .i64 (l[j]?.getD 0)) := by
  rw [h.cellAt j (by omega)]
  have hl : l.length = n := by have := h.1; rw [its_len] at this; omega
  simp [its, List.getElem?_eq_getElem (show j < l.length by omega)]
set_option maxHeartbeats 1000000 in
theorem hmay_any (A : Option Addr) (n c : Nat) (l : List Int) (w : World) (hr : Rd w w.heap.size 1 A n (its l)) (hn : n ≤ 1099511627776) :
    Calls Try.prog 24 #[.slice A n c] w fun e w' => e = .returned (.bool (mayB l)) ∧ w' = w := by
  have Hl := Lib.hid hr.ilen
  go_enter Try.func24, Try.ntmps24
  go_wp2_with fail
  go_loop [7] (fun i => ∃ j : Nat, j ≤ n ∧ i = .int .i64 j ∧ Hid (∀ x ∈ l.take j, 0 ≤ x ∧ x ≤ 15)) (fun i => n - (intOf i).toNat)
  case atStart => exact ⟨0, Nat.zero_le _, rfl, Lib.hid (by simp)⟩
  case round =>
    obtain ⟨j, hj, rfl, hall⟩ := hrel
    by_cases hlt : j < n
    · obtain ⟨b, o, x, rfl, hbb, hx, hcx⟩ := hr.num hlt
      by_cases hx0 : x < 0
      · have hno := may_no hx (.inl hx0)
        have Hno := Lib.hid hno
        have g1 : decide (x < 0) = true := by simpa using hx0
        clear hno hx
        go_wp2
        go_ret
        exact ⟨ret_bool (by rw [Hno.out]), rfl⟩
      have g1 : decide (x < 0) = false := by simpa using hx0
      by_cases hx15 : 15 < x
      · have hno := may_no hx (.inr hx15)
        have Hno := Lib.hid hno
        have g2 : decide (15 < x) = true := by simpa using hx15
        clear hno hx
        go_wp2
        go_ret
        exact ⟨ret_bool (by rw [Hno.out]), rfl⟩
      have g2 : decide (15 < x) = false := by simpa using hx15
      have hts := take_step hx
      have hall' : ∀ y ∈ l.take (j + 1), 0 ≤ y ∧ y ≤ 15 := by
        rw [hts]; intro y hy
        rcases List.mem_append.1 hy with h | h
        · exact hall.out y h
        · simp at h; subst h; omega
      have Hall := Lib.hid hall'
      clear hx hts hall' hall
      go_wp2_with fail
      go_round
      case rel => exact ⟨j + 1, by omega, by go_num, Hall⟩
      case measure => simp [intOf]; omega
    · have : j = n := by omega
      subst this
      have hm : mayB l = decide ((j : Int) ≤ 320) := by
        unfold mayB
        have h := hall.out
        rw [List.take_of_length_le (by have := Hl.out; omega)] at h
        have h2 : l.all (fun n => decide (0 ≤ n) && decide (n ≤ 15)) = true := by
          simp only [Bool.and_eq_true, List.all_eq_true, decide_eq_true_eq]; exact h
        rw [h2, Bool.true_and, decide_eq_decide, Hl.out]
        omega
      have Hm := Lib.hid hm
      clear hm hall
      go_wp2
      go_ret
      exact ⟨ret_bool (by rw [Hm.out]), rfl⟩
theorem pow_any (n : Nat) (w : World) (hn : n ≤ 16) :
    Calls Try.prog 57 #[.int .i64 n] w fun e w' => e = .returned (.int .i64 ((2 ^ n : Nat) : Int)) ∧ w' = w := by
  go_enter Try.func57, Try.ntmps57
  go_wp2_with fail
  go_loop [3, 4] (fun p i => ∃ j P : Nat, j ≤ n ∧ i = .int .i64 j ∧ p = .int .i64 P ∧ P ≤ 65536 ∧ Hid (P = 2 ^ j)) (fun _ i => n - (intOf i).toNat)
  case atStart => exact ⟨0, 1, Nat.zero_le _, rfl, rfl, by omega, rfl⟩
  case round =>
    obtain ⟨j, P, hj, rfl, rfl, hP, hp⟩ := hrel
    by_cases hlt : j < n
    · have hp2 : 2 * P = 2 ^ (j + 1) := by rw [hp.out, Nat.pow_succ]; omega
      have hb : 2 * P ≤ 65536 := by rw [hp2]; exact Nat.pow_le_pow_right (show 0 < 2 by omega) (show j + 1 ≤ 16 by omega)
      have Hp2 := Lib.hid hp2
      clear hp2 hp
      go_wp2_with fail
      go_round
      case rel => exact ⟨j + 1, 2 * P, by omega, by go_num, by go_num, hb, Hp2⟩
      case measure => simp [intOf]; omega
    · have : j = n := by omega
      subst this
      go_wp2
      go_ret
      exact ⟨ret_int (by rw [hp.out]; simp), rfl⟩
set_option maxHeartbeats 1000000 in
theorem bitsOf_any (n : Nat) (v : Int) (w : World) (hn : n ≤ 15) (hv : 0 ≤ v) (hv2 : v ≤ 9223372036854775807) :
    Calls Try.prog 56 #[.int .i64 n, .int .i64 v] w fun e w' => ∃ v', e = .returned v' ∧ w'.ownsRow w.heap.size 3 1 v' n (its (bitsL n v)) ∧ Below w.heap.size w w' := by
  have hmk := mk_its n n n rfl rfl (by omega)
  have hst : (w.alloc (.cells (its (List.replicate n 0)).toArray 3)).ownsRow w.heap.size 3 1 (.slice (some ⟨w.heap.size, 0, none⟩) n n) n (its (List.replicate n 0)) :=
    ⟨by simp [its_len], .inr ⟨w.heap.size, n, _, rfl, Nat.le_refl _, heap_alloc_new w _, Nat.le_refl _, by unfold maxLen; omega, by simp [its_len], by simp [its]⟩⟩
  have Hst := Lib.hid hst
  clear hst
  go_enter Try.func56, Try.ntmps56
  go_wp2_with fail
  clear hmk
  generalize hg : w.heap.size = g at *
  have Hg := Lib.hid hg
  clear hg
  go_loopw [1, 6] (fun vv i wr => ∃ (k : Nat) (u : Int), k ≤ n ∧ i = .int .i64 ((n : Int) - 1 - k) ∧ vv = .int .i64 u ∧ 0 ≤ u ∧ u ≤ 9223372036854775807 ∧ Hid (u = v / 2 ^ k) ∧ wr.ownsRow g 3 1 (.slice (some ⟨g, 0, none⟩) n n) n (its (List.replicate (n - k) 0 ++ bitsL k v)) ∧ Below g w wr) (fun _ i _ => (intOf i + 1).toNat)
  case atStart =>
    refine ⟨0, v, Nat.zero_le _, by simp, rfl, hv, hv2, Lib.hid (by simp), ?_, ?_⟩
    · have := Hst.out
      simpa [bitsL] using this
    · exact (by rw [← Hg.out]; exact (Below.refl _ _).alloc (Nat.le_refl _) _)
  case round =>
    obtain ⟨k, u, hk, rfl, rfl, hu0, hu1, hu, hown, hbw⟩ := hrel
    clear Hst
    by_cases hlt : k < n
    · obtain ⟨i, hi⟩ : ∃ i : Nat, n - 1 - k = i := ⟨_, rfl⟩
      have hii : (n : Int) - 1 - (k : Int) = (i : Int) := by omega
      have hin : i < n := by omega
      rw [hii]
      have hset := (own_seti hown i (u % 2)).1
      have hc0 := own_num hown hin
      have hf0 := hown.frozenAt i
      have hrow : (List.replicate (n - k) 0 ++ bitsL k v).set i (u % 2) = List.replicate (n - (k + 1)) 0 ++ bitsL (k + 1) v := by
        rw [bitsL_cons, show n - k = (n - (k + 1)) + 1 by omega, List.replicate_succ', List.append_assoc, List.set_append_right _ _ (by simp; omega)]
        rw [show i - (List.replicate (n - (k + 1)) (0 : Int)).length = 0 by simp; omega, hu.out]
        rfl
      rw [hrow] at hset
      have hu2 : u / 2 = v / 2 ^ (k + 1) := by rw [hu.out, Int.ediv_ediv_of_nonneg (by exact Int.le_of_lt (Int.pow_pos (by omega)) : (0 : Int) ≤ 2 ^ k), Int.pow_succ]
      have Hset := Lib.hid hset
      have Hu2 := Lib.hid hu2
      have hbs := hbw.setCell (p := ⟨g, i, none⟩) (Nat.le_refl _) (.int .i64 (u % 2))
      have Hbs := Lib.hid hbs
      have e1 : (i : Int) < (n : Int) := by omega
      have e2 : (0 : Int) ≤ (i : Int) := by omega
      clear hset hrow hu2 hown hbs hu
      go_wp2_with fail
      go_roundw
      case rel => exact ⟨k + 1, u / 2, by omega, congrArg (Value.int .i64) (by omega), rfl, by omega, by omega, Hu2, Hset.out, Hbs.out⟩
      case measure => simp only [intOf]; omega
    · have : k = n := by omega
      subst this
      have hfin : wr.ownsRow g 3 1 (.slice (some ⟨g, 0, none⟩) k k) k (its (bitsL k v)) := by
        have := hown
        rw [Nat.sub_self] at this
        exact this
      have hneg : ¬ (0 : Int) ≤ (k : Int) - 1 - (k : Int) := by omega
      have Hfin := Lib.hid hfin
      clear hown hfin hu
      go_wp2
      go_ret
      exact ⟨_, rfl, by rw [Hg.out]; exact Hfin.out, by rw [Hg.out]; exact hbw⟩
end Go.Proofs.Ytnedboomhbdecaa
