/- Contracts of package glob: what fits a part. -/
import Derived.Test.YtbdehlphblbmoaaDoorGlbA
namespace Go.Proofs.YtbdehlphblbmoaaDoor
open Go.RowKit
attribute [local go_sem ↓] Go.wp_at_zero Go.wp_at_succ

/-- A part in memory. -/
def PtV (W : World) (B : Nat) : PtP → Value → Prop
  | .lit r, v => v = .iface 75 (.int .i32 r)
  | .one, v => v = .iface 93 (.agg #[])
  | .stars d, v => v = .iface 64 (.agg #[.bool d])
  | .cls n rs, v => ∃ A c A2 c2, v = .iface 102 (.agg #[.bool n, .slice A rs.length c, .slice A2 rs.length c2]) ∧ Rd W B 1 A rs.length (rns (rs.map (·.1))) ∧ Rd W B 1 A2 rs.length (rns (rs.map (·.2))) ∧ rs.length ≤ 100000
theorem PtV.keep {W W' : World} {B : Nat} {p : PtP} {v : Value} (h : PtV W B p v) (hk : ∀ q : Addr, q.block < B → W'.cell? q = W.cell? q) : PtV W' B p v := by
  cases p with
  | lit r => exact h
  | one => exact h
  | stars d => exact h
  | cls n rs =>
    obtain ⟨A, c, A2, c2, h1, h2, h3, h4⟩ := h
    exact ⟨A, c, A2, c2, h1, h2.keep hk, h3.keep hk, h4⟩
theorem PtV.more {W : World} {B B' : Nat} {p : PtP} {v : Value} (h : PtV W B p v) (hB : B ≤ B') : PtV W B' p v := by
  cases p with
  | lit r => exact h
  | one => exact h
  | stars d => exact h
  | cls n rs =>
    obtain ⟨A, c, A2, c2, h1, h2, h3, h4⟩ := h
    exact ⟨A, c, A2, c2, h1, h2.more hB, h3.more hB, h4⟩
theorem fit_lit (r x : Int) (w : World) : Calls Tryd.prog 65 #[.int .i32 r, .int .i32 x] w fun e w' => e = .returned (.bool (r == x)) ∧ w' = w := by
  go_enter Tryd.func65, Tryd.ntmps65
  go_wp2
  go_ret
  exact ⟨rfl, by first | rfl | trivial⟩
theorem fit_one (x : Int) (w : World) : Calls Tryd.prog 66 #[.agg #[], .int .i32 x] w fun e w' => e = .returned (.bool (x != 47)) ∧ Below w.heap.size w w' := by
  go_enter Tryd.func66, Tryd.ntmps66
  go_wp2
  go_ret
  exact ⟨rfl, (Below.refl _ _).alloc (Nat.le_refl _) _⟩
theorem fit_stars (d : Bool) (x : Int) (w : World) : Calls Tryd.prog 63 #[.agg #[.bool d], .int .i32 x] w fun e w' => e = .returned (.bool (d || x != 47)) ∧ Below w.heap.size w w' := by
  cases d
  all_goals
    go_enter Tryd.func63, Tryd.ntmps63
    go_wp2
    go_ret
    exact ⟨ret_bool (by simp), by first | exact Below.refl _ _ | exact (Below.refl _ _).alloc (Nat.le_refl _) _⟩
theorem inCls_app (a b : List (Int × Int)) (x : Int) : inCls (a ++ b) x = (inCls a x || inCls b x) := by unfold inCls; simp
set_option maxHeartbeats 1000000 in
theorem fit_cls (n : Bool) (rs : List (Int × Int)) (A A2 : Option Addr) (c c2 : Nat) (x : Int) (w : World) (hr : Rd w w.heap.size 1 A rs.length (rns (rs.map (·.1)))) (hr2 : Rd w w.heap.size 1 A2 rs.length (rns (rs.map (·.2)))) (hn : rs.length ≤ 100000) :
    Calls Tryd.prog 67 #[.agg #[.bool n, .slice A rs.length c, .slice A2 rs.length c2], .int .i32 x] w fun e w' => e = .returned (.bool (inCls rs x != n && x != 47)) ∧ Below w.heap.size w w' := by
  have Hr := Lib.hid hr
  have Hr2 := Lib.hid hr2
  clear hr hr2
  obtain ⟨k, hk⟩ : ∃ k, rs.length = k := ⟨_, rfl⟩
  have Hk := Lib.hid hk
  rw [hk] at Hr Hr2 hn ⊢
  clear hk
  have HB := Lib.hid (Bk.new w 102 #[.bool n, .slice A k c, .slice A2 k c2])
  have HW := Lib.hid ((Below.refl w.heap.size w).alloc (Nat.le_refl _) (.cells #[.bool n, .slice A k c, .slice A2 k c2] 102))
  have c0 : (w.alloc (.cells #[.bool n, .slice A k c, .slice A2 k c2] 102)).cell? ⟨w.heap.size, 0, none⟩ = some (.bool n) := HB.out.cell 0
  have c1 : (w.alloc (.cells #[.bool n, .slice A k c, .slice A2 k c2] 102)).cell? ⟨w.heap.size, 1, none⟩ = some (.slice A k c) := HB.out.cell 1
  have c2' : (w.alloc (.cells #[.bool n, .slice A k c, .slice A2 k c2] 102)).cell? ⟨w.heap.size, 2, none⟩ = some (.slice A2 k c2) := HB.out.cell 2
  go_enter Tryd.func67, Tryd.ntmps67
  go_upto_region 3 with (fail)
  generalize (w.alloc (.cells #[.bool n, .slice A k c, .slice A2 k c2] 102)) = w1 at *
  go_wp2_with fail
  go_loopw [5, 10] (fun b i wr => ∃ j : Nat, i = .int .i64 j ∧ j ≤ k ∧ b = .bool (inCls (rs.take j) x) ∧ wr = w1) (fun _ i _ => k - (intOf i).toNat)
  case atStart => exact ⟨0, rfl, Nat.zero_le _, rfl, rfl⟩
  case round =>
    obtain ⟨j, rfl, hj, rfl, rfl⟩ := hrel
    by_cases hlt : j < k
    · have hjl : j < rs.length := by rw [Hk.out]; exact hlt
      have hjr : rs[j]? = some rs[j] := List.getElem?_eq_getElem hjl
      have ht : inCls (rs.take (j + 1)) x = (inCls (rs.take j) x || (decide (rs[j].1 ≤ x) && decide (x ≤ rs[j].2))) := by rw [take_step hjr, inCls_app]; simp [inCls]
      have Ht := Lib.hid ht
      obtain ⟨b, o, u, rfl, hb, hu, hc⟩ := (Hr.out.below HW.out (Nat.le_refl _)).at_ hlt
      obtain ⟨b2, o2, u2, rfl, hb2, hu2, hc2⟩ := (Hr2.out.below HW.out (Nat.le_refl _)).at_ hlt
      have e1 : u = .int .i32 rs[j].1 := by simpa [rns, hjr] using hu.symm
      have e2 : u2 = .int .i32 rs[j].2 := by simpa [rns, hjr] using hu2.symm
      subst e1 e2
      generalize rs[j].1 = p at *
      generalize rs[j].2 = q at *
      generalize inCls (rs.take j) x = bb at *
      clear hu hu2 ht hjr hjl
      cases bb
      · by_cases h1 : p ≤ x
        · by_cases h2 : x ≤ q
          · go_wp2_with fail
            go_roundw
            case rel => exact ⟨j + 1, by go_num, by omega, by rw [Ht.out]; simp [h1, h2], by first | rfl | trivial⟩
            case measure => simp [intOf]; omega
          · go_wp2_with fail
            go_roundw
            case rel => exact ⟨j + 1, by go_num, by omega, by rw [Ht.out]; simp; omega, by first | rfl | trivial⟩
            case measure => simp [intOf]; omega
        · go_wp2_with fail
          go_roundw
          case rel => exact ⟨j + 1, by go_num, by omega, by rw [Ht.out]; simp; omega, by first | rfl | trivial⟩
          case measure => simp [intOf]; omega
      · go_wp2_with fail
        go_roundw
        case rel => exact ⟨j + 1, by go_num, by omega, by rw [Ht.out]; simp, by first | rfl | trivial⟩
        case measure => simp [intOf]; omega
    · have hjk : j = k := by omega
      obtain ⟨bb, hbb⟩ : ∃ bb, inCls rs x = bb := ⟨_, rfl⟩
      rw [show rs.take j = rs by rw [hjk, ← Hk.out, List.take_length], hbb]
      have Hbb := Lib.hid hbb
      clear hbb
      cases bb <;> cases n
      all_goals
        go_wp2_with fail
        go_ret
        exact ⟨ret_bool (by rw [Hbb.out]; simp), HW.out⟩
end Go.Proofs.YtbdehlphblbmoaaDoor
