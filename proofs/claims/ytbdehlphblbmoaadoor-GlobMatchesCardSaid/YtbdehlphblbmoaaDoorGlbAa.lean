/- The document's patterns: fits. -/
import Derived.Test.YtbdehlphblbmoaaDoorGlbY
namespace Go.Proofs.YtbdehlphblbmoaaDoor
open Go.RowKit
attribute [local go_sem ↓] Go.wp_at_zero Go.wp_at_succ

def kindOf : PtP → Int
  | .lit _ => 0
  | .one => 1
  | .stars d => if d then 3 else 2
  | .cls _ _ => 4
theorem kind_star (p : PtP) : isStar p = (kindOf p == 2 || kindOf p == 3) := by
  cases p with
  | lit r => rfl
  | one => rfl
  | stars d => cases d <;> rfl
  | cls n rs => rfl
theorem DPt.head {W : World} {B : Nat} {p : PtP} {cs : List Value} (h : DPt W B p cs) : ∃ (y1 : Int) (y2 : Bool) (A3 : Option Addr) (n3 c3 : Nat) (A4 : Option Addr) (n4 c4 : Nat), cs = [.int .i64 (kindOf p), .int .i64 y1, .bool y2, .slice A3 n3 c3, .slice A4 n4 c4] := by
  cases p with
  | lit r => exact ⟨_, _, _, _, _, _, _, _, h⟩
  | one => exact ⟨_, _, _, _, _, _, _, _, h⟩
  | stars d => exact ⟨_, _, _, _, _, _, _, _, h⟩
  | cls n rs => obtain ⟨A, c, A2, c2, h1, _⟩ := h; exact ⟨_, _, _, _, _, _, _, _, h1⟩
theorem RdPs.at_ {W : World} {B : Nat} {A : Option Addr} {ps : List PtP} (h : RdPs W B A ps) {i : Nat} {p : PtP} (hi : ps[i]? = some p) :
    ∃ (b o : Nat) (y1 : Int) (y2 : Bool) (A3 : Option Addr) (n3 c3 : Nat) (A4 : Option Addr) (n4 c4 : Nat), A = some ⟨b, o, none⟩ ∧ b < B ∧ DPt W B p [.int .i64 (kindOf p), .int .i64 y1, .bool y2, .slice A3 n3 c3, .slice A4 n4 c4] ∧ W.cell? ⟨b, o + i * 5, none⟩ = some (.int .i64 (kindOf p)) ∧ W.cell? ⟨b, o + i * 5 + 1, none⟩ = some (.int .i64 y1) ∧ W.cell? ⟨b, o + i * 5 + 2, none⟩ = some (.bool y2) ∧ W.cell? ⟨b, o + i * 5 + 3, none⟩ = some (.slice A3 n3 c3) ∧ W.cell? ⟨b, o + i * 5 + 4, none⟩ = some (.slice A4 n4 c4) := by
  obtain ⟨vs, h1, h2⟩ := h
  have hl := (List.getElem?_eq_some_iff.1 hi).1
  obtain ⟨b, o, rfl, hb, hc⟩ := h1.2 (by omega)
  have h3 := h2 i p hi
  obtain ⟨y1, y2, A3, n3, c3, A4, n4, c4, he⟩ := h3.head
  rw [he] at h3
  have hat : ∀ j v, [Value.int .i64 (kindOf p), .int .i64 y1, .bool y2, .slice A3 n3 c3, .slice A4 n4 c4][j]? = some v → W.cell? ⟨b, o + i * 5 + j, none⟩ = some v := fun j v hj => by
    rw [← he, List.getElem?_take] at hj
    split at hj
    · rw [List.getElem?_drop] at hj
      have := hc (i * 5 + j) v hj
      rwa [← Nat.add_assoc] at this
    · cases hj
  exact ⟨b, o, y1, y2, A3, n3, c3, A4, n4, c4, rfl, hb, h3, hat 0 _ rfl, hat 1 _ rfl, hat 2 _ rfl, hat 3 _ rfl, hat 4 _ rfl⟩
theorem dfit_lit (c r : Int) (w : World) : Calls Tryd.prog 24 #[.agg #[.int .i64 0, .int .i64 c, .bool false, .slice none 0 0, .slice none 0 0], .int .i64 r] w fun e w' => e = .returned (.bool (c == r)) ∧ Below w.heap.size w w' := by
  go_enter Tryd.func24, Tryd.ntmps24
  go_wp2_with fail
  go_ret
  exact ⟨rfl, (Below.refl _ _).alloc (Nat.le_refl _) _⟩
theorem dfit_one (r : Int) (w : World) : Calls Tryd.prog 24 #[.agg #[.int .i64 1, .int .i64 0, .bool false, .slice none 0 0, .slice none 0 0], .int .i64 r] w fun e w' => e = .returned (.bool (r != 47)) ∧ Below w.heap.size w w' := by
  by_cases h : r = 47
  · subst h
    go_enter Tryd.func24, Tryd.ntmps24
    go_wp2_with fail
    go_ret
    exact ⟨rfl, (Below.refl _ _).alloc (Nat.le_refl _) _⟩
  · have h1 : (r == 47) = false := by simpa using h
    have HR := Lib.hid (show (r != 47) = true from by simpa using h)
    clear h
    go_enter Tryd.func24, Tryd.ntmps24
    go_wp2_with fail
    go_ret
    exact ⟨ret_bool HR.out.symm, (Below.refl _ _).alloc (Nat.le_refl _) _⟩
set_option maxHeartbeats 1000000 in
theorem dfit_cls (n : Bool) (rs : List (Int × Int)) (A A2 : Option Addr) (c c2 B : Nat) (x : Int) (w : World) (hB : B ≤ w.heap.size) (hr : Rd w B 1 A rs.length (its (rs.map (·.1)))) (hr2 : Rd w B 1 A2 rs.length (its (rs.map (·.2)))) (hn : rs.length ≤ 100000) :
    Calls Tryd.prog 24 #[.agg #[.int .i64 4, .int .i64 0, .bool n, .slice A rs.length c, .slice A2 rs.length c2], .int .i64 x] w fun e w' => e = .returned (.bool (inCls rs x != n && x != 47)) ∧ Below w.heap.size w w' := by
  have Hr := Lib.hid hr
  have Hr2 := Lib.hid hr2
  clear hr hr2
  obtain ⟨k, hk⟩ : ∃ k, rs.length = k := ⟨_, rfl⟩
  have Hk := Lib.hid hk
  rw [hk] at Hr Hr2 hn ⊢
  clear hk
  have HB := Lib.hid (Bk.new w 66 #[.int .i64 4, .int .i64 0, .bool n, .slice A k c, .slice A2 k c2])
  have HW := Lib.hid ((Below.refl w.heap.size w).alloc (Nat.le_refl _) (.cells #[.int .i64 4, .int .i64 0, .bool n, .slice A k c, .slice A2 k c2] 66))
  have c0 : (w.alloc (.cells #[.int .i64 4, .int .i64 0, .bool n, .slice A k c, .slice A2 k c2] 66)).cell? ⟨w.heap.size, 0, none⟩ = some (.int .i64 4) := HB.out.cell 0
  have c1 : (w.alloc (.cells #[.int .i64 4, .int .i64 0, .bool n, .slice A k c, .slice A2 k c2] 66)).cell? ⟨w.heap.size, 2, none⟩ = some (.bool n) := HB.out.cell 2
  have c3 : (w.alloc (.cells #[.int .i64 4, .int .i64 0, .bool n, .slice A k c, .slice A2 k c2] 66)).cell? ⟨w.heap.size, 3, none⟩ = some (.slice A k c) := HB.out.cell 3
  have c4 : (w.alloc (.cells #[.int .i64 4, .int .i64 0, .bool n, .slice A k c, .slice A2 k c2] 66)).cell? ⟨w.heap.size, 4, none⟩ = some (.slice A2 k c2) := HB.out.cell 4
  by_cases h47 : x = 47
  · have HE := Lib.hid (show (inCls rs x != n && x != 47) = false from by rw [h47]; simp)
    have h1 : (x == 47) = true := by simpa using h47
    clear h47
    go_enter Tryd.func24, Tryd.ntmps24
    go_wp2_with fail
    go_ret
    exact ⟨ret_bool HE.out.symm, HW.out⟩
  have h1 : (x == 47) = false := by simpa using h47
  have HE := Lib.hid (show (inCls rs x != n && x != 47) = (inCls rs x != n) from by rw [show (x != 47) = true from by simpa using h47]; simp)
  clear h47
  go_enter Tryd.func24, Tryd.ntmps24
  go_upto_region 9 with (fail)
  generalize (w.alloc (.cells #[.int .i64 4, .int .i64 0, .bool n, .slice A k c, .slice A2 k c2] 66)) = w1 at *
  go_wp2_with fail
  go_loopw [5, 6] (fun b i wr => ∃ j : Nat, i = .int .i64 j ∧ j ≤ k ∧ b = .bool (inCls (rs.take j) x) ∧ wr = w1) (fun _ i _ => k - (intOf i).toNat)
  case atStart => exact ⟨0, rfl, Nat.zero_le _, rfl, rfl⟩
  case round =>
    obtain ⟨j, rfl, hj, rfl, rfl⟩ := hrel
    by_cases hlt : j < k
    · have hjl : j < rs.length := by rw [Hk.out]; exact hlt
      have hjr : rs[j]? = some rs[j] := List.getElem?_eq_getElem hjl
      have ht : inCls (rs.take (j + 1)) x = (inCls (rs.take j) x || (decide (rs[j].1 ≤ x) && decide (x ≤ rs[j].2))) := by rw [take_step hjr, inCls_app]; simp [inCls]
      have Ht := Lib.hid ht
      obtain ⟨b, o, u, rfl, hb, hu, hc⟩ := (Hr.out.below HW.out hB).num hlt
      obtain ⟨b2, o2, u2, rfl, hb2, hu2, hc2⟩ := (Hr2.out.below HW.out hB).num hlt
      have e1 : u = rs[j].1 := by simpa [hjr] using hu.symm
      have e2 : u2 = rs[j].2 := by simpa [hjr] using hu2.symm
      subst e1 e2
      have q1 : IntKind.i64.wrap ((j : Int) + 1) = (j : Int) + 1 := IntWalk.i64_in _ (by omega)
      generalize rs[j].1 = p at *
      generalize rs[j].2 = q at *
      generalize inCls (rs.take j) x = bb at *
      clear hu hu2 ht hjr hjl
      cases bb
      · by_cases h1 : p ≤ x
        · by_cases h2 : x ≤ q
          · go_wp2_with fail
            go_roundw
            case rel => exact ⟨j + 1, by go_num, by omega, by rw [Ht.out]; simp [h1, h2], by first | rfl | trivial⟩
            case measure => simp [intOf]; omega
          · go_wp2_with fail
            go_roundw
            case rel => exact ⟨j + 1, by go_num, by omega, by rw [Ht.out]; simp; omega, by first | rfl | trivial⟩
            case measure => simp [intOf]; omega
        · go_wp2_with fail
          go_roundw
          case rel => exact ⟨j + 1, by go_num, by omega, by rw [Ht.out]; simp; omega, by first | rfl | trivial⟩
          case measure => simp [intOf]; omega
      · go_wp2_with fail
        go_roundw
        case rel => exact ⟨j + 1, by go_num, by omega, by rw [Ht.out]; simp, by first | rfl | trivial⟩
        case measure => simp [intOf]; omega
    · have hjk : j = k := by omega
      obtain ⟨bb, hbb⟩ : ∃ bb, inCls rs x = bb := ⟨_, rfl⟩
      rw [show rs.take j = rs by rw [hjk, ← Hk.out, List.take_length], hbb]
      have Hbb := Lib.hid hbb
      clear hbb
      cases bb <;> cases n
      all_goals
        go_wp2_with fail
        go_ret
        exact ⟨ret_bool (by rw [HE.out, Hbb.out]; simp), HW.out⟩
theorem dfit_any (p : PtP) (u1 u2 u3 u4 : Value) (B : Nat) (r : Int) (w : World) (h : DPt w B p [.int .i64 (kindOf p), u1, u2, u3, u4]) (hB : B ≤ w.heap.size) (hs : isStar p = false) :
    Calls Tryd.prog 24 #[.agg #[.int .i64 (kindOf p), u1, u2, u3, u4], .int .i64 r] w fun e w' => e = .returned (.bool (fitsB p r)) ∧ Below w.heap.size w w' := by
  cases p with
  | lit c =>
    have e : [Value.int .i64 (kindOf (.lit c)), u1, u2, u3, u4] = [.int .i64 0, .int .i64 c, .bool false, .slice none 0 0, .slice none 0 0] := h
    injection e with e0 e; injection e with e1 e; injection e with e2 e; injection e with e3 e; injection e with e4 _
    subst e1 e2 e3 e4
    exact dfit_lit c r w
  | one =>
    have e : [Value.int .i64 (kindOf .one), u1, u2, u3, u4] = [.int .i64 1, .int .i64 0, .bool false, .slice none 0 0, .slice none 0 0] := h
    injection e with e0 e; injection e with e1 e; injection e with e2 e; injection e with e3 e; injection e with e4 _
    subst e1 e2 e3 e4
    exact dfit_one r w
  | stars d => cases hs
  | cls n rs =>
    obtain ⟨A, c, A2, c2, e, h1, h2, h3⟩ := h
    injection e with e0 e; injection e with e1 e; injection e with e2 e; injection e with e3 e; injection e with e4 _
    subst e1 e2 e3 e4
    exact dfit_cls n rs A A2 c c2 B r w hB h1 h2 (by omega)
end Go.Proofs.YtbdehlphblbmoaaDoor
