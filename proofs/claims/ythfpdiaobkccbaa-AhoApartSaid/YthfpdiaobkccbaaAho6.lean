/- Contracts of package aho: Scan, First, All, Len. -/
import Derived.Test.YthfpdiaobkccbaaAho5
import Derived.Test.YthfpdiaobkccbaaAhoF
import Derived.Laws.OwnMore
import Derived.Deep.OwnRows
namespace Go.Proofs.Ythfpdiaobkccbaa
open Go.RowKit
attribute [local go_sem ↓] Go.wp_at_zero Go.wp_at_succ

theorem made_its (n : Nat) : madeCells #[Value.int .i64 0] n = (its (List.replicate n 0)).toArray := by
  apply Array.ext'
  rw [toList_madeCells_one]
  simp [its]
/-- make([]int, n). -/
theorem mk_its (n : Nat) (x y : Int) (hx : x = n) (hy : y = n) (hn : n ≤ 100000000) (w : World) :
    (Instr.makeSlice 33 (.int .i64 x) (.int .i64 y)).run Try.prog w = .ok (.slice (some ⟨w.heap.size, 0, none⟩) n n) (w.alloc (.cells (its (List.replicate n 0)).toArray 3)) := by
  subst hx hy
  rw [← made_its]
  exact run_make_row' (P := Try.prog) 33 3 (.int .i64 0) 8 Try.underlying33 infoI rfl .i64 .i64 n (by omega) (by omega) w
theorem its_set (l : List Int) (j : Nat) (x : Int) : (its l).set j (.int .i64 x) = its (l.set j x) := by simp [its, List.map_set]
/-- A scan in memory: what it has seen is t. -/
structure SC (w : World) (W0 S0 g : Nat) (S ws : List (List UInt8)) (t : List UInt8) : Prop where
  sb : Bk w S0 53 #[.pointer (some ⟨W0, 0, none⟩), .int .i64 (ix S (ls S t) : Int), .int .i64 (t.length : Int), .int .i64 (cntF (firsts ws t) : Int), .slice (some ⟨g, 0, none⟩) ws.length ws.length]
  fb : Bk w g 3 (its (firsts ws t)).toArray
theorem firsts_len (ws : List (List UInt8)) (t : List UInt8) : (firsts ws t).length = ws.length := by simp [firsts]
theorem firsts_nil {ws : List (List UInt8)} (h : ∀ x ∈ ws, x ≠ []) : firsts ws [] = List.replicate ws.length (-1) := by
  rw [List.eq_replicate_iff]
  refine ⟨firsts_len _ _, fun y hy => ?_⟩
  unfold firsts at hy
  obtain ⟨x, hx, rfl⟩ := List.mem_map.1 hy
  exact fe_nil (h x hx)
theorem cntF_neg (n : Nat) : cntF (List.replicate n (-1)) = 0 := by unfold cntF; rw [List.countP_replicate]; rfl
section
variable {w w' : World} {W0 S0 g : Nat} {S ws : List (List UInt8)} {t : List UInt8}
theorem SC.heap (h : SC w W0 S0 g S ws t) (h1 : w'.heap[S0]? = w.heap[S0]?) (h2 : w'.heap[g]? = w.heap[g]?) : SC w' W0 S0 g S ws t := ⟨h.sb.heap h1, h.fb.heap h2⟩
theorem SC.below (h : SC w W0 S0 g S ws t) (hb : Below w.heap.size w w') : SC w' W0 S0 g S ws t := h.heap (hb.block _ h.sb.lt) (hb.block _ h.fb.lt)
theorem SC.drewN (h : SC w W0 S0 g S ws t) (q : Nat) : SC (w.drewN q) W0 S0 g S ws t := ⟨h.sb, h.fb⟩
theorem SC.row (h : SC w W0 S0 g S ws t) : Rd w w.heap.size 1 (some ⟨g, 0, none⟩) ws.length (its (firsts ws t)) := by
  refine ⟨by rw [its_len, firsts_len]; omega, fun _ => ⟨g, 0, rfl, h.fb.lt, fun j u hu => ?_⟩⟩
  rw [Nat.zero_add, h.fb.cell]
  simpa using hu
end
set_option maxHeartbeats 1000000 in
theorem scan_any (base W0 : Nat) (T : Tt) (ws : List (List UInt8)) (w : World) (hA : AT w base W0 (ws.length : Int) T) (hF : SemF T ws) (hne : ∀ x ∈ ws, x ≠ []) (hn : ws.length ≤ 8) :
    Calls Try.prog 11 #[.pointer (some ⟨W0, 0, none⟩)] w fun e w' => ∃ S0 g, e = .returned (.pointer (some ⟨S0, 0, none⟩)) ∧ SC w' W0 S0 g T.S ws [] ∧ (w.heap.size ≤ S0 ∧ w.heap.size ≤ g ∧ S0 ≠ g) ∧ Below w.heap.size w w' := by
  obtain ⟨c0, c1⟩ := hA.head
  have hsc : Hid (∀ w' S0 g, Bk w' S0 53 #[.pointer (some ⟨W0, 0, none⟩), .int .i64 0, .int .i64 0, .int .i64 0, .slice (some ⟨g, 0, none⟩) ws.length ws.length] → Bk w' g 3 (its (List.replicate ws.length (-1))).toArray → SC w' W0 S0 g T.S ws []) := Lib.hid (fun w' S0 g h1 h2 => by
    have e := firsts_nil hne
    have e2 : ix T.S (ls T.S []) = 0 := ix_zero hF.tr
    have e3 : cntF (firsts ws []) = 0 := by rw [e, cntF_neg]
    exact ⟨by rw [e2, e3]; exact h1, by rw [e]; exact h2⟩)
  clear hA hF hne
  generalize ws.length = n at *
  have hmk := mk_its n n n rfl rfl (by omega)
  go_enter Try.func11, Try.ntmps11
  go_wp2_with fail
  go_loopw [20] (fun i wr => ∃ k : Nat, i = .int .i64 k ∧ k ≤ n ∧ Bk wr (w.heap.size + 1) 53 #[.pointer (some ⟨W0, 0, none⟩), .int .i64 0, .int .i64 0, .int .i64 0, .slice (some ⟨w.heap.size, 0, none⟩) n n] ∧
      Bk wr w.heap.size 3 (its (List.replicate k (-1) ++ List.replicate (n - k) 0)).toArray ∧ Below w.heap.size w wr) (fun i _ => n - (intOf i).toNat)
  case atStart => exact ⟨0, rfl, Nat.zero_le _, Bk.new' _ _ _ (by simp), Bk.alloc (Bk.new _ _ _) _, ((Below.refl _ _).alloc (Nat.le_refl _) _).alloc (by simp) _⟩
  case round =>
    obtain ⟨k, rfl, hk, hsb, hfb, hbl⟩ := hrel
    have s4 : wr.cell? ⟨w.heap.size + 1, 4, none⟩ = some (.slice (some ⟨w.heap.size, 0, none⟩) n n) := hsb.cell 4
    by_cases hlt : k < n
    · have hc : wr.cell? ⟨w.heap.size, k, none⟩ = some (.int .i64 0) := by
        rw [hfb.cell]
        have : (List.replicate k (-1 : Int) ++ List.replicate (n - k) 0)[k]? = some 0 := by
          rw [List.getElem?_append_right (by simp), List.length_replicate, Nat.sub_self, List.getElem?_replicate, if_pos (by omega)]
        simp only [List.getElem?_toArray, its, List.getElem?_map, this, Option.map_some]
      have hf := hfb.free k
      have hset := hfb.set k (.int .i64 (-1))
      have hup : ((its (List.replicate k (-1) ++ List.replicate (n - k) 0)).toArray.setIfInBounds k (.int .i64 (-1))) = (its (List.replicate (k + 1) (-1) ++ List.replicate (n - (k + 1)) 0)).toArray := by
        rw [List.setIfInBounds_toArray, its_set]
        congr 2
        obtain ⟨m, hm⟩ : ∃ m, n - k = m + 1 := ⟨n - k - 1, by omega⟩
        rw [hm, show n - (k + 1) = m by omega, List.set_append_right _ _ (by simp), List.length_replicate, Nat.sub_self, List.replicate_succ (n := m), List.set_cons_zero, List.replicate_succ' (n := k), List.append_assoc]
        rfl
      rw [hup] at hset
      have hsb2 := hsb.far (p := ⟨w.heap.size, k, none⟩) (by simp) (.int .i64 (-1))
      have hfin := Lib.hid (And.intro hsb2 (And.intro hset (hbl.setCell (p := ⟨w.heap.size, k, none⟩) (Nat.le_refl _) (.int .i64 (-1)))))
      clear hsb hfb hset hup hsb2
      go_wp2
      go_roundw
      case rel => exact ⟨k + 1, by go_num, by omega, hfin.out.1, hfin.out.2.1, hfin.out.2.2⟩
      case measure => simp [intOf]; omega
    · obtain rfl : n = k := by omega
      have hfin := hsc.out wr (w.heap.size + 1) w.heap.size hsb (by simpa using hfb)
      have Hfin := Lib.hid hfin
      clear hfin hfb
      go_wp2
      go_ret
      exact ⟨_, _, rfl, Hfin.out, ⟨by omega, by omega, by omega⟩, hbl⟩
end Go.Proofs.Ythfpdiaobkccbaa
