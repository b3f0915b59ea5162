/- VfsActs: great. -/
import Derived.Test.YtknjopefbbldfaaGreatDoorVfsAa
namespace Go.Proofs.YtknjopefbbldfaaGreatDoor
open Go.RowKit
attribute [local go_sem ↓] Go.wp_at_zero Go.wp_at_succ

def fitA (q : ActV) : Prop := q.B.length ≤ 1000 ∧ q.name.size ≤ 100 ∧ q.to.size ≤ 100
def GrE (w : World) (n : Nat) (ls : List ActV) (e : Ending) (w' : World) : Prop := ∃ g : Bool, e = .returned (.bool g) ∧ (g = false → n ≤ 80 ∧ ∀ q ∈ ls, fitA q) ∧ Below w.heap.size w w'
set_option maxHeartbeats 4000000 in
set_option maxRecDepth 100000 in
theorem great_any (A : Option Addr) (n c : Nat) (ls : List ActV) (w : World) (h : RdAs w w.heap.size A n ls) (hnc : n ≤ c) (hc : c ≤ maxLen) :
    Calls Tryz.prog 5 #[.slice A n c] w (GrE w n ls) := by
  have H := Lib.hid h
  have hnb : n ≤ 9223372036854775807 := by unfold maxLen at hc; omega
  clear h
  go_enter Tryz.func5, Tryz.ntmps5
  go_wp2_with fail
  go_loopw [4, 7] (fun s4 s7 wr => ∃ i : Nat, s7 = .int .i64 (i : Int) ∧ i ≤ n ∧ Hid ((∀ j q, j < i → ls[j]? = some q → fitA q) ∧ Below w.heap.size w wr)) (fun _ s7 _ => n - (intOf s7).toNat)
  case atStart => exact ⟨0, rfl, Nat.zero_le _, Lib.hid ⟨fun j q hj => by omega, Below.refl _ _⟩⟩
  case round =>
    obtain ⟨i, rfl, hi, HR⟩ := hrel
    by_cases hlt : i < n
    · obtain ⟨q, hq⟩ : ∃ q, ls[i]? = some q := ⟨_, List.getElem?_eq_getElem (by have := H.out.1; omega)⟩
      obtain ⟨b, o, hA, hb, hcs⟩ := (H.out.below HR.out.2 (Nat.le_refl _)).2 (by omega)
      have hact := hcs i q hq
      subst hA
      have d0 := hact.c0
      have d1 := hact.c1
      have d2 := hact.c2
      have d3 := hact.c3
      obtain ⟨vB, d4, AB, nB, cB, hvB, hrB, _, _⟩ := hact.c4
      subst hvB
      have d5 := hact.c5
      have hlB := hrB.blen
      have Hq := Lib.hid (And.intro hq hlB)
      clear hact hcs hq hlB hrB
      have hsz := HR.out.2.size
      have HB := Lib.hid (show ∀ o : Obj, Below w.heap.size w (wr.alloc o) from fun o => HR.out.2.alloc hsz o)
      have HT := Lib.hid (show ∀ o : Obj, GrE w n ls (.returned (.bool true)) (wr.alloc o) from fun o => ⟨true, rfl, fun e => (by cases e), HB.out o⟩)
      by_cases h1 : (1000 : Int) < (nB : Int)
      · go_wp2_with fail
        go_ret
        exact HT.out _
      · by_cases h2 : (100 : Int) < (q.name.size : Int)
        · go_wp2_with fail
          go_ret
          exact HT.out _
        · by_cases h3 : (100 : Int) < (q.to.size : Int)
          · go_wp2_with fail
            go_ret
            exact HT.out _
          · have HN := Lib.hid (show ∀ j q', j < i + 1 → ls[j]? = some q' → fitA q' from fun j q' hj hq' => by
              by_cases e : j = i
              · subst e
                rw [Hq.out.1] at hq'
                injection hq' with hq'
                rw [← hq']
                exact ⟨by rw [Hq.out.2]; omega, by omega, by omega⟩
              · exact HR.out.1 j q' (by omega) hq')
            go_wp2_with fail
            go_roundw
            case rel => exact ⟨i + 1, by rfl, by omega, Lib.hid ⟨HN.out, HB.out _⟩⟩
            case measure => simp [intOf]; omega
    · have hin : n = i := by omega
      subst hin
      have HE := Lib.hid (show ∀ q ∈ ls, fitA q from fun q hq => by
        obtain ⟨j, hj, e⟩ := List.mem_iff_getElem.1 hq
        exact HR.out.1 j q (by have := H.out.1; omega) (by rw [List.getElem?_eq_getElem hj, e]))
      by_cases h80 : (80 : Int) < (n : Int)
      · have HT := Lib.hid (show GrE w n ls (.returned (.bool true)) wr from ⟨true, rfl, fun e => (by cases e), HR.out.2⟩)
        go_wp2_with fail
        go_ret
        exact HT.out
      · have HT := Lib.hid (show GrE w n ls (.returned (.bool false)) wr from ⟨false, rfl, fun _ => ⟨by omega, HE.out⟩, HR.out.2⟩)
        go_wp2_with fail
        go_ret
        exact HT.out
end Go.Proofs.YtknjopefbbldfaaGreatDoor
