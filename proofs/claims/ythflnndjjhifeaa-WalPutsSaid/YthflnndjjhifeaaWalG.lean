/- The walk of WalGets. -/
import Derived.Test.YthflnndjjhifeaaWal8
import Derived.Test.YthflnndjjhifeaaWalL
import Derived.Test.YthflnndjjhifeaaWalQ
namespace Go.Proofs.Ythflnndjjhifeaa
open Go.RowKit
attribute [local go_sem ↓] Go.wp_at_zero Go.wp_at_succ

theorem we_cases (l : List UInt8) : ((WE l).1 ≠ 0 ∧ (WE l).2 = []) ∨ ((WE l).1 = 0 ∧ ∃ K : Nat, K ≤ 4096 ∧ (WE l).2 = pieces l K) := by
  unfold WE
  repeat' split
  all_goals first
    | exact .inl ⟨by decide, rfl⟩
    | (refine .inr ⟨rfl, (num4 l 4).toNat, ?_, rfl⟩; omega)
theorem we_len (l : List UInt8) : (WE l).2.length ≤ 4096 := by
  rcases we_cases l with ⟨_, h⟩ | ⟨_, K, hK, h⟩
  · rw [h]; simp
  · rw [h, pieces_len]; exact hK
theorem we_short (l : List UInt8) : ∀ p ∈ (WE l).2, p.2.length ≤ 1000000 := by
  rcases we_cases l with ⟨_, h⟩ | ⟨_, K, hK, h⟩
  · rw [h]; intro p hp; cases hp
  · rw [h]
    intro p hp
    unfold pieces at hp
    obtain ⟨i, _, rfl⟩ := List.mem_map.1 hp
    simp [piece]
    omega
theorem we_nil {l : List UInt8} (h : (WE l).1 ≠ 0) : (WE l).2 = [] := by
  rcases we_cases l with ⟨_, h2⟩ | ⟨h1, _⟩
  · exact h2
  · exact absurd h1 h
theorem RdPcs.nil_ {w : World} {B m : Nat} {A : Option Addr} : RdPcs w B m A 0 [] := ⟨rfl, fun h => absurd h (Nat.lt_irrefl _)⟩
theorem RdPcs.alloc {w : World} {B m n : Nat} {A : Option Addr} {ls : List (List Int × List UInt8)} (h : RdPcs w B m A n ls) (hB : B ≤ w.heap.size) (o : Obj) : RdPcs (w.alloc o) B m A n ls := h.keep fun p hp => World.cell?_alloc_lt w o p (by omega)
/-- In either way what Get returns reads as the batch. -/
theorem WGet.pcs {l : List UInt8} {e : Ending} {w' : World} (h : WGet l e w') : ∃ A n c, e = .returned (.tuple #[.slice A n c, .int .i64 ((WE l).1 : Int)]) ∧ RdPcs w' w'.heap.size 1 A n (WE l).2 := by
  rcases h with ⟨h1, rfl⟩ | ⟨h1, A, n, c, rfl, _, hr⟩
  · exact ⟨none, 0, 0, rfl, by rw [we_nil h1]; exact RdPcs.nil_⟩
  · exact ⟨A, n, c, by rw [h1]; rfl, hr⟩

set_option maxHeartbeats 1000000 in
set_option maxRecDepth 100000 in
theorem walGets_walk (A : Option Addr) (n c : Nat) (l : List UInt8) (w : World) (hr : Rd w w.heap.size 1 A n (bys l)) (hnc : n ≤ c) (hcm : c ≤ maxLen) :
    Calls Try.prog 12 #[.slice A n c] w fun e w' => e = .returned (.bool true) ∧ Below w.heap.size w w' := by
  unfold maxLen at hcm
  by_cases h1 : 20000 < n
  · go_enter Try.func12, Try.ntmps12
    go_wp2_with fail
    refine (walwakes_any w).mono ?_
    rintro e w1 ⟨rfl, hb1⟩
    go_wp2
    go_ret
    exact ⟨rfl, hb1⟩
  have hrW := fun (W : World) (hb : Below w.heap.size w W) => (hr.below hb (Nat.le_refl _)).more hb.size
  have HrW := Lib.hid hrW
  have hlen := we_len l
  have hsh := we_short l
  have Hsh := Lib.hid hsh
  clear hrW hsh
  go_enter Try.func12, Try.ntmps12
  go_wp2_with fail
  refine (walwakes_any w).mono ?_
  rintro e w1 ⟨rfl, hb1⟩
  have hs1 := hb1.size
  go_wp2_with (
    at_builtin
    refine ap_bys (own_lit0 w1 _) ((hr.below hb1 (Nat.le_refl _)).alloc hs1 _) ((Below.refl w1.heap.size w1).alloc (Nat.le_refl _) _) (by simp) (by omega) rfl rfl rfl ?_
    intro v2 w2 hown2 hb2 _ _
    rw [List.nil_append, Nat.zero_add] at hown2
    obtain ⟨A2, c2, rfl, hc2, _⟩ := own_form hown2)
  have hb2' : Below w.heap.size w w2 := hb1.trans (hb2.mono hs1)
  have hg := wget_any A2 n c2 l w2 (Rd.of_own hown2) hc2 (by omega)
  clear hb1 hb2 hown2 hs1
  refine hg.mono ?_
  rintro e w3 ⟨hget, hb3⟩
  obtain ⟨A3, n3, c3, rfl, hr3⟩ := hget.pcs
  have hb3' := hb2'.trans (hb3.mono hb2'.size)
  clear hg hget hb3 hb2'
  go_wp2_with fail
  refine (refwget_any A n c l w3 (HrW.out w3 hb3') hnc (by omega)).mono ?_
  rintro e w4 ⟨⟨A4, n4, c4, rfl, hc4, hr4⟩, hb4⟩
  have hb4' := hb3'.trans (hb4.mono hb3'.size)
  have hr3' := (hr3.below hb4 (Nat.le_refl _)).more hb4.size
  have hn3 := hr3.1
  have hn4 := hr4.1
  have hbe : Below w.heap.size w (w4.alloc (.cells #[.slice A4 n4 c4, .int .i64 ((WE l).1 : Int)] 61)) := hb4'.alloc hb4'.size _
  have hsame := refwsame_any A3 n3 c3 A4 n4 c4 (WE l).2 (WE l).2 (w4.alloc (.cells #[.slice A4 n4 c4, .int .i64 ((WE l).1 : Int)] 61)) ((hr3'.alloc (Nat.le_refl _) _).more (by simp)) ((hr4.alloc (Nat.le_refl _) _).more (by simp)) (by omega) (by omega) Hsh.out Hsh.out
  rw [decide_eq_true rfl] at hsame
  have heq : (((WE l).1 : Int) == ((WE l).1 : Int)) = true := by simp
  have Hsame := Lib.hid hsame
  have HB := Lib.hid hbe
  clear hsame hbe hr3 hr3' hr4 hb3' hb4 hb4' hn3 hn4
  generalize ((WE l).1 : Int) = z at *
  go_wp2_with fail
  refine Hsame.out.mono ?_
  rintro e w5 ⟨rfl, q, rfl⟩
  go_wp2
  go_ret
  exact ⟨rfl, below_drewN HB.out q⟩
end Go.Proofs.Ythflnndjjhifeaa
