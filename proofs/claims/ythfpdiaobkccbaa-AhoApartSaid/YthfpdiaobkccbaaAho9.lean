/- The example of the aho statements. -/
import Derived.Test.YthfpdiaobkccbaaAho8
namespace Go.Proofs.Ythfpdiaobkccbaa
open Go.RowKit
attribute [local go_sem ↓] Go.wp_at_zero Go.wp_at_succ

/-- Rows that lie in a block of their own. -/
theorem RdRows.of3 (w : World) (t : TypeId) {v1 v2 v3 : Value} {l1 l2 l3 : List UInt8} {g : Nat} (hg : g = w.heap.size) (h1 : RdB w w.heap.size v1 l1) (h2 : RdB w w.heap.size v2 l2) (h3 : RdB w w.heap.size v3 l3) :
    RdRows (w.alloc (.cells #[v1, v2, v3] t)) (w.alloc (.cells #[v1, v2, v3] t)).heap.size (some ⟨g, 0, none⟩) 3 [l1, l2, l3] := by
  subst hg
  refine ⟨[v1, v2, v3], (Rd.lits w t #[v1, v2, v3] rfl).more (by simp), rfl, fun i v l hv hl => ?_⟩
  match i, hv, hl with
  | 0, hv, hl => simp at hv hl; subst hv hl; exact (h1.alloc (Nat.le_refl _) _).more (by simp)
  | 1, hv, hl => simp at hv hl; subst hv hl; exact (h2.alloc (Nat.le_refl _) _).more (by simp)
  | 2, hv, hl => simp at hv hl; subst hv hl; exact (h3.alloc (Nat.le_refl _) _).more (by simp)
  | i + 3, hv, _ => simp at hv
theorem RdB.lits (w : World) (t : TypeId) {cs : Array Value} {l : List UInt8} {n g : Nat} (hg : g = w.heap.size) (h : cs.toList = bys l) (hn : n = cs.size) {fr : Nat × Nat} : RdB (w.alloc (.cells cs t fr)) (w.alloc (.cells cs t fr)).heap.size (.slice (some ⟨g, 0, none⟩) n n) l := by
  subst hg hn
  refine ⟨_, _, _, rfl, ?_, Nat.le_refl _⟩
  have := Rd.lits w t cs rfl (fr := fr)
  rw [h] at this
  exact this.more (by simp)
/-- Behind Scan: the words stand, the scan's row is none of theirs. -/
theorem scan_apart {w1 w2 : World} {base W0 g : Nat} {many : Int} {T : Tt} (hA : AT w1 base W0 many T) (hb : Below w1.heap.size w1 w2) (hg : w1.heap.size ≤ g) : AT w2 base W0 many T ∧ ∀ i, i < T.S.length → (T.V i).ownBlock ≠ some g :=
  ⟨hA.below hb, fun i hi e => by have := ((hA.en i hi).lt g e).2; omega⟩
def exW : List (List UInt8) := [[104, 101], [115, 104, 101], [104, 101, 114, 115]]
def exT : List UInt8 := [117, 115, 104, 101, 114, 115]
set_option maxHeartbeats 1000000 in
theorem aho_wakes (w : World) : Calls Try.prog 8 #[] w fun e w' => e = .returned (.bool true) ∧ Below w.heap.size w w' := by
  have kc := fun (w : World) (C : Array Value) (n c : Nat) => Lib.run_convert_bytes_const (P := Try.prog) w 23 5 C n c Try.underlying23 Try.underlying5
  have kc2 := kc (w.alloc (.cells #[.int .u8 104, .int .u8 101] 5 (2, 3))) #[.int .u8 115, .int .u8 104, .int .u8 101] 3 3
  have kc3 := kc ((w.alloc (.cells #[.int .u8 104, .int .u8 101] 5 (2, 3))).alloc (.cells #[.int .u8 115, .int .u8 104, .int .u8 101] 5 (3, 4))) #[.int .u8 104, .int .u8 101, .int .u8 114, .int .u8 115] 4 4
  simp only [World.size_alloc] at kc2 kc3
  go_enter Try.func8, Try.ntmps8
  go_wp2_with fail
  have r1a : RdB (w.alloc (.cells #[.int .u8 104, .int .u8 101] 5 (2, 3))) (w.alloc (.cells #[.int .u8 104, .int .u8 101] 5 (2, 3))).heap.size (.slice (some ⟨w.heap.size, 0, none⟩) 2 2) [104, 101] := RdB.lits w 5 (cs := #[.int .u8 104, .int .u8 101]) rfl rfl rfl
  have r1b : RdB ((w.alloc (.cells #[.int .u8 104, .int .u8 101] 5 (2, 3))).alloc (.cells #[.int .u8 115, .int .u8 104, .int .u8 101] 5 (3, 4))) ((w.alloc (.cells #[.int .u8 104, .int .u8 101] 5 (2, 3))).alloc (.cells #[.int .u8 115, .int .u8 104, .int .u8 101] 5 (3, 4))).heap.size (.slice (some ⟨w.heap.size, 0, none⟩) 2 2) [104, 101] := (r1a.alloc (Nat.le_refl _) _).more (by simp)
  have r1 : RdB (((w.alloc (.cells #[.int .u8 104, .int .u8 101] 5 (2, 3))).alloc (.cells #[.int .u8 115, .int .u8 104, .int .u8 101] 5 (3, 4))).alloc (.cells #[.int .u8 104, .int .u8 101, .int .u8 114, .int .u8 115] 5 (4, 5))) (((w.alloc (.cells #[.int .u8 104, .int .u8 101] 5 (2, 3))).alloc (.cells #[.int .u8 115, .int .u8 104, .int .u8 101] 5 (3, 4))).alloc (.cells #[.int .u8 104, .int .u8 101, .int .u8 114, .int .u8 115] 5 (4, 5))).heap.size (.slice (some ⟨w.heap.size, 0, none⟩) 2 2) [104, 101] := (r1b.alloc (Nat.le_refl _) _).more (by simp)
  have r2a : RdB ((w.alloc (.cells #[.int .u8 104, .int .u8 101] 5 (2, 3))).alloc (.cells #[.int .u8 115, .int .u8 104, .int .u8 101] 5 (3, 4))) ((w.alloc (.cells #[.int .u8 104, .int .u8 101] 5 (2, 3))).alloc (.cells #[.int .u8 115, .int .u8 104, .int .u8 101] 5 (3, 4))).heap.size (.slice (some ⟨w.heap.size + 1, 0, none⟩) 3 3) [115, 104, 101] := RdB.lits (w.alloc (.cells #[.int .u8 104, .int .u8 101] 5 (2, 3))) 5 (cs := #[.int .u8 115, .int .u8 104, .int .u8 101]) (by simp) rfl rfl
  have r2 : RdB (((w.alloc (.cells #[.int .u8 104, .int .u8 101] 5 (2, 3))).alloc (.cells #[.int .u8 115, .int .u8 104, .int .u8 101] 5 (3, 4))).alloc (.cells #[.int .u8 104, .int .u8 101, .int .u8 114, .int .u8 115] 5 (4, 5))) (((w.alloc (.cells #[.int .u8 104, .int .u8 101] 5 (2, 3))).alloc (.cells #[.int .u8 115, .int .u8 104, .int .u8 101] 5 (3, 4))).alloc (.cells #[.int .u8 104, .int .u8 101, .int .u8 114, .int .u8 115] 5 (4, 5))).heap.size (.slice (some ⟨w.heap.size + 1, 0, none⟩) 3 3) [115, 104, 101] := (r2a.alloc (Nat.le_refl _) _).more (by simp)
  have r3 : RdB (((w.alloc (.cells #[.int .u8 104, .int .u8 101] 5 (2, 3))).alloc (.cells #[.int .u8 115, .int .u8 104, .int .u8 101] 5 (3, 4))).alloc (.cells #[.int .u8 104, .int .u8 101, .int .u8 114, .int .u8 115] 5 (4, 5))) (((w.alloc (.cells #[.int .u8 104, .int .u8 101] 5 (2, 3))).alloc (.cells #[.int .u8 115, .int .u8 104, .int .u8 101] 5 (3, 4))).alloc (.cells #[.int .u8 104, .int .u8 101, .int .u8 114, .int .u8 115] 5 (4, 5))).heap.size (.slice (some ⟨w.heap.size + 1 + 1, 0, none⟩) 4 4) [104, 101, 114, 115] := RdB.lits ((w.alloc (.cells #[.int .u8 104, .int .u8 101] 5 (2, 3))).alloc (.cells #[.int .u8 115, .int .u8 104, .int .u8 101] 5 (3, 4))) 5 (cs := #[.int .u8 104, .int .u8 101, .int .u8 114, .int .u8 115]) (by simp) rfl rfl
  have hrows := RdRows.of3 (((w.alloc (.cells #[.int .u8 104, .int .u8 101] 5 (2, 3))).alloc (.cells #[.int .u8 115, .int .u8 104, .int .u8 101] 5 (3, 4))).alloc (.cells #[.int .u8 104, .int .u8 101, .int .u8 114, .int .u8 115] 5 (4, 5))) 23 (g := w.heap.size + 1 + 1 + 1) (by simp) r1 r2 r3
  have hnw := new_any (some ⟨w.heap.size + 1 + 1 + 1, 0, none⟩) 3 3 [[104, 101], [115, 104, 101], [104, 101, 114, 115]] _ hrows (by omega)
  have hb0 : Below w.heap.size w ((((w.alloc (.cells #[.int .u8 104, .int .u8 101] 5 (2, 3))).alloc (.cells #[.int .u8 115, .int .u8 104, .int .u8 101] 5 (3, 4))).alloc (.cells #[.int .u8 104, .int .u8 101, .int .u8 114, .int .u8 115] 5 (4, 5))).alloc (.cells #[.slice (some ⟨w.heap.size, 0, none⟩) 2 2, .slice (some ⟨w.heap.size + 1, 0, none⟩) 3 3, .slice (some ⟨w.heap.size + 1 + 1, 0, none⟩) 4 4] 23)) :=
    ((((Below.refl _ _).alloc (Nat.le_refl _) _).alloc (by simp) _).alloc (by simp <;> omega) _).alloc (by simp <;> omega) _
  have Hnw := Lib.hid hnw
  have Hb0 := Lib.hid hb0
  clear hnw hb0 r1 r2 r3 r1a r1b r2a hrows kc2 kc3
  refine Hnw.out.mono ?_
  rintro e w1 ⟨hN, hb1⟩
  rcases hN with ⟨hne, _⟩ | ⟨_, W0, rfl, hAW⟩
  · exact absurd (by decide) hne
  obtain ⟨T, hA, hF⟩ := hAW
  have hb1' := Hb0.out.trans (hb1.mono (by simp <;> omega))
  have hz1 := hb1'.size
  have hsc := scan_any _ W0 T [[104, 101], [115, 104, 101], [104, 101, 114, 115]] w1 hA hF (by decide) (by decide)
  have Hsc := Lib.hid hsc
  have HA := Lib.hid hA
  have HF := Lib.hid hF
  clear hA hF hsc hb1 Hnw Hb0
  go_wp2_with fail
  refine Hsc.out.mono ?_
  rintro e w2 ⟨S0, g, rfl, hS, ⟨hg1, hg2, hg3⟩, hb2⟩
  obtain ⟨hA2, hd2⟩ := scan_apart HA.out hb2 hg2
  have hb2' := hb1'.trans (hb2.mono hz1)
  have hz2 := hb2.size
  have kc4 := kc w2 #[.int .u8 117, .int .u8 115, .int .u8 104, .int .u8 101, .int .u8 114, .int .u8 115] 6 6
  have hin : Rd (w2.alloc (.cells #[.int .u8 117, .int .u8 115, .int .u8 104, .int .u8 101, .int .u8 114, .int .u8 115] 5 (6, 7))) (w2.alloc (.cells #[.int .u8 117, .int .u8 115, .int .u8 104, .int .u8 101, .int .u8 114, .int .u8 115] 5 (6, 7))).heap.size 1 (some ⟨w2.heap.size, 0, none⟩) 6 (bys [117, 115, 104, 101, 114, 115]) := (Rd.lits w2 5 #[.int .u8 117, .int .u8 115, .int .u8 104, .int .u8 101, .int .u8 114, .int .u8 115] rfl).more (by simp)
  have hS5 : SC (w2.alloc (.cells #[.int .u8 117, .int .u8 115, .int .u8 104, .int .u8 101, .int .u8 114, .int .u8 115] 5 (6, 7))) W0 S0 g T.S [[104, 101], [115, 104, 101], [104, 101, 114, 115]] [] := hS.heap (Below.heap_alloc _ _ _ hS.sb.lt) (Below.heap_alloc _ _ _ hS.fb.lt)
  have hlS := hS.sb.lt
  have hlg := hS.fb.lt
  have hpt := put_scan _ W0 S0 g T [[104, 101], [115, 104, 101], [104, 101, 114, 115]] [] [117, 115, 104, 101, 114, 115] (some ⟨w2.heap.size, 0, none⟩) 6 6 (w2.alloc (.cells #[.int .u8 117, .int .u8 115, .int .u8 104, .int .u8 101, .int .u8 114, .int .u8 115] 5 (6, 7))) (hA2.alloc _) HF.out hS5 hd2 (fun w' hc => hin.apart (Nat.le_refl _) (fun _ b o e => by injection e with e; injection e with e1 e2; omega) hc) (by omega) (by decide) (by decide)
  have hc1 : cntF (firsts [[104, 101], [115, 104, 101], [104, 101, 114, 115]] ([] ++ [117, 115, 104, 101, 114, 115])) = 3 := by decide
  have hc2 : cntF (firsts [[104, 101], [115, 104, 101], [104, 101, 114, 115]] []) = 0 := by decide
  rw [hc1, hc2] at hpt
  have Hpt := Lib.hid hpt
  have hb5 : Below w.heap.size w (w2.alloc (.cells #[.int .u8 117, .int .u8 115, .int .u8 104, .int .u8 101, .int .u8 114, .int .u8 115] 5 (6, 7))) := hb2'.alloc (by have := hb2'.size; omega) _
  have Hb5 := Lib.hid hb5
  clear hpt hc1 hc2 hin hS5 hA2 hd2 hS hb5 hb2
  go_wp2_with fail
  refine Hpt.out.mono ?_
  rintro e w6 ⟨rfl, hA6, hS6, hch6⟩
  have hb6 := Hb5.out.trans (hch6.below (B := w.heap.size) (by have := hb2'.size; simp <;> omega) (fun i hi => by rcases hi with rfl | rfl <;> omega))
  have hz6 := hb6.size
  have hfi := first_any W0 S0 g T.S [[104, 101], [115, 104, 101], [104, 101, 114, 115]] ([] ++ [117, 115, 104, 101, 114, 115]) w6 hS6 (by decide)
  have hf1 : firsts [[104, 101], [115, 104, 101], [104, 101, 114, 115]] ([] ++ [117, 115, 104, 101, 114, 115]) = [4, 4, 6] := by decide
  rw [hf1] at hfi
  have Hfi := Lib.hid hfi
  clear hfi hf1 hS6 hch6 hA6 Hpt Hb5 hb2'
  go_wp2_with fail
  refine Hfi.out.mono ?_
  rintro e w7 ⟨v7, rfl, hown7, hb7⟩
  obtain ⟨A7, c7, rfl, hc7, _⟩ := own_form hown7
  have hr7 := Rd.of_own hown7
  have hb7' := hb6.trans (hb7.mono hz6)
  have hz7 := hb7'.size
  have hin := ints_any A7 (some ⟨w7.heap.size, 0, none⟩) 3 3 c7 3 [4, 4, 6] [4, 4, 6] (w7.alloc (.cells #[.int .i64 4, .int .i64 4, .int .i64 6] 3)) ((hr7.alloc (Nat.le_refl _) _).more (by simp)) ((Rd.lits w7 3 #[.int .i64 4, .int .i64 4, .int .i64 6] rfl).more (by simp)) (by omega) (by omega)
  have Hin := Lib.hid hin
  clear hin hown7 hr7 hb7 Hfi
  go_wp2_with fail
  refine Hin.out.mono ?_
  rintro e w8 ⟨rfl, q8, rfl⟩
  go_wp2
  go_ret
  exact ⟨rfl, below_drewN (hb7'.alloc hz7 _) _⟩
end Go.Proofs.Ythfpdiaobkccbaa
