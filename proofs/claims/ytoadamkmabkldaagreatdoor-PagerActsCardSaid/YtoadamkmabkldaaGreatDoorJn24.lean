/- Contracts of package pager: the steps of a commit. -/
import Derived.Test.YtoadamkmabkldaaGreatDoorJn23
import Derived.Lib.SmallJoins
set_option linter.unusedVariables false
set_option linter.unusedSimpArgs false
namespace Go.Proofs.YtoadamkmabkldaaGreatDoor
open Go.RowKit Go.Shelf
attribute [local go_sem ↓] Go.wp_at_zero Go.wp_at_succ
theorem cellAt {w w' : World} {b o : Nat} {v : Value} (h : w.cell? ⟨b, o, none⟩ = some v) (hk : w'.heap[b]? = w.heap[b]?) : w'.cell? ⟨b, o, none⟩ = some v := (World.cell?_of_block (a := ⟨b, o, none⟩) hk).trans h
/-- Where a step finds the pager, its store, and bytes. -/
structure CmW (W : World) (O : Nat → Prop) (f p bp bb : Nat) (nm : ByteArray) (v : Value) : Prop where
  p0 : W.cell? ⟨p, 0, none⟩ = some (.pointer (some ⟨f, 0, none⟩))
  p1 : W.cell? ⟨p, 1, none⟩ = some (.string nm)
  bp0 : W.cell? ⟨bp, 0, none⟩ = some (.pointer (some ⟨p, 0, none⟩))
  bb0 : W.cell? ⟨bb, 0, none⟩ = some v
  pn : ¬ O p
  bpn : ¬ O bp
  bbn : ¬ O bb
  pl : p < W.heap.size
  bpl : bp < W.heap.size
  bbl : bb < W.heap.size
theorem CmW.ch {W W' : World} {O : Nat → Prop} {f p bp bb : Nat} {nm : ByteArray} {v : Value} (h : CmW W O f p bp bb nm v) (hc : Ch O W W') : CmW W' O f p bp bb nm v :=
  have := hc.size
  ⟨cellAt h.p0 (hc.block p h.pl h.pn), cellAt h.p1 (hc.block p h.pl h.pn), cellAt h.bp0 (hc.block bp h.bpl h.bpn), cellAt h.bb0 (hc.block bb h.bbl h.bbn), h.pn, h.bpn, h.bbn, Nat.lt_of_lt_of_le h.pl hc.size, Nat.lt_of_lt_of_le h.bpl hc.size, Nat.lt_of_lt_of_le h.bbl hc.size⟩
section
variable (f p bp bb : Nat) (O : Nat → Prop) (S : FsP) (nm : ByteArray) (W : World) (v : Value) (h : FsA W O f S) (hK : CmW W O f p bp bb nm v) (hs : nm.size ≤ 100) (hst : S.stamp ≤ 1000000)
include h hK hs hst
set_option maxHeartbeats 2000000 in
set_option maxRecDepth 100000 in
theorem cm1_any (n c gb : Nat) (A : Option Addr) (bs : List UInt8) (hv : v = .slice A n c) (hn : n = bs.length) (hnm : n ≤ 100000) (hnc : n ≤ c) (hc : c ≤ maxLen) (hr : Rs W gb A bs) (hg : ¬ O gb) (hgl : gb < W.heap.size) :
    Calls Tryz.prog 72 #[.pointer (some ⟨bp, 0, none⟩), .pointer (some ⟨bb, 0, none⟩)] W fun e w' => e = .returned (.int .i64 ((writeP S (logN nm.data.toList) 0 bs).1 : Int)) ∧ FsA w' (fun i => O i ∨ W.heap.size ≤ i) f (writeP S (logN nm.data.toList) 0 bs).2 ∧ Ch O W w' := by
  subst hv
  have HL := Lib.hid (log_any p nm W.drew hK.p1 (by omega))
  have hWr := write_any f (fun i => O i ∨ W.heap.size ≤ i) S (nm ++ logS) 0 n c gb bs A W.drew (fun i hi => .inr hi) ((h.mono (fun i hi _ => .inl hi)).heap (fun _ _ _ => rfl)) (by rw [log_size]; omega) hst hn hnm hnc hc (hr.heap rfl) (fun _ e => by rcases e with e | e; exact hg e; omega) (fun _ => hgl)
  rw [log_list] at hWr
  have hS0 : W.drew.cell? ⟨bp, 0, none⟩ = some (.pointer (some ⟨p, 0, none⟩)) ∧ W.drew.cell? ⟨p, 0, none⟩ = some (.pointer (some ⟨f, 0, none⟩)) ∧ W.drew.cell? ⟨bb, 0, none⟩ = some (.slice A n c) := ⟨hK.bp0, hK.p0, hK.bb0⟩
  have HWr := Lib.hid (hWr.mono (R' := fun e w' => e = .returned (.int .i64 ((writeP S (logN nm.data.toList) 0 bs).1 : Int)) ∧ (w'.cell? ⟨bp, 0, none⟩ = some (.pointer (some ⟨p, 0, none⟩)) ∧ w'.cell? ⟨p, 0, none⟩ = some (.pointer (some ⟨f, 0, none⟩)) ∧ w'.cell? ⟨bb, 0, none⟩ = some (.slice A n c)) ∧ Hid (FsA w' (fun i => O i ∨ W.heap.size ≤ i) f (writeP S (logN nm.data.toList) 0 bs).2 ∧ Ch O W w')) (by
    rintro e w' ⟨rfl, h1, h2⟩
    have hc2 : Ch O W w' := ((Ch.refl O W).drew).trans h2 (fun i hi => hi)
    have hK2 := hK.ch hc2
    exact ⟨rfl, ⟨hK2.bp0, hK2.p0, hK2.bb0⟩, Lib.hid ⟨h1, hc2⟩⟩))
  obtain ⟨rc, hrc⟩ : ∃ rc, rc = (writeP S (logN nm.data.toList) 0 bs).1 := ⟨_, rfl⟩
  rw [← hrc] at HWr ⊢
  clear h hK hs hst hn hnm hnc hc hr hg hgl hWr hrc
  go_enter Tryz.func72, Tryz.ntmps72
  go_wp2_with fail
  go_region_held3 (fun w' => w'.cell? ⟨bp, 0, none⟩ = some (.pointer (some ⟨p, 0, none⟩)) ∧ w'.cell? ⟨p, 0, none⟩ = some (.pointer (some ⟨f, 0, none⟩)) ∧ w'.cell? ⟨bb, 0, none⟩ = some (.slice A n c)) (first | exact hS0 | exact hS5 | go_keep)
    (first
      | (go_at_call 35; with_reducible refine HL.out.mono ?_; rintro e w5 ⟨rfl, hw5⟩; subst hw5)
      | (go_at_call 73; with_reducible refine HWr.out.mono ?_; rintro e w6 ⟨rfl, hS5, H6⟩))
  go_wp2_with fail
  go_ret
  exact ⟨rfl, H6.out.1, H6.out.2⟩
set_option maxHeartbeats 2000000 in
set_option maxRecDepth 100000 in
theorem cm2_any : Calls Tryz.prog 74 #[.pointer (some ⟨bp, 0, none⟩)] W fun e w' => e = .returned (.int .i64 ((syncF S (logN nm.data.toList)).1 : Int)) ∧ FsA w' (fun i => O i ∨ W.heap.size ≤ i) f (syncF S (logN nm.data.toList)).2 ∧ Ch O W w' := by
  have HL := Lib.hid (log_any p nm W.drew hK.p1 (by omega))
  have hWr := sync_any f O S (nm ++ logS) W.drew (h.heap (fun _ _ _ => rfl)) (by rw [log_size]; omega) hst
  rw [log_list] at hWr
  have hS0 : W.drew.cell? ⟨bp, 0, none⟩ = some (.pointer (some ⟨p, 0, none⟩)) ∧ W.drew.cell? ⟨p, 0, none⟩ = some (.pointer (some ⟨f, 0, none⟩)) := ⟨hK.bp0, hK.p0⟩
  have HWr := Lib.hid (hWr.mono (R' := fun e w' => e = .returned (.int .i64 ((syncF S (logN nm.data.toList)).1 : Int)) ∧ (w'.cell? ⟨bp, 0, none⟩ = some (.pointer (some ⟨p, 0, none⟩)) ∧ w'.cell? ⟨p, 0, none⟩ = some (.pointer (some ⟨f, 0, none⟩))) ∧ Hid (FsA w' (fun i => O i ∨ W.heap.size ≤ i) f (syncF S (logN nm.data.toList)).2 ∧ Ch O W w')) (by
    rintro e w' ⟨rfl, h1, h2⟩
    have hc2 : Ch O W w' := ((Ch.refl O W).drew).trans h2 (fun i hi => .inl hi)
    have hK2 := hK.ch hc2
    exact ⟨rfl, ⟨hK2.bp0, hK2.p0⟩, Lib.hid ⟨h1.mono (fun i hi _ => .inl hi), hc2⟩⟩))
  obtain ⟨rc, hrc⟩ : ∃ rc, rc = (syncF S (logN nm.data.toList)).1 := ⟨_, rfl⟩
  rw [← hrc] at HWr ⊢
  clear h hK hs hst hWr hrc
  go_enter Tryz.func74, Tryz.ntmps74
  go_wp2_with fail
  go_region_held3 (fun w' => w'.cell? ⟨bp, 0, none⟩ = some (.pointer (some ⟨p, 0, none⟩)) ∧ w'.cell? ⟨p, 0, none⟩ = some (.pointer (some ⟨f, 0, none⟩))) (first | exact hS0 | exact hS5 | go_keep)
    (first
      | (go_at_call 35; with_reducible refine HL.out.mono ?_; rintro e w5 ⟨rfl, hw5⟩; subst hw5)
      | (go_at_call 75; with_reducible refine HWr.out.mono ?_; rintro e w6 ⟨rfl, hS5, H6⟩))
  go_wp2_with fail
  go_ret
  exact ⟨rfl, H6.out.1, H6.out.2⟩
set_option maxHeartbeats 2000000 in
set_option maxRecDepth 100000 in
theorem cm4_any : Calls Tryz.prog 77 #[.pointer (some ⟨bp, 0, none⟩)] W fun e w' => e = .returned (.int .i64 ((syncF S (logN nm.data.toList)).1 : Int)) ∧ FsA w' (fun i => O i ∨ W.heap.size ≤ i) f (syncF S (logN nm.data.toList)).2 ∧ Ch O W w' := by
  have HL := Lib.hid (log_any p nm W.drew hK.p1 (by omega))
  have hWr := sync_any f O S (nm ++ logS) W.drew (h.heap (fun _ _ _ => rfl)) (by rw [log_size]; omega) hst
  rw [log_list] at hWr
  have hS0 : W.drew.cell? ⟨bp, 0, none⟩ = some (.pointer (some ⟨p, 0, none⟩)) ∧ W.drew.cell? ⟨p, 0, none⟩ = some (.pointer (some ⟨f, 0, none⟩)) := ⟨hK.bp0, hK.p0⟩
  have HWr := Lib.hid (hWr.mono (R' := fun e w' => e = .returned (.int .i64 ((syncF S (logN nm.data.toList)).1 : Int)) ∧ (w'.cell? ⟨bp, 0, none⟩ = some (.pointer (some ⟨p, 0, none⟩)) ∧ w'.cell? ⟨p, 0, none⟩ = some (.pointer (some ⟨f, 0, none⟩))) ∧ Hid (FsA w' (fun i => O i ∨ W.heap.size ≤ i) f (syncF S (logN nm.data.toList)).2 ∧ Ch O W w')) (by
    rintro e w' ⟨rfl, h1, h2⟩
    have hc2 : Ch O W w' := ((Ch.refl O W).drew).trans h2 (fun i hi => .inl hi)
    have hK2 := hK.ch hc2
    exact ⟨rfl, ⟨hK2.bp0, hK2.p0⟩, Lib.hid ⟨h1.mono (fun i hi _ => .inl hi), hc2⟩⟩))
  obtain ⟨rc, hrc⟩ : ∃ rc, rc = (syncF S (logN nm.data.toList)).1 := ⟨_, rfl⟩
  rw [← hrc] at HWr ⊢
  clear h hK hs hst hWr hrc
  go_enter Tryz.func77, Tryz.ntmps77
  go_wp2_with fail
  go_region_held3 (fun w' => w'.cell? ⟨bp, 0, none⟩ = some (.pointer (some ⟨p, 0, none⟩)) ∧ w'.cell? ⟨p, 0, none⟩ = some (.pointer (some ⟨f, 0, none⟩))) (first | exact hS0 | exact hS5 | go_keep)
    (first
      | (go_at_call 35; with_reducible refine HL.out.mono ?_; rintro e w5 ⟨rfl, hw5⟩; subst hw5)
      | (go_at_call 75; with_reducible refine HWr.out.mono ?_; rintro e w6 ⟨rfl, hS5, H6⟩))
  go_wp2_with fail
  go_ret
  exact ⟨rfl, H6.out.1, H6.out.2⟩
set_option maxHeartbeats 2000000 in
set_option maxRecDepth 100000 in
theorem cm6_any : Calls Tryz.prog 79 #[.pointer (some ⟨bp, 0, none⟩)] W fun e w' => e = .returned (.int .i64 ((cutF S (logN nm.data.toList) 0).1 : Int)) ∧ FsA w' (fun i => O i ∨ W.heap.size ≤ i) f (cutF S (logN nm.data.toList) 0).2 ∧ Ch O W w' := by
  have HL := Lib.hid (log_any p nm W.drew hK.p1 (by omega))
  have hWr := cut_any f O S (nm ++ logS) 0 W.drew (h.heap (fun _ _ _ => rfl)) (by rw [log_size]; omega) hst
  rw [log_list] at hWr
  have hS0 : W.drew.cell? ⟨bp, 0, none⟩ = some (.pointer (some ⟨p, 0, none⟩)) ∧ W.drew.cell? ⟨p, 0, none⟩ = some (.pointer (some ⟨f, 0, none⟩)) := ⟨hK.bp0, hK.p0⟩
  have HWr := Lib.hid (hWr.mono (R' := fun e w' => e = .returned (.int .i64 ((cutF S (logN nm.data.toList) 0).1 : Int)) ∧ (w'.cell? ⟨bp, 0, none⟩ = some (.pointer (some ⟨p, 0, none⟩)) ∧ w'.cell? ⟨p, 0, none⟩ = some (.pointer (some ⟨f, 0, none⟩))) ∧ Hid (FsA w' (fun i => O i ∨ W.heap.size ≤ i) f (cutF S (logN nm.data.toList) 0).2 ∧ Ch O W w')) (by
    rintro e w' ⟨rfl, h1, h2⟩
    have hc2 : Ch O W w' := ((Ch.refl O W).drew).trans h2 (fun i hi => .inl hi)
    have hK2 := hK.ch hc2
    exact ⟨rfl, ⟨hK2.bp0, hK2.p0⟩, Lib.hid ⟨h1.mono (fun i hi _ => .inl hi), hc2⟩⟩))
  obtain ⟨rc, hrc⟩ : ∃ rc, rc = (cutF S (logN nm.data.toList) 0).1 := ⟨_, rfl⟩
  rw [← hrc] at HWr ⊢
  clear h hK hs hst hWr hrc
  go_enter Tryz.func79, Tryz.ntmps79
  go_wp2_with fail
  go_region_held3 (fun w' => w'.cell? ⟨bp, 0, none⟩ = some (.pointer (some ⟨p, 0, none⟩)) ∧ w'.cell? ⟨p, 0, none⟩ = some (.pointer (some ⟨f, 0, none⟩))) (first | exact hS0 | exact hS5 | go_keep)
    (first
      | (go_at_call 35; with_reducible refine HL.out.mono ?_; rintro e w5 ⟨rfl, hw5⟩; subst hw5)
      | (go_at_call 62; with_reducible refine HWr.out.mono ?_; rintro e w6 ⟨rfl, hS5, H6⟩))
  go_wp2_with fail
  go_ret
  exact ⟨rfl, H6.out.1, H6.out.2⟩
set_option maxHeartbeats 2000000 in
set_option maxRecDepth 100000 in
theorem cm5_any (V : Nat → Prop) (n c : Nat) (A : Option Addr) (l : List (Nat × List UInt8)) (cs : Array Value) (hp : Bk W p 67 cs) (hv : v = .slice A n c) (hr : RdWr W V A n l) (hV : ∀ i, V i → ¬ O i) (hno : ∀ q ∈ l, q.1 ≤ 16777216) (hlen : ∀ q ∈ l, q.2.length = 512) (hn : n ≤ 100000) (hst2 : S.stamp + n ≤ 1000000) :
    Calls Tryz.prog 78 #[.pointer (some ⟨bp, 0, none⟩), .pointer (some ⟨bb, 0, none⟩)] W fun e w' => e = .returned (.int .i64 ((layP nm.data.toList l S).1 : Int)) ∧ FsA w' (fun i => O i ∨ W.heap.size ≤ i) f (layP nm.data.toList l S).2 ∧ Ch O W w' := by
  have hst0 := hst
  clear hst0
  subst hv
  have HL := Lib.hid (lay_any f p O V S nm A n c l W cs h hp hK.pn hK.p0 hK.p1 hs hst2 hr hV hno hlen hn)
  have c1 := hK.bp0
  have c2 := hK.bb0
  obtain ⟨rc, hrc⟩ : ∃ rc, rc = (layP nm.data.toList l S).1 := ⟨_, rfl⟩
  rw [← hrc] at HL ⊢
  clear h hK hs hst hp hr hV hno hlen hn hst2 hrc
  go_enter Tryz.func78, Tryz.ntmps78
  go_wp2_with fail
  with_reducible refine HL.out.mono ?_
  rintro e w6 ⟨rfl, h5, h6⟩
  have H6 := Lib.hid (And.intro h5 h6)
  clear h5 h6
  go_wp2_with fail
  go_ret
  exact ⟨rfl, H6.out.1, H6.out.2⟩
set_option maxHeartbeats 4000000 in
set_option maxRecDepth 100000 in
theorem cm3_any (n c : Nat) (A : Option Addr) (hv : v = .slice A n c) :
    Calls Tryz.prog 76 #[.pointer (some ⟨bp, 0, none⟩), .pointer (some ⟨bb, 0, none⟩)] W fun e w' => e = .returned (.int .i64 ((writeP S (logN nm.data.toList) (n : Int) doneD).1 : Int)) ∧ FsA w' (fun i => O i ∨ W.heap.size ≤ i) f (writeP S (logN nm.data.toList) (n : Int) doneD).2 ∧ Ch O W w' := by
  subst hv
  have kc : ∀ (W : World) (C : Array Value) (n c g : Nat), g = W.heap.size → (convert 22 22 (.slice (some ⟨g, 0, none⟩) n c)).run Tryz.prog (W.alloc (.cells C 5)).drew = .ok (.slice (some ⟨g, 0, none⟩) n c) (W.alloc (.cells C 5 (C.size, C.size + 1))).drew :=
    fun W C n c g hg => Go.Joins.run_convert_bytes_const_at (P := Tryz.prog) W.drew 22 5 C n c g hg Tryz.underlying22 Tryz.underlying5
  obtain ⟨W2, hW2⟩ : ∃ W2, W2 = (W.alloc (.cells #[.int .u8 100, .int .u8 111, .int .u8 110, .int .u8 101] 5 (4, 5))).drew := ⟨_, rfl⟩
  have hk2 : ∀ i, i < W.heap.size → W2.heap[i]? = W.heap[i]? := fun i hi => by rw [hW2]; exact Below.heap_alloc W _ i hi
  have hz2 : W2.heap.size = W.heap.size + 1 := by rw [hW2]; simp
  have hc0 : Ch O W W2 := by rw [hW2]; exact ((Ch.refl O W).alloc _).drew
  have hKa := hK.ch (((Ch.refl O W).alloc (.cells #[.int .u8 100, .int .u8 111, .int .u8 110, .int .u8 101] 5)).drew)
  have hKb := hK.ch hc0
  have hL1 := log_any p nm W.drew hK.p1 (by omega)
  have hL2 := log_any p nm (W.alloc (.cells #[.int .u8 100, .int .u8 111, .int .u8 110, .int .u8 101] 5)).drew hKa.p1 (by omega)
  have hL3 := log_any p nm W2 hKb.p1 (by omega)
  have HL := Lib.hid (And.intro hL1 (And.intro hL2 hL3))
  have hWr := write_any f (fun i => (O i ∧ i < W.heap.size) ∨ W2.heap.size ≤ i) S (nm ++ logS) (n : Int) 4 4 W.heap.size doneD (some ⟨W.heap.size, 0, none⟩) W2 (fun i hi => .inr hi) (((h.mono (O' := fun i => O i ∧ i < W.heap.size) (fun i hi hl => ⟨hi, hl⟩)).heap (fun i hi _ => hk2 i hi.2)).mono (fun i hi _ => .inl hi)) (by rw [log_size]; omega) hst rfl (by omega) (Nat.le_refl _) (by unfold maxLen; decide)
    (by rw [hW2]; exact rs_new (l := doneD) (fr := (4, 5)) W #[.int .u8 100, .int .u8 111, .int .u8 110, .int .u8 101] 5 rfl) (fun _ e => by rcases e with ⟨_, e⟩ | e <;> omega) (fun _ => by omega)
  rw [log_list] at hWr
  have hS0 : W.drew.cell? ⟨bp, 0, none⟩ = some (.pointer (some ⟨p, 0, none⟩)) ∧ W.drew.cell? ⟨p, 0, none⟩ = some (.pointer (some ⟨f, 0, none⟩)) ∧ W.drew.cell? ⟨bb, 0, none⟩ = some (.slice A n c) := ⟨hK.bp0, hK.p0, hK.bb0⟩
  have hSa : (W.alloc (.cells #[.int .u8 100, .int .u8 111, .int .u8 110, .int .u8 101] 5)).drew.cell? ⟨bp, 0, none⟩ = some (.pointer (some ⟨p, 0, none⟩)) ∧ (W.alloc (.cells #[.int .u8 100, .int .u8 111, .int .u8 110, .int .u8 101] 5)).drew.cell? ⟨p, 0, none⟩ = some (.pointer (some ⟨f, 0, none⟩)) ∧ (W.alloc (.cells #[.int .u8 100, .int .u8 111, .int .u8 110, .int .u8 101] 5)).drew.cell? ⟨bb, 0, none⟩ = some (.slice A n c) := ⟨hKa.bp0, hKa.p0, hKa.bb0⟩
  have hSb : W2.cell? ⟨bp, 0, none⟩ = some (.pointer (some ⟨p, 0, none⟩)) ∧ W2.cell? ⟨p, 0, none⟩ = some (.pointer (some ⟨f, 0, none⟩)) ∧ W2.cell? ⟨bb, 0, none⟩ = some (.slice A n c) := ⟨hKb.bp0, hKb.p0, hKb.bb0⟩
  have HWr := Lib.hid (hWr.mono (R' := fun e w' => e = .returned (.int .i64 ((writeP S (logN nm.data.toList) (n : Int) doneD).1 : Int)) ∧ (w'.cell? ⟨bp, 0, none⟩ = some (.pointer (some ⟨p, 0, none⟩)) ∧ w'.cell? ⟨p, 0, none⟩ = some (.pointer (some ⟨f, 0, none⟩)) ∧ w'.cell? ⟨bb, 0, none⟩ = some (.slice A n c)) ∧ Hid (FsA w' (fun i => O i ∨ W.heap.size ≤ i) f (writeP S (logN nm.data.toList) (n : Int) doneD).2 ∧ Ch O W w')) (by
    rintro e w' ⟨rfl, h1, h2⟩
    have hc2 : Ch O W w' := hc0.trans h2 (fun i hi => by
      rcases hi with hi | hi
      · exact .inl hi.1
      · exact .inr (by omega))
    have hK2 := hK.ch hc2
    exact ⟨rfl, ⟨hK2.bp0, hK2.p0, hK2.bb0⟩, Lib.hid ⟨h1.mono (fun i hi _ => by
      rcases hi with hi | hi
      · exact .inl hi.1
      · exact .inr (by omega)), hc2⟩⟩))
  obtain ⟨rc, hrc⟩ : ∃ rc, rc = (writeP S (logN nm.data.toList) (n : Int) doneD).1 := ⟨_, rfl⟩
  rw [← hrc] at HWr ⊢
  subst hW2
  clear h hK hs hst hWr hrc hL1 hL2 hL3 hKa hKb hc0 hk2 hz2
  go_enter Tryz.func76, Tryz.ntmps76
  go_wp2_with fail
  refine wp_region_held (S := (fun w' => w'.cell? ⟨bp, 0, none⟩ = some (.pointer (some ⟨p, 0, none⟩)) ∧ w'.cell? ⟨p, 0, none⟩ = some (.pointer (some ⟨f, 0, none⟩)) ∧ w'.cell? ⟨bb, 0, none⟩ = some (.slice A n c))) (by kernel_rfl) ?_
  refine wpAnyH_take (i := 0) (oi := { dst := some 3, op := Op.load 26 (Operand.tmp 0), type := 26, pos := "pager.go:332", after := #[], guard := none }) (v := .pointer (some ⟨p, 0, none⟩)) rfl (by kernel_rfl) (by kernel_rfl) (by kernel_rfl) (fun _ _ _ h => h) (.inl ⟨by rfl, fun w' hw' => ?_⟩) (by (first | exact hS0 | exact hSa | exact hSb | exact hS5)) ?_
  · obtain ⟨x1, x2, x3⟩ := hw'
    go_simp
  try simp only [Act.put, List.setIfInBounds_toArray, List.set_cons_zero, List.set_cons_succ]
  refine wpAnyH_take (i := 1) (oi := { dst := some 4, op := Op.nilCheck (Operand.tmp 3), type := 0, pos := "pager.go:332", after := #[{ on := 0, ground := Ground.data }], guard := none }) (v := .pointer (some ⟨p, 0, none⟩)) rfl (by kernel_rfl) (by kernel_rfl) (by kernel_rfl) (fun _ _ _ h => h) (.inl ⟨by rfl, fun w' hw' => ?_⟩) (by (first | exact hS0 | exact hSa | exact hSb | exact hS5)) ?_
  · obtain ⟨x1, x2, x3⟩ := hw'
    go_simp
  try simp only [Act.put, List.setIfInBounds_toArray, List.set_cons_zero, List.set_cons_succ]
  refine wpAnyH_take (i := 2) (oi := { dst := some 5, op := Op.fieldAddr 67 (Operand.tmp 4) 0, type := 0, pos := "pager.go:332", after := #[{ on := 1, ground := Ground.data }], guard := none }) (v := .pointer (some ⟨p, 0, none⟩)) rfl (by kernel_rfl) (by kernel_rfl) (by kernel_rfl) (fun _ _ _ h => h) (.inl ⟨by rfl, fun w' hw' => ?_⟩) (by (first | exact hS0 | exact hSa | exact hSb | exact hS5)) ?_
  · obtain ⟨x1, x2, x3⟩ := hw'
    go_simp
  try simp only [Act.put, List.setIfInBounds_toArray, List.set_cons_zero, List.set_cons_succ]
  refine wpAnyH_take (i := 3) (oi := { dst := some 6, op := Op.load 24 (Operand.tmp 5), type := 24, pos := "pager.go:332", after := #[{ on := 2, ground := Ground.data }], guard := none }) (v := .pointer (some ⟨f, 0, none⟩)) rfl (by kernel_rfl) (by kernel_rfl) (by kernel_rfl) (fun _ _ _ h => h) (.inl ⟨by rfl, fun w' hw' => ?_⟩) (by (first | exact hS0 | exact hSa | exact hSb | exact hS5)) ?_
  · obtain ⟨x1, x2, x3⟩ := hw'
    go_simp
  try simp only [Act.put, List.setIfInBounds_toArray, List.set_cons_zero, List.set_cons_succ]
  refine wpAnyH_take (i := 4) (oi := { dst := some 7, op := Op.load 26 (Operand.tmp 0), type := 26, pos := "pager.go:332", after := #[], guard := none }) (v := .pointer (some ⟨p, 0, none⟩)) rfl (by kernel_rfl) (by kernel_rfl) (by kernel_rfl) (fun _ _ _ h => h) (.inl ⟨by rfl, fun w' hw' => ?_⟩) (by (first | exact hS0 | exact hSa | exact hSb | exact hS5)) ?_
  · obtain ⟨x1, x2, x3⟩ := hw'
    go_simp
  try simp only [Act.put, List.setIfInBounds_toArray, List.set_cons_zero, List.set_cons_succ]
  refine wpAnyH_take (i := 6) (oi := { dst := some 9, op := Op.load 22 (Operand.tmp 1), type := 22, pos := "pager.go:332", after := #[], guard := none }) (v := .slice A n c) rfl (by kernel_rfl) (by kernel_rfl) (by kernel_rfl) (fun _ _ _ h => h) (.inl ⟨by rfl, fun w' hw' => ?_⟩) (by (first | exact hS0 | exact hSa | exact hSb | exact hS5)) ?_
  · obtain ⟨x1, x2, x3⟩ := hw'
    go_simp
  try simp only [Act.put, List.setIfInBounds_toArray, List.set_cons_zero, List.set_cons_succ]
  refine wpAnyH_take (i := 7) (oi := { dst := some 10, op := Op.call { callee := Callee.builtin Builtin.len, args := #[Operand.tmp 9], argTypes := #[22] }, type := 3, pos := "pager.go:332", after := #[{ on := 6, ground := Ground.data }], guard := none }) (v := .int .i64 (n : Int)) rfl (by kernel_rfl) (by kernel_rfl) (by kernel_rfl) (fun _ _ _ h => h) (.inl ⟨by rfl, fun w' hw' => ?_⟩) (by (first | exact hS0 | exact hSa | exact hSb | exact hS5)) ?_
  · obtain ⟨x1, x2, x3⟩ := hw'
    go_simp
  try simp only [Act.put, List.setIfInBounds_toArray, List.set_cons_zero, List.set_cons_succ]
  refine wpAnyH_ready (rs := [5, 8]) (by kernel_rfl) (by simp) ?_
  refine AllReadyH.cons (o := { dst := some 8, op := Op.call { callee := Callee.value (Operand.func 35), args := #[Operand.tmp 7], argTypes := #[26] }, type := 9, pos := "pager.go:332", after := #[{ on := 4, ground := Ground.data }], guard := none }) rfl (fun K hK => ?_) ?_
  · (go_simp; go_at_call 35; (first | with_reducible refine HL.out.1.mono ?_ | with_reducible refine HL.out.2.1.mono ?_ | with_reducible refine HL.out.2.2.mono ?_); rintro e w5 ⟨rfl, hw5⟩; subst hw5; go_wp2_with fail)
    refine hK.out _ _ (by (first | exact hS0 | exact hSa | exact hSb | exact hS5)) (fun hHeld => ?_)
    clear hK K
    try simp only [Act.put, List.setIfInBounds_toArray, List.set_cons_zero, List.set_cons_succ]
    refine wpAnyH_ready (rs := [8]) (by kernel_rfl) (by simp) ?_
    refine AllReadyH.cons (o := { dst := some 11, op := Op.buildSlice 22 4 #[(0, Operand.const (Value.int IntKind.u8 100)), (1, Operand.const (Value.int IntKind.u8 111)), (2, Operand.const (Value.int IntKind.u8 110)), (3, Operand.const (Value.int IntKind.u8 101))], type := 22, pos := "pager.go:332", after := #[], guard := none }) rfl (fun K hK => ?_) ?_
    · go_simp
      refine hK.out _ _ (by (first | exact hS0 | exact hSa | exact hSb | exact hS5)) (fun hHeld => ?_)
      clear hK K
      try simp only [Act.put, List.setIfInBounds_toArray, List.set_cons_zero, List.set_cons_succ]
      refine wpAnyH_ready (rs := [9]) (by kernel_rfl) (by simp) ?_
      refine AllReadyH.cons (o := { dst := some 12, op := Op.convert 22 22 (Operand.tmp 11), type := 22, pos := "pager.go:332", after := #[{ on := 8, ground := Ground.data }], guard := none }) rfl (fun K hK => ?_) ?_
      · go_simp
        refine hK.out _ _ (by (first | exact hS0 | exact hSa | exact hSb | exact hS5)) (fun hHeld => ?_)
        clear hK K
        try simp only [Act.put, List.setIfInBounds_toArray, List.set_cons_zero, List.set_cons_succ]
        refine wpAnyH_ready (rs := [10]) (by kernel_rfl) (by simp) ?_
        refine AllReadyH.cons (o := { dst := some 13, op := Op.call { callee := Callee.value (Operand.func 73), args := #[Operand.tmp 6, Operand.tmp 8, Operand.tmp 10, Operand.tmp 12], argTypes := #[24, 9, 3, 22] }, type := 27, pos := "pager.go:332", after := #[{ on := 3, ground := Ground.data }, { on := 5, ground := Ground.data }, { on := 7, ground := Ground.data }, { on := 9, ground := Ground.data }, { on := 5, ground := Ground.chain }], guard := none }) rfl (fun K hK => ?_) ?_
        · (go_simp; go_at_call 73; with_reducible refine HWr.out.mono ?_; rintro e w6 ⟨rfl, hS5, H6⟩; go_wp2_with fail)
          refine hK.out _ _ (by (first | exact hS0 | exact hSa | exact hSb | exact hS5)) (fun hHeld => ?_)
          clear hK K
          try simp only [Act.put, List.setIfInBounds_toArray, List.set_cons_zero, List.set_cons_succ]
          refine wpAnyH_take (i := 11) (oi := { dst := some 2, op := Op.assign (Operand.tmp 13), type := 27, pos := "pager.go:332", after := #[{ on := 10, ground := Ground.data }, { on := 10, ground := Ground.chain }, { on := 0, ground := Ground.phase }, { on := 1, ground := Ground.phase }, { on := 2, ground := Ground.phase }, { on := 3, ground := Ground.phase }, { on := 4, ground := Ground.phase }, { on := 5, ground := Ground.phase }, { on := 6, ground := Ground.phase }, { on := 7, ground := Ground.phase }, { on := 8, ground := Ground.phase }, { on := 9, ground := Ground.phase }, { on := 10, ground := Ground.phase }], guard := none }) (v := .int .i64 (rc : Int)) rfl (by kernel_rfl) (by kernel_rfl) (by kernel_rfl) (fun _ _ _ h => h) (.inl ⟨by rfl, fun w' hw' => ?_⟩) (by (first | exact hS0 | exact hSa | exact hSb | exact hS5)) ?_
          · obtain ⟨x1, x2, x3⟩ := hw'
            go_simp
          try simp only [Act.put, List.setIfInBounds_toArray, List.set_cons_zero, List.set_cons_succ]
          refine wpAnyH_done (by kernel_rfl) ?_ _
          go_wp2_with fail
          go_ret
          exact ⟨rfl, H6.out.1, H6.out.2⟩
        exact AllReadyH.nil
      exact AllReadyH.nil
    exact AllReadyH.nil
  refine AllReadyH.cons (o := { dst := some 11, op := Op.buildSlice 22 4 #[(0, Operand.const (Value.int IntKind.u8 100)), (1, Operand.const (Value.int IntKind.u8 111)), (2, Operand.const (Value.int IntKind.u8 110)), (3, Operand.const (Value.int IntKind.u8 101))], type := 22, pos := "pager.go:332", after := #[], guard := none }) rfl (fun K hK => ?_) ?_
  · go_simp
    refine hK.out _ _ (by (first | exact hS0 | exact hSa | exact hSb | exact hS5)) (fun hHeld => ?_)
    clear hK K
    try simp only [Act.put, List.setIfInBounds_toArray, List.set_cons_zero, List.set_cons_succ]
    refine wpAnyH_ready (rs := [5, 9]) (by kernel_rfl) (by simp) ?_
    refine AllReadyH.cons (o := { dst := some 8, op := Op.call { callee := Callee.value (Operand.func 35), args := #[Operand.tmp 7], argTypes := #[26] }, type := 9, pos := "pager.go:332", after := #[{ on := 4, ground := Ground.data }], guard := none }) rfl (fun K hK => ?_) ?_
    · (go_simp; go_at_call 35; (first | with_reducible refine HL.out.1.mono ?_ | with_reducible refine HL.out.2.1.mono ?_ | with_reducible refine HL.out.2.2.mono ?_); rintro e w5 ⟨rfl, hw5⟩; subst hw5; go_wp2_with fail)
      refine hK.out _ _ (by (first | exact hS0 | exact hSa | exact hSb | exact hS5)) (fun hHeld => ?_)
      clear hK K
      try simp only [Act.put, List.setIfInBounds_toArray, List.set_cons_zero, List.set_cons_succ]
      refine wpAnyH_ready (rs := [9]) (by kernel_rfl) (by simp) ?_
      refine AllReadyH.cons (o := { dst := some 12, op := Op.convert 22 22 (Operand.tmp 11), type := 22, pos := "pager.go:332", after := #[{ on := 8, ground := Ground.data }], guard := none }) rfl (fun K hK => ?_) ?_
      · go_simp
        refine hK.out _ _ (by (first | exact hS0 | exact hSa | exact hSb | exact hS5)) (fun hHeld => ?_)
        clear hK K
        try simp only [Act.put, List.setIfInBounds_toArray, List.set_cons_zero, List.set_cons_succ]
        refine wpAnyH_ready (rs := [10]) (by kernel_rfl) (by simp) ?_
        refine AllReadyH.cons (o := { dst := some 13, op := Op.call { callee := Callee.value (Operand.func 73), args := #[Operand.tmp 6, Operand.tmp 8, Operand.tmp 10, Operand.tmp 12], argTypes := #[24, 9, 3, 22] }, type := 27, pos := "pager.go:332", after := #[{ on := 3, ground := Ground.data }, { on := 5, ground := Ground.data }, { on := 7, ground := Ground.data }, { on := 9, ground := Ground.data }, { on := 5, ground := Ground.chain }], guard := none }) rfl (fun K hK => ?_) ?_
        · (go_simp; go_at_call 73; with_reducible refine HWr.out.mono ?_; rintro e w6 ⟨rfl, hS5, H6⟩; go_wp2_with fail)
          refine hK.out _ _ (by (first | exact hS0 | exact hSa | exact hSb | exact hS5)) (fun hHeld => ?_)
          clear hK K
          try simp only [Act.put, List.setIfInBounds_toArray, List.set_cons_zero, List.set_cons_succ]
          refine wpAnyH_take (i := 11) (oi := { dst := some 2, op := Op.assign (Operand.tmp 13), type := 27, pos := "pager.go:332", after := #[{ on := 10, ground := Ground.data }, { on := 10, ground := Ground.chain }, { on := 0, ground := Ground.phase }, { on := 1, ground := Ground.phase }, { on := 2, ground := Ground.phase }, { on := 3, ground := Ground.phase }, { on := 4, ground := Ground.phase }, { on := 5, ground := Ground.phase }, { on := 6, ground := Ground.phase }, { on := 7, ground := Ground.phase }, { on := 8, ground := Ground.phase }, { on := 9, ground := Ground.phase }, { on := 10, ground := Ground.phase }], guard := none }) (v := .int .i64 (rc : Int)) rfl (by kernel_rfl) (by kernel_rfl) (by kernel_rfl) (fun _ _ _ h => h) (.inl ⟨by rfl, fun w' hw' => ?_⟩) (by (first | exact hS0 | exact hSa | exact hSb | exact hS5)) ?_
          · obtain ⟨x1, x2, x3⟩ := hw'
            go_simp
          try simp only [Act.put, List.setIfInBounds_toArray, List.set_cons_zero, List.set_cons_succ]
          refine wpAnyH_done (by kernel_rfl) ?_ _
          go_wp2_with fail
          go_ret
          exact ⟨rfl, H6.out.1, H6.out.2⟩
        exact AllReadyH.nil
      exact AllReadyH.nil
    refine AllReadyH.cons (o := { dst := some 12, op := Op.convert 22 22 (Operand.tmp 11), type := 22, pos := "pager.go:332", after := #[{ on := 8, ground := Ground.data }], guard := none }) rfl (fun K hK => ?_) ?_
    · go_simp
      refine hK.out _ _ (by (first | exact hS0 | exact hSa | exact hSb | exact hS5)) (fun hHeld => ?_)
      clear hK K
      try simp only [Act.put, List.setIfInBounds_toArray, List.set_cons_zero, List.set_cons_succ]
      refine wpAnyH_ready (rs := [5]) (by kernel_rfl) (by simp) ?_
      refine AllReadyH.cons (o := { dst := some 8, op := Op.call { callee := Callee.value (Operand.func 35), args := #[Operand.tmp 7], argTypes := #[26] }, type := 9, pos := "pager.go:332", after := #[{ on := 4, ground := Ground.data }], guard := none }) rfl (fun K hK => ?_) ?_
      · (go_simp; go_at_call 35; (first | with_reducible refine HL.out.1.mono ?_ | with_reducible refine HL.out.2.1.mono ?_ | with_reducible refine HL.out.2.2.mono ?_); rintro e w5 ⟨rfl, hw5⟩; subst hw5; go_wp2_with fail)
        refine hK.out _ _ (by (first | exact hS0 | exact hSa | exact hSb | exact hS5)) (fun hHeld => ?_)
        clear hK K
        try simp only [Act.put, List.setIfInBounds_toArray, List.set_cons_zero, List.set_cons_succ]
        refine wpAnyH_ready (rs := [10]) (by kernel_rfl) (by simp) ?_
        refine AllReadyH.cons (o := { dst := some 13, op := Op.call { callee := Callee.value (Operand.func 73), args := #[Operand.tmp 6, Operand.tmp 8, Operand.tmp 10, Operand.tmp 12], argTypes := #[24, 9, 3, 22] }, type := 27, pos := "pager.go:332", after := #[{ on := 3, ground := Ground.data }, { on := 5, ground := Ground.data }, { on := 7, ground := Ground.data }, { on := 9, ground := Ground.data }, { on := 5, ground := Ground.chain }], guard := none }) rfl (fun K hK => ?_) ?_
        · (go_simp; go_at_call 73; with_reducible refine HWr.out.mono ?_; rintro e w6 ⟨rfl, hS5, H6⟩; go_wp2_with fail)
          refine hK.out _ _ (by (first | exact hS0 | exact hSa | exact hSb | exact hS5)) (fun hHeld => ?_)
          clear hK K
          try simp only [Act.put, List.setIfInBounds_toArray, List.set_cons_zero, List.set_cons_succ]
          refine wpAnyH_take (i := 11) (oi := { dst := some 2, op := Op.assign (Operand.tmp 13), type := 27, pos := "pager.go:332", after := #[{ on := 10, ground := Ground.data }, { on := 10, ground := Ground.chain }, { on := 0, ground := Ground.phase }, { on := 1, ground := Ground.phase }, { on := 2, ground := Ground.phase }, { on := 3, ground := Ground.phase }, { on := 4, ground := Ground.phase }, { on := 5, ground := Ground.phase }, { on := 6, ground := Ground.phase }, { on := 7, ground := Ground.phase }, { on := 8, ground := Ground.phase }, { on := 9, ground := Ground.phase }, { on := 10, ground := Ground.phase }], guard := none }) (v := .int .i64 (rc : Int)) rfl (by kernel_rfl) (by kernel_rfl) (by kernel_rfl) (fun _ _ _ h => h) (.inl ⟨by rfl, fun w' hw' => ?_⟩) (by (first | exact hS0 | exact hSa | exact hSb | exact hS5)) ?_
          · obtain ⟨x1, x2, x3⟩ := hw'
            go_simp
          try simp only [Act.put, List.setIfInBounds_toArray, List.set_cons_zero, List.set_cons_succ]
          refine wpAnyH_done (by kernel_rfl) ?_ _
          go_wp2_with fail
          go_ret
          exact ⟨rfl, H6.out.1, H6.out.2⟩
        exact AllReadyH.nil
      exact AllReadyH.nil
    exact AllReadyH.nil
  exact AllReadyH.nil
end
end Go.Proofs.YtoadamkmabkldaaGreatDoor
