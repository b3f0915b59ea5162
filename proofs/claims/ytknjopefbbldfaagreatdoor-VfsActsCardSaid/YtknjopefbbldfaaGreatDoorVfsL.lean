/- Contracts of package vfs: Names. -/
import Derived.Test.YtknjopefbbldfaaGreatDoorVfsX
namespace Go.Proofs.YtknjopefbbldfaaGreatDoor
open Go.RowKit Go.Sort Go.Shelf Go.Lib
attribute [local go_sem ↓] Go.wp_at_zero Go.wp_at_succ

/-- The names that begin so. -/
def namesP (S : FsP) (h : List UInt8) : List (List UInt8) := (S.fs.map (·.1)).filter fun n => Lib.hasPrefix n h
theorem pre_gives (n : List UInt8) (head : ByteArray) (B : Nat) (W : World) (hc : W.cell? ⟨B, 0, none⟩ = some (.string head)) :
    FnGives Tryz.prog 54 #[.pointer (some ⟨B, 0, none⟩)] #[encStr n] (.bool (!Lib.hasPrefix n head.data.toList)) W := by
  show Calls Tryz.prog 54 #[.string ⟨n.toArray⟩, .pointer (some ⟨B, 0, none⟩)] W _
  have hP : ∀ W, Calls Tryz.prog 55 #[.string ⟨n.toArray⟩, .string head] W fun e w' => e = .returned (.bool (Lib.hasPrefix n head.data.toList)) ∧ w' = W := fun W => Any.strings_HasPrefix Tryz.prefL ⟨n.toArray⟩ head W
  have HP := Lib.hid hP
  clear hP
  generalize Lib.hasPrefix n head.data.toList = b at *
  go_enter Tryz.func54, Tryz.ntmps54
  go_wp2_with (go_at_call 55; refine (HP.out _).mono ?_; rintro e w1 ⟨rfl, hw1⟩; subst hw1)
  go_ret
  exact ⟨rfl, 0, rfl⟩
theorem pre_at (head : ByteArray) (B : Nat) (w : World) (hB : B < w.heap.size) (hc : w.cell? ⟨B, 0, none⟩ = some (.string head)) :
    PredAt Tryz.prog 54 #[.pointer (some ⟨B, 0, none⟩)] encStr (fun n => !Lib.hasPrefix n head.data.toList) w :=
  fun W x hb => pre_gives x head B W ((hb.cell (p := ⟨B, 0, none⟩) hB).trans hc)
theorem pre_over (head : ByteArray) (B blk off size : Nat) (w : World) (hB : B < w.heap.size) (hne : B ≠ blk) (hc : w.cell? ⟨B, 0, none⟩ = some (.string head)) :
    PredOver Tryz.prog 54 #[.pointer (some ⟨B, 0, none⟩)] encStr (fun n => !Lib.hasPrefix n head.data.toList) blk off size w :=
  fun n os dk x _ => pre_gives x head B _ (by
    unfold sortWorld
    rw [cell?_grow _ _ _ (by show B < (putRow _ _ _ _ _).heap.size; rw [size_putRow]; exact hB), cell?_putRow_other _ _ blk off _ _ (Or.inl hne)]
    exact hc)
theorem own_holds {w : World} {base g n c : Nat} {e : TypeId} {l : List (List UInt8)} (h : w.ownsRow base e 1 (.slice (some ⟨g, 0, none⟩) n c) n (nms l)) : Holds encStr w g 0 l.toArray := fun j hj => by
  have hj' : j < l.length := by simpa using hj
  refine ⟨?_, by rw [Nat.zero_add]; exact h.frozenAt j⟩
  have := h.cells (g := g) rfl j (encStr l[j]) (by simp [nms, hj'])
  rw [addLit] at this
  rw [this]
  simp [hj']
set_option maxHeartbeats 4000000 in
set_option maxRecDepth 100000 in
/-- DeleteFunc, where there is nothing. -/
theorem del_none (g : FuncId) (lb : Array Value) (w : World) :
    Calls Tryz.prog 53 #[.slice none 0 0, .func (.func g) #[] lb] w fun e w' => e = .returned (.slice none 0 0) ∧ Below w.heap.size w w' := by
  have HI : Hid (∀ W, Calls Tryz.prog 60 #[.slice none 0 0, .func (.func g) #[] lb] W fun e w' => e = .returned (.int .i64 (-1)) ∧ Below W.heap.size W w') := Lib.hid (fun W => by
    go_enter Tryz.func60, Tryz.ntmps60
    go_wp2_with fail
    go_loopw [8] (fun s8 wr => s8 = .int .i64 0 ∧ Hid (Below W.heap.size W wr)) (fun _ _ => 0)
    case atStart => exact ⟨rfl, Lib.hid (Below.refl _ _)⟩
    case round =>
      obtain ⟨rfl, hrel⟩ := hrel
      go_wp2_with fail
      go_ret
      exact ⟨rfl, hrel.out⟩)
  go_enter Tryz.func53, Tryz.ntmps53
  go_wp2_with fail
  with_reducible refine (HI.out _).mono ?_
  rintro e w1 ⟨rfl, b1⟩
  have B1 := Lib.hid b1
  clear b1
  go_wp2_with fail
  go_ret
  exact ⟨rfl, B1.out⟩
set_option maxHeartbeats 4000000 in
set_option maxRecDepth 100000 in
theorem names_head (f m : Nat) (bl gl : List UInt8 → Nat) (sv : List UInt8 → Value) (S : FsP) (head : ByteArray) (w : World) (h : FsM w f m bl gl sv S) (hst : S.stamp ≤ 1000000) :
    Calls Tryz.prog 28 #[.pointer (some ⟨f, 0, none⟩), .string head] w fun e w' => ∃ A n c, e = .returned (.slice A n c) ∧ n = (if S.down then 0 else (namesP S head.data.toList).length) ∧ n ≤ c ∧ c ≤ maxLen ∧ (S.down = false → Rd w' w'.heap.size 1 A n (nms (namesP S head.data.toList))) ∧ Below w.heap.size w w' := by
  have HA := Lib.hid (show Below w.heap.size w (w.alloc (.cells #[.string head] 9)) from (Below.refl _ _).alloc (Nat.le_refl _) _)
  have c3 : (w.alloc (.cells #[.string head] 9)).cell? ⟨f, 3, none⟩ = some (.bool S.down) := (h.hd.alloc _).cell 3
  cases hd : S.down with
  | true =>
    rw [hd] at c3
    clear h hst
    go_enter Tryz.func28, Tryz.ntmps28
    go_wp2_with fail
    go_ret
    refine ⟨none, 0, 0, rfl, by first | rfl | simp, Nat.le_refl _, Nat.zero_le _, ?_⟩
    first | exact HA.out | exact ⟨fun e => by simp at e, HA.out⟩
  | false =>
    rw [hd] at c3
    have HM := Lib.hid (show FsM (w.alloc (.cells #[.string head] 9)) f m bl gl sv S from h.heap (fun i hi => Below.heap_alloc w _ i (h.lt i hi)))
    have hbox : (w.alloc (.cells #[.string head] 9)).cell? ⟨w.heap.size, 0, none⟩ = some (.string head) := (Bk.new w 9 #[.string head]).cell 0
    have hz1 : w.heap.size < (w.alloc (.cells #[.string head] 9)).heap.size := by simp
    have HB := Lib.hid (And.intro hbox hz1)
    have HN := Lib.hid (names_any f m bl gl sv S _ HM.out hst)
    clear h hst hbox hz1
    go_enter Tryz.func28, Tryz.ntmps28
    go_wp2_with fail
    generalize w.alloc (.cells #[.string head] 9) = wa at *
    with_reducible refine HN.out.mono ?_
    rintro e w2 ⟨A, c, rfl, hown, hc1, hc2, hb2, hnil⟩
    have HX := Lib.hid (And.intro hown (And.intro hc1 (And.intro hc2 hb2)))
    rcases Nat.eq_zero_or_pos S.fs.length with h0 | h0
    · have hfs := List.eq_nil_of_length_eq_zero h0
      obtain ⟨hA, hc⟩ := hnil hfs
      have HD := Lib.hid (fun g lb W => del_none g lb W)
      have Hfs := Lib.hid hfs
      clear hown hc1 hc2 hb2 hnil hfs
      subst hA hc
      rw [h0]
      clear h0
      go_wp2_with fail
      with_reducible refine (HD.out _ _ _).mono ?_
      rintro e w3 ⟨rfl, b3⟩
      have B3 := Lib.hid b3
      clear b3
      go_wp2_with fail
      go_ret
      have hnm : namesP S head.data.toList = [] := by unfold namesP; rw [Hfs.out]; rfl
      exact ⟨none, 0, 0, rfl, by rw [hnm]; rfl, Nat.le_refl _, Nat.zero_le _, by first | (intro _; rw [hnm]; exact Rd.nil_) | (rw [hnm]; exact Rd.nil_), (HA.out.trans (HX.out.2.2.2.mono HA.out.size)).trans (B3.out.mono (Nat.le_trans HA.out.size HX.out.2.2.2.size))⟩
    · obtain ⟨g, c', hA, hg1, hg2, _⟩ := own_pos hown h0
      injection hA with hA1 hA2 hA3
      subst hA1 hA3
      have hH := own_holds hown
      have hbox2 : w2.cell? ⟨w.heap.size, 0, none⟩ = some (.string head) := (hb2.cell (p := ⟨w.heap.size, 0, none⟩) HB.out.2).trans HB.out.1
      have hsz2 := hb2.size
      have hlen : (S.fs.map (·.1)).toArray.size = S.fs.length := by simp
      have eg : ∀ args w, (callFunc 54 args).run Tryz.prog w = .ok (.enter 54 args) w := enters_of Tryz.func54 (by kernel_rfl) rfl
      have hcon := AnyE.slices_DeleteFunc Tryz.delV encStr (fun _ => rfl) (fun n => !Lib.hasPrefix n head.data.toList) 54 #[.pointer (some ⟨w.heap.size, 0, none⟩)] eg ([] : List UInt8) (fun w => Tryz.zeroValue9 w) g 0 c (S.fs.map (·.1)).toArray w2
        (pre_at head w.heap.size w2 (by have := HB.out.2; omega) hbox2) (pre_over head w.heap.size g 0 _ w2 (by have := HB.out.2; omega) (by have := HB.out.2; omega) hbox2) hH (by rw [hlen]; unfold maxLen at hc2; omega) (by rw [hlen]; exact hc1)
      have hfl : ((S.fs.map (·.1)).toArray.toList.filter fun x => !(!Lib.hasPrefix x head.data.toList)) = namesP S head.data.toList := by
        unfold namesP
        simp only [Bool.not_not]
      rw [hfl, hlen] at hcon
      have hle : (namesP S head.data.toList).length ≤ S.fs.length := by
        unfold namesP
        have := List.length_filter_le (fun n => Lib.hasPrefix n head.data.toList) (S.fs.map (·.1))
        simpa using this
      have HD := Lib.hid (show Calls Tryz.prog 53 #[.slice (some ⟨g, 0, none⟩) S.fs.length c, .func (.func 54) #[] #[.pointer (some ⟨w.heap.size, 0, none⟩)]] w2 fun e w' => e = .returned (.slice (some ⟨g, 0, none⟩) (namesP S head.data.toList).length c) ∧ Rd w' w'.heap.size 1 (some ⟨g, 0, none⟩) (namesP S head.data.toList).length (nms (namesP S head.data.toList)) ∧ Below wa.heap.size w2 w' from hcon.mono (by
        rintro e w' ⟨rfl, q, rfl⟩
        have hH' : Holds encStr (Sort.ahead w2 q) g 0 (S.fs.map (·.1)).toArray := hH
        have hsz : (namesP S head.data.toList ++ List.replicate (S.fs.length - (namesP S head.data.toList).length) ([] : List UInt8)).toArray.size = (S.fs.map (·.1)).toArray.size := by
          rw [hlen]; simp; omega
        refine ⟨rfl, ⟨by simp [nms], fun h1 => ⟨g, 0, rfl, by rw [size_putRow]; exact hg2, fun j u hu => ?_⟩⟩, ?_⟩
        · unfold nms at hu
          rw [List.getElem?_map, Option.map_eq_some_iff] at hu
          obtain ⟨y, hy, rfl⟩ := hu
          have hj : j < (namesP S head.data.toList).length := (List.getElem?_eq_some_iff.1 hy).1
          rw [cell?_putRow encStr _ g 0 _ _ hH' hsz j (by rw [hsz, hlen]; omega)]
          congr 2
          have hjt : j < (namesP S head.data.toList ++ List.replicate (S.fs.length - (namesP S head.data.toList).length) ([] : List UInt8)).toArray.size := by rw [hsz, hlen]; omega
          rw [getElem!_pos _ j hjt]
          have e1 := (List.getElem?_eq_some_iff.1 hy).2
          simp only [List.getElem_toArray]
          rw [List.getElem_append_left hj, e1]
        · have hgb := grownBy_sorted (w := w2) (g := g) (n := q) (os := #[]) (namesP S head.data.toList ++ List.replicate (S.fs.length - (namesP S head.data.toList).length) ([] : List UInt8)).toArray
          rw [grow_empty] at hgb
          exact (Below.refl wa.heap.size w2).grown hgb hsz2 (fun k hk => by injection hk with hk; omega)))
      have Hle := Lib.hid hle
      clear hown hc1 hc2 hb2 hnil hH hbox2 hsz2 hlen eg hcon hfl hle hg1 hg2 h0
      obtain ⟨L, hL⟩ : ∃ L, L = namesP S head.data.toList := ⟨_, rfl⟩
      rw [← hL] at HD Hle
      have HL := Lib.hid hL
      clear hL
      go_wp2_with fail
      with_reducible refine HD.out.mono ?_
      rintro e w3 ⟨rfl, r3, b3⟩
      have R3 := Lib.hid (And.intro r3 b3)
      clear r3 b3
      go_wp2_with fail
      go_ret
      have hL := HL.out
      subst hL
      exact ⟨_, _, c, rfl, by first | rfl | simp, Nat.le_trans Hle.out HX.out.2.1, HX.out.2.2.1, by first | exact R3.out.1 | exact fun _ => R3.out.1, (HA.out.trans (HX.out.2.2.2.mono HA.out.size)).trans (R3.out.2.mono HA.out.size)⟩
end Go.Proofs.YtknjopefbbldfaaGreatDoor
