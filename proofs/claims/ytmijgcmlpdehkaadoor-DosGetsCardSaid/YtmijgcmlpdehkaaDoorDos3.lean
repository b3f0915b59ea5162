/- The contract of dos.Parse. -/
import Derived.Test.YtmijgcmlpdehkaaDoorDos2
import Derived.Test.YtmijgcmlpdehkaaDoorDosQ
import Derived.Test.YtmijgcmlpdehkaaDoorCh
namespace Go.Proofs.YtmijgcmlpdehkaaDoor
open Go.RowKit

set_option maxHeartbeats 1000000 in
theorem parse_len (s : ByteArray) (w : World) (h : ¬ (s.size = 10 ∨ s.size = 19)) :
    Calls Tryd.prog 10 #[.string s] w fun e w' => e = .returned (.tuple #[.int .i64 0, .bool false]) ∧ Below w.heap.size w w' := by
  have h10 : ((s.size : Int) != 10) = true := by rw [bne_iff_ne]; omega
  have h19 : ((s.size : Int) != 19) = true := by rw [bne_iff_ne]; omega
  clear h
  go_enter Tryd.func10, Tryd.ntmps10
  go_wp2
  go_ret2
  exact ⟨rfl, Below.refl _ _⟩
/-- The six cells. -/
def cel (t : List UInt8) (j : Nat) : Array Value := #[.int .i64 (fld t j 0), .int .i64 (fld t j 1), .int .i64 (fld t j 2), .int .i64 (fld t j 3), .int .i64 (fld t j 4), .int .i64 (fld t j 5)]
theorem form_at (j : Nat) (hj : j < 19) (w : World) : (Instr.index 9 (.string ⟨#[100, 100, 100, 100, 45, 100, 100, 45, 100, 100, 32, 100, 100, 58, 100, 100, 58, 100, 100]⟩) (.int .i64 (j : Int))).run Tryd.prog w = .ok (.int .u8 (formN j : Int)) w := by
  have : j = 0 ∨ j = 1 ∨ j = 2 ∨ j = 3 ∨ j = 4 ∨ j = 5 ∨ j = 6 ∨ j = 7 ∨ j = 8 ∨ j = 9 ∨ j = 10 ∨ j = 11 ∨ j = 12 ∨ j = 13 ∨ j = 14 ∨ j = 15 ∨ j = 16 ∨ j = 17 ∨ j = 18 := by omega
  rcases this with rfl | rfl | rfl | rfl | rfl | rfl | rfl | rfl | rfl | rfl | rfl | rfl | rfl | rfl | rfl | rfl | rfl | rfl | rfl <;> rfl
theorem cel_at (t : List UInt8) (j k : Nat) (hk : k < 6) : (cel t j)[k]? = some (.int .i64 (fld t j k)) := by
  have : k = 0 ∨ k = 1 ∨ k = 2 ∨ k = 3 ∨ k = 4 ∨ k = 5 := by omega
  rcases this with rfl | rfl | rfl | rfl | rfl | rfl <;> rfl
theorem cel_ext (a b : Array Value) (ha : a.size = 6) (hb : b.size = 6) (h : ∀ k, k < 6 → a[k]? = b[k]?) : a = b := by
  apply Array.ext_getElem?
  intro i
  by_cases hi : i < 6
  · exact h i hi
  · rw [Array.getElem?_eq_none (by omega), Array.getElem?_eq_none (by omega)]
theorem cel_sep (t : List UInt8) (j : Nat) (hj : j < 19) (hf : formN j ≠ 100) : cel t (j + 1) = cel t j :=
  cel_ext _ _ rfl rfl fun k hk => by rw [cel_at _ _ _ hk, cel_at _ _ _ hk, (fld_sep t j hj hf k).1]
theorem cel_dig (t : List UInt8) (j : Nat) (hj : j < 19) (hf : formN j = 100) : (cel t j).setIfInBounds (kOf j) (.int .i64 (10 * fld t j (kOf j) + ((chr t j : Int) - 48))) = cel t (j + 1) := by
  refine cel_ext _ _ (by simp [cel]) rfl fun k hk => ?_
  rw [cel_at _ _ _ hk, Array.getElem?_setIfInBounds, (fld_dig t j hj hf k).1]
  by_cases e : k = kOf j
  · subst e
    rw [if_pos rfl, if_pos rfl, if_pos (show kOf j < (cel t j).size from hk)]
  · rw [if_neg (fun h => e h.symm), if_neg e, cel_at _ _ _ hk]
theorem cel_zero (t : List UInt8) : cel t 0 = #[.int .i64 0, .int .i64 0, .int .i64 0, .int .i64 0, .int .i64 0, .int .i64 0] := rfl
/-- What Parse returns. -/
def ParsePost (t : List UInt8) (e : Ending) : Prop :=
  (MomT t ∧ e = .returned (.tuple #[.int .i64 (momN t), .bool true])) ∨ (¬ MomT t ∧ e = .returned (.tuple #[.int .i64 0, .bool false]))
theorem chr_get (s : ByteArray) (j : Nat) (hj : j < s.size) : chr s.data.toList j = (s[j]).toNat := by
  have : j < s.data.size := hj
  unfold chr
  rw [Array.getElem?_toList, Array.getElem?_eq_getElem this]
  rfl

set_option maxHeartbeats 1000000 in
theorem parse_in (s : ByteArray) (w : World) (hN2 : s.size = 10 ∨ s.size = 19) :
    Calls Tryd.prog 10 #[.string s] w fun e w' => ParsePost s.data.toList e ∧ Below w.heap.size w w' := by
  have hln : s.data.toList.length = s.size := by simp
  have Hln := Lib.hid hln
  have hsz : s.size ≤ 19 := by omega
  have HN2 := Lib.hid hN2
  have hN3 : (((s.size : Int) != 19) = true ∧ ((s.size : Int) != 10) = false) ∨ ((s.size : Int) != 19) = false := by rcases hN2 with h | h <;> rw [h] <;> decide
  clear hln hN2
  rcases hN3 with ⟨h19, h10⟩ | h19
  all_goals
    go_enter Tryd.func10, Tryd.ntmps10
    go_wp2_with fail
    go_loopw [5, 20] (fun k i wr => ∃ j : Nat, j ≤ s.size ∧ i = .int .i64 j ∧ k = .int .i64 (kOf j : Int) ∧ Hid (okTo s.data.toList j = true) ∧ Bk wr w.heap.size 43 (cel s.data.toList j) ∧ Below w.heap.size w wr) (fun _ i _ => s.size - (intOf i).toNat)
    case atStart => exact ⟨0, Nat.zero_le _, rfl, rfl, Lib.hid rfl, Bk.new w _ _, (Below.refl _ _).alloc (Nat.le_refl _) _⟩
    case round =>
      obtain ⟨j, hj, rfl, rfl, hok, hbk, hbw⟩ := hrel
      by_cases hlt : j < s.size
      · have hidx := form_at j (by omega)
        have hch := chr_get s j hlt
        by_cases hf : formN j = 100
        · have e1 : ((formN j : Int) == 100) = true := by rw [hf]; rfl
          have e2 : ((formN j : Int) != 100) = false := by rw [hf]; rfl
          by_cases hd : 48 ≤ (s[j]).toNat ∧ (s[j]).toNat ≤ 57
          · obtain ⟨hd1, hd2⟩ := hd
            have hokj : okB s.data.toList j = true := by unfold okB digB; rw [if_pos hf, hch]; simp; omega
            have hk6 := kOf_lt j (by omega)
            have hcell := hbk.cell (kOf j)
            rw [cel_at _ _ _ hk6] at hcell
            have hfr := hbk.free (kOf j)
            have hset := hbk.set (kOf j) (.int .i64 (10 * fld s.data.toList j (kOf j) + ((chr s.data.toList j : Int) - 48)))
            rw [cel_dig _ j (by omega) hf, hch] at hset
            have hbd := fld_bd s.data.toList j (by omega) hok.out (kOf j)
            have hkk := (fld_dig s.data.toList j (by omega) hf 0).2.1
            have Hkk := Lib.hid hkk
            have Hokj := Lib.hid hokj
            have hbs := hbw.setCell (p := ⟨w.heap.size, kOf j, none⟩) (Nat.le_refl _) (.int .i64 (10 * fld s.data.toList j (kOf j) + (((s[j]).toNat : Int) - 48)))
            have hd3 : (48 : Int) ≤ ((s[j]).toNat : Int) := by omega
            have hd4 : ((s[j]).toNat : Int) ≤ 57 := by omega
            clear hf hch hkk hokj hbk hbw
            generalize fld s.data.toList j (kOf j) = V at *
            generalize kOf j = K at *
            generalize formN j = f at *
            go_wp2_with fail
            go_roundw
            case rel => exact ⟨j + 1, by omega, by go_num, by rw [Hkk.out], Lib.hid (by simp only [okTo, Bool.and_eq_true]; exact ⟨hok.out, Hokj.out⟩), hset, hbs⟩
            case measure => simp [intOf]; omega
          · have hokj : okB s.data.toList j = false := by unfold okB digB; rw [if_pos hf, hch]; simp; omega
            have hno : ¬ MomT s.data.toList := by
              rintro ⟨_, h, _⟩
              rw [okTo_no _ j _ (by rw [Hln.out]; exact hlt) hokj] at h; cases h
            have Hno := Lib.hid hno
            have hd3 : ((s[j]).toNat : Int) < 48 ∨ (48 : Int) ≤ ((s[j]).toNat : Int) ∧ (57 : Int) < ((s[j]).toNat : Int) := by omega
            clear hf hch hokj hno hd
            generalize formN j = f at *
            rcases hd3 with hd3 | ⟨hd3, hd4⟩
            · go_wp2_with fail
              go_ret2
              exact ⟨.inr ⟨Hno.out, rfl⟩, hbw⟩
            · go_wp2_with fail
              go_ret2
              exact ⟨.inr ⟨Hno.out, rfl⟩, hbw⟩
        · have e1 : ((formN j : Int) == 100) = false := by rw [beq_eq_false_iff_ne]; omega
          have e2 : ((formN j : Int) != 100) = true := by rw [bne_iff_ne]; omega
          by_cases hd : (s[j]).toNat = formN j
          · have hokj : okB s.data.toList j = true := by unfold okB; rw [if_neg hf, hch, hd]; simp
            have hd3 : (((s[j]).toNat : Int) != (formN j : Int)) = false := by rw [hd]; simp
            have hkk := (fld_sep s.data.toList j (by omega) hf 0).2
            rw [← cel_sep _ j (by omega) hf] at hbk
            have hk6 := kOf_lt j (by omega)
            have Hkk := Lib.hid hkk
            have Hokj := Lib.hid hokj
            clear hf hch hkk hokj hd
            generalize formN j = f at *
            go_wp2_with fail
            go_roundw
            case rel => exact ⟨j + 1, by omega, by go_num, by rw [Hkk.out]; go_num, Lib.hid (by simp only [okTo, Bool.and_eq_true]; exact ⟨hok.out, Hokj.out⟩), hbk, hbw⟩
            case measure => simp [intOf]; omega
          · have hokj : okB s.data.toList j = false := by unfold okB; rw [if_neg hf, hch]; simpa using hd
            have hno : ¬ MomT s.data.toList := by
              rintro ⟨_, h, _⟩
              rw [okTo_no _ j _ (by rw [Hln.out]; exact hlt) hokj] at h; cases h
            have Hno := Lib.hid hno
            have hd3 : (((s[j]).toNat : Int) != (formN j : Int)) = true := by rw [bne_iff_ne]; omega
            clear hf hch hokj hno hd
            generalize formN j = f at *
            go_wp2_with fail
            go_ret2
            exact ⟨.inr ⟨Hno.out, rfl⟩, hbw⟩
      · have : j = s.size := by omega
        subst this
        have hM : MomT s.data.toList ↔ Right6 (fld s.data.toList s.size 0) (fld s.data.toList s.size 1) (fld s.data.toList s.size 2) (fld s.data.toList s.size 3) (fld s.data.toList s.size 4) (fld s.data.toList s.size 5) := by
          unfold MomT
          rw [Hln.out]
          exact ⟨fun h => h.2.2, fun h => ⟨HN2.out, hok.out, h⟩⟩
        have hMn : momN s.data.toList = dosN (fld s.data.toList s.size 0) (fld s.data.toList s.size 1) (fld s.data.toList s.size 2) (fld s.data.toList s.size 3) (fld s.data.toList s.size 4) (fld s.data.toList s.size 5) := by
          unfold momN; rw [Hln.out]
        have HM := Lib.hid hM
        have HMn := Lib.hid hMn
        have k0 := hbk.cell 0
        have k1 := hbk.cell 1
        have k2 := hbk.cell 2
        have k3 := hbk.cell 3
        have k4 := hbk.cell 4
        have k5 := hbk.cell 5
        rw [cel_at _ _ _ (by omega)] at k0 k1 k2 k3 k4 k5
        clear hM hMn hbk
        generalize fld s.data.toList s.size 0 = n0 at *
        generalize fld s.data.toList s.size 1 = n1 at *
        generalize fld s.data.toList s.size 2 = n2 at *
        generalize fld s.data.toList s.size 3 = n3 at *
        generalize fld s.data.toList s.size 4 = n4 at *
        generalize fld s.data.toList s.size 5 = n5 at *
        by_cases hR : Right6 n0 n1 n2 n3 n4 n5
        · have HR := Lib.hid hR
          clear hR
          go_wp2_with fail
          refine (put_yes _ _ _ _ _ _ _ HR.out).mono ?_
          rintro e w2 ⟨rfl, hb2⟩
          go_wp2
          go_ret2
          exact ⟨.inl ⟨HM.out.2 HR.out, by rw [HMn.out]; rfl⟩, hbw.trans (hb2.mono hbw.size)⟩
        · have HR := Lib.hid hR
          clear hR
          go_wp2_with fail
          refine (put_no _ _ _ _ _ _ _ HR.out).mono ?_
          rintro e w2 ⟨rfl, hb2⟩
          go_wp2
          go_ret2
          exact ⟨.inr ⟨fun h => HR.out (HM.out.1 h), rfl⟩, hbw.trans (hb2.mono hbw.size)⟩
theorem parse_any (s : ByteArray) (w : World) : Calls Tryd.prog 10 #[.string s] w fun e w' => ParsePost s.data.toList e ∧ Below w.heap.size w w' := by
  by_cases h : s.size = 10 ∨ s.size = 19
  · exact parse_in s w h
  · refine (parse_len s w h).mono ?_
    rintro e w' ⟨rfl, hb⟩
    refine ⟨.inr ⟨?_, rfl⟩, hb⟩
    rintro ⟨h1, _⟩
    exact h (by simpa using h1)
end Go.Proofs.YtmijgcmlpdehkaaDoor
