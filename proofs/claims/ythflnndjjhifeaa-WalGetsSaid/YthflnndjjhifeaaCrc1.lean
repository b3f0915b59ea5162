/- Contracts of package crc, and of the reference's Of. -/
import Derived.Test.YthflnndjjhifeaaWord2
import Derived.Test.YthflnndjjhifeaaCrcP
import Derived.Laws.CopyOwn
import Derived.StillTailTactics
namespace Go.Proofs.Ythflnndjjhifeaa
open Go.RowKit

/-- A sum as a number of the program's. -/
def u32v (x : BitVec 32) : Value := .int .u32 (x.toNat : Int)
/-- The table, as far as it is made. -/
def tabL (j : Nat) : List Value := (List.range 16).map fun i => if i < j then Value.int .u32 ((shs 4 (BitVec.ofNat 32 i)).toNat : Int) else .int .u32 0
def tabA (j : Nat) : Array Value := (tabL j).toArray
theorem tabA_size (j : Nat) : (tabA j).size = 16 := by simp [tabA, tabL]
theorem tabA_at (j i : Nat) (h : i < 16) : (tabA j)[i]? = some (if i < j then Value.int .u32 ((shs 4 (BitVec.ofNat 32 i)).toNat : Int) else .int .u32 0) := by
  simp [tabA, tabL, h]
theorem tabA_one (j : Nat) : (tabA j).all (·.oneCell') = true := by
  rw [Array.all_eq_true_iff_forall_mem]
  intro v hv
  simp only [tabA, tabL, List.mem_toArray, List.mem_map] at hv
  obtain ⟨i, _, rfl⟩ := hv
  split <;> rfl
theorem tabA_step (j : Nat) (h : j < 16) : (tabA j).setIfInBounds j (.int .u32 ((shs 4 (BitVec.ofNat 32 j)).toNat : Int)) = tabA (j + 1) := by
  apply Array.ext_getElem?
  intro i
  rw [Array.getElem?_setIfInBounds]
  by_cases hi : i < 16
  · rw [tabA_at _ _ hi, tabA_at _ _ hi]
    by_cases hij : j = i
    · subst hij
      rw [if_pos rfl, if_pos (by rw [tabA_size]; exact h), if_pos (by omega)]
    · rw [if_neg hij]
      by_cases h2 : i < j
      · rw [if_pos h2, if_pos (by omega)]
      · rw [if_neg h2, if_neg (by omega)]
  · rw [if_neg (by omega), Array.getElem?_eq_none (by rw [tabA_size]; omega), Array.getElem?_eq_none (by rw [tabA_size]; omega)]

theorem begin_any (w : World) : Calls Try.prog 36 #[] w fun e w' => e = .returned (.agg (tabA 16)) ∧ Below w.heap.size w w' := by
  go_enter Try.func36, Try.ntmps36
  go_wp2_with fail
  go_loopw [2, 3, 4] (fun _ _ i wr => ∃ j : Nat, j ≤ 16 ∧ i = .int .i64 j ∧ Bk wr w.heap.size 65 (tabA 0) ∧ Bk wr (w.heap.size + 1) 65 (tabA j) ∧ Below w.heap.size w wr) (fun _ _ i _ => 16 - (intOf i).toNat)
  case atStart => exact ⟨0, by omega, rfl, (Bk.new w _ (tabA 0)).alloc _, Bk.new' (w.alloc _) 65 (tabA 0) (by simp), ((Below.refl _ _).alloc (Nat.le_refl _) _).alloc (by simp) _⟩
  case round =>
    obtain ⟨j, hj, rfl, hb0, hb1, hbw⟩ := hrel
    by_cases hlt : j < 16
    · go_wp2_with fail
      go_loop [3, 9] (fun x i => ∃ k : Nat, k ≤ 4 ∧ i = .int .i64 k ∧ x = .int .u32 ((shs k (BitVec.ofNat 32 j)).toNat : Int)) (fun _ i => 4 - (intOf i).toNat)
      case atStart => exact ⟨0, by omega, rfl, by simp [shs]; omega⟩
      case round =>
        obtain ⟨k, hk, rfl, rfl⟩ := hrel
        by_cases hk4 : k < 4
        · have Hs : Hid (shs (k + 1) (BitVec.ofNat 32 j) = sh (shs k (BitVec.ofNat 32 j))) := Lib.hid rfl
          generalize shs k (BitVec.ofNat 32 j) = X at *
          have hX := X.isLt
          have h1 := and_one_ne X
          cases h0 : X.getLsbD 0 with
          | true =>
            have hs := sh_one X h0
            rw [h0] at h1
            go_wp2_with fail
            go_round
            case rel => exact ⟨k + 1, by omega, by go_num, by rw [Hs.out]⟩
            case measure => simp [intOf]; omega
          | false =>
            have hs := sh_nil X h0
            rw [h0] at h1
            go_wp2_with fail
            go_round
            case rel => exact ⟨k + 1, by omega, by go_num, by rw [Hs.out]⟩
            case measure => simp [intOf]; omega
        · have : k = 4 := by omega
          subst this
          have hc := hb1.cell j
          rw [tabA_at _ _ hlt] at hc
          have hf := hb1.free j
          have hset := hb1.set j (.int .u32 ((shs 4 (BitVec.ofNat 32 j)).toNat : Int))
          rw [tabA_step j hlt] at hset
          have Hset := Lib.hid hset
          clear hset
          generalize (if j < j then Value.int .u32 ((shs 4 (BitVec.ofNat 32 j)).toNat : Int) else .int .u32 0) = old at hc
          generalize ((shs 4 (BitVec.ofNat 32 j)).toNat : Int) = y at *
          go_wp2_with fail
          go_roundw
          case rel => exact ⟨j + 1, by omega, by go_num, hb0.far (by simp) _, Hset.out, hbw.setCell (by simp) _⟩
          case measure => simp [intOf]; omega
    · have : j = 16 := by omega
      subst this
      go_wp2_with (first
        | ((with_reducible refine at_load 65 ?_)
           go_loud (refine wpList_load_row rfl 65 _ rfl (w.heap.size + 1) rfl 65 (tabA 16) (0, 0) _ hb1 Try.underlying65 rfl (by rw [tabA_size]; kernel_rfl) ?_))
        | ((with_reducible refine at_store 65 ?_)
           go_loud (refine wpList_store_row rfl 65 _ _ rfl w.heap.size (tabA 16) rfl rfl 65 (tabA 0) hb0 (by rw [tabA_size]; kernel_rfl) (by rw [tabA_size, tabA_size]) (tabA_one 16) ?_)))
      have hbe : Below w.heap.size w (wr.setRow w.heap.size (tabA 16)) := below_setRow hbw (Nat.le_refl _) _
      refine bodyPost_ret (v := .agg (tabA 16)) ?_ rfl ⟨rfl, hbe⟩
      exact results_cell_row Try.results36 _ _ w.heap.size 65 (tabA 16) (0, 0) _ rfl (hb0.setRow _) Try.underlying65 rfl (by rw [tabA_size]; kernel_rfl)
/-- A sum's cells: the table, the state, how many bytes. -/
def crcCells (s : BitVec 32) (n : Nat) : Array Value := tabA 16 ++ #[u32v s, .int .i64 (n : Int)]
theorem crcCells_size (s : BitVec 32) (n : Nat) : (crcCells s n).size = 18 := by simp [crcCells, tabA_size]
theorem crcCells_tab (s : BitVec 32) (n i : Nat) (h : i < 16) : (crcCells s n)[i]? = some (.int .u32 ((shs 4 (BitVec.ofNat 32 i)).toNat : Int)) := by
  have h1 := tabA_at 16 i h
  rw [if_pos h] at h1
  rw [← h1]
  unfold crcCells
  rw [Array.getElem?_append_left (by rw [tabA_size]; exact h)]
theorem crcCells_n (s : BitVec 32) (n : Nat) : (crcCells s n)[16]? = some (.int .u32 (s.toNat : Int)) := by
  unfold crcCells
  rw [Array.getElem?_append_right (by rw [tabA_size]; omega), tabA_size]; rfl
theorem crcCells_l (s : BitVec 32) (n : Nat) : (crcCells s n)[17]? = some (.int .i64 (n : Int)) := by
  unfold crcCells
  rw [Array.getElem?_append_right (by rw [tabA_size]; omega), tabA_size]; rfl
theorem crcCells_setn (s s' : BitVec 32) (n : Nat) : (crcCells s n).setIfInBounds 16 (.int .u32 (s'.toNat : Int)) = crcCells s' n := by
  apply Array.ext_getElem?
  intro i
  rw [Array.getElem?_setIfInBounds]
  by_cases hi : 16 = i
  · subst hi
    rw [if_pos rfl, if_pos (by rw [crcCells_size]; omega), crcCells_n]
  · rw [if_neg hi]
    by_cases h2 : i < 16
    · rw [crcCells_tab _ _ _ h2, crcCells_tab _ _ _ h2]
    · by_cases h3 : i = 17
      · subst h3; rw [crcCells_l, crcCells_l]
      · rw [Array.getElem?_eq_none (by rw [crcCells_size]; omega), Array.getElem?_eq_none (by rw [crcCells_size]; omega)]
theorem crcCells_setl (s : BitVec 32) (n n' : Nat) : (crcCells s n).setIfInBounds 17 (.int .i64 (n' : Int)) = crcCells s n' := by
  apply Array.ext_getElem?
  intro i
  rw [Array.getElem?_setIfInBounds]
  by_cases hi : 17 = i
  · subst hi
    rw [if_pos rfl, if_pos (by rw [crcCells_size]; omega), crcCells_l]
  · rw [if_neg hi]
    by_cases h2 : i < 16
    · rw [crcCells_tab _ _ _ h2, crcCells_tab _ _ _ h2]
    · by_cases h3 : i = 16
      · subst h3; rw [crcCells_n, crcCells_n]
      · rw [Array.getElem?_eq_none (by rw [crcCells_size]; omega), Array.getElem?_eq_none (by rw [crcCells_size]; omega)]

theorem new_any (w : World) : Calls Try.prog 17 #[] w fun e w' => ∃ g, e = .returned (.pointer (some ⟨g, 0, none⟩)) ∧ w.heap.size ≤ g ∧ Bk w' g 68 (crcCells crcIni 0) ∧ Below w.heap.size w w' := by
  go_enter Try.func17, Try.ntmps17
  go_wp2_with fail
  refine (begin_any w).mono ?_
  rintro e w1 ⟨rfl, hb1⟩
  go_wp2_with fail
  go_ret
  have e : ∀ X, X = crcCells crcIni 0 → Bk (w1.alloc (.cells X 68)) w1.heap.size 68 (crcCells crcIni 0) := fun X h => h ▸ Bk.new w1 68 X
  exact ⟨_, rfl, hb1.size, e _ (by kernel_rfl), hb1.alloc hb1.size _⟩

/-- One nibble goes. -/
theorem and_15 (a : BitVec 32) : bits .and .u32 (a.toNat : Int) 15 = ((a &&& 15#32).toNat : Int) := bv_and a 15#32
theorem and_15_lt (a : BitVec 32) : (a &&& 15#32).toNat < 16 := by
  rw [BitVec.toNat_and]
  exact Nat.lt_of_le_of_lt Nat.and_le_right (by decide)
theorem nib (a : BitVec 32) : bits .xor .u32 ((a.toNat : Int) / (16 : Int)) ((shs 4 (BitVec.ofNat 32 (a &&& 15#32).toNat)).toNat : Int) = ((shs 4 a).toNat : Int) := by
  rw [bv_shr4, bv_xor, shs4_eq a]
  congr 3
  simp

set_option maxHeartbeats 1000000 in
theorem add_any (g : Nat) (A : Option Addr) (n c B : Nat) (l : List UInt8) (s : BitVec 32) (k : Nat) (w : World) (hb : Bk w g 68 (crcCells s k)) (hr : Rd w B 1 A n (bys l)) (hBg : B ≤ g)
    (hn : n ≤ 1099511627776) (hk : k ≤ 1099511627776) :
    Calls Try.prog 18 #[.pointer (some ⟨g, 0, none⟩), .slice A n c] w fun e w' => e = .returned (.tuple #[]) ∧ Bk w' g 68 (crcCells (crcS s l) (k + n)) ∧ w.grownBy w' (some g) := by
  have hgl := hb.lt
  have hlen : l.length = n := hr.blen
  have Hlen := Lib.hid hlen
  clear hlen
  go_enter Try.func18, Try.ntmps18
  go_wp2_with fail
  go_loopw [5, 10] (fun _ i wr => ∃ j : Nat, j ≤ n ∧ i = .int .i64 j ∧ Bk wr g 68 (crcCells (crcS s (l.take j)) k) ∧ w.grownBy wr (some g)) (fun _ i _ => n - (intOf i).toNat)
  case atStart => exact ⟨0, Nat.zero_le _, rfl, hb, World.grownBy.refl _ _⟩
  case round =>
    obtain ⟨j, hj, rfl, hbr, hgw⟩ := hrel
    by_cases hlt : j < n
    · have hrr := hr.gb hgw (by omega) hBg
      obtain ⟨b, o, u, rfl, hbb, hx, hu, hc⟩ := hrr.byte (k := j) hlt
      have hS : crcS s (l.take (j + 1)) = shs 4 (shs 4 (crcS s (l.take j) ^^^ b32 u)) := by
        rw [take_step hx, crcS_app, ← shs_add]; rfl
      have HS := Lib.hid hS
      clear hx hS
      generalize crcS s (l.take j) = S at *
      have hn1 := hbr.cell 16
      rw [crcCells_n] at hn1
      have hf1 := hbr.free 16
      have hx1 : bits .xor .u32 (S.toNat : Int) (u.toNat : Int) = ((S ^^^ b32 u).toNat : Int) := by rw [← b32_nat u]; exact bv_xor S (b32 u)
      generalize hS1 : S ^^^ b32 u = S1 at *
      have hset := hbr.set 16 (.int .u32 (S1.toNat : Int))
      rw [crcCells_setn] at hset
      have hgset := gb_set hgw 16 (.int .u32 (S1.toNat : Int))
      clear hS1
      go_wp2_with fail
      clear hn1 hf1 hx1 hbr hgw hrr hr
      generalize wr.setCell ⟨g, 16, none⟩ (.int .u32 (S1.toNat : Int)) = w2 at *
      have hn2 := hset.cell 16
      rw [crcCells_n] at hn2
      have hl2 := and_15_lt S1
      have ht2 := hset.cell (S1 &&& 15#32).toNat
      rw [crcCells_tab _ _ _ hl2] at ht2
      have ha2 := and_15 S1
      have hx2 := nib S1
      generalize (S1 &&& 15#32).toNat = m2 at *
      generalize (shs 4 (BitVec.ofNat 32 m2)).toNat = y2 at *
      generalize shs 4 S1 = S2 at *
      have hm2 : (m2 : Int) < 16 := by omega
      have hd2 := hset.drew
      have gd2 := gb_drew hgset
      go_still_tail 19, (by kernel_rfl)
      change wpList _ _ _ _ _ w2.drew
      clear hn2 ht2 ha2 hx2
      generalize w2.drew = w3 at *
      have hn2 := hd2.cell 16
      rw [crcCells_n] at hn2
      have hf2 := hd2.free 16
      have hs2 := hd2.set 16 (.int .u32 (S2.toNat : Int))
      rw [crcCells_setn] at hs2
      have gs2 := gb_set gd2 16 (.int .u32 (S2.toNat : Int))
      go_wp2_with fail
      clear hn2 hf2 hd2 gd2
      generalize w3.setCell ⟨g, 16, none⟩ (.int .u32 (S2.toNat : Int)) = w4 at *
      have hn4 := hs2.cell 16
      rw [crcCells_n] at hn4
      have hl4 := and_15_lt S2
      have ht4 := hs2.cell (S2 &&& 15#32).toNat
      rw [crcCells_tab _ _ _ hl4] at ht4
      have ha4 := and_15 S2
      have hx4 := nib S2
      generalize (S2 &&& 15#32).toNat = m4 at *
      generalize (shs 4 (BitVec.ofNat 32 m4)).toNat = y4 at *
      generalize shs 4 S2 = S3 at *
      have hm4 : (m4 : Int) < 16 := by omega
      have hd4 := hs2.drew
      have gd4 := gb_drew gs2
      go_still_tail 19, (by kernel_rfl)
      change wpList _ _ _ _ _ w4.drew
      clear hn4 ht4 ha4 hx4
      generalize w4.drew = w5 at *
      have hn4 := hd4.cell 16
      rw [crcCells_n] at hn4
      have hf4 := hd4.free 16
      have hs4 := hd4.set 16 (.int .u32 (S3.toNat : Int))
      rw [crcCells_setn] at hs4
      have gs4 := gb_set gd4 16 (.int .u32 (S3.toNat : Int))
      go_wp2_with fail
      clear hn4 hf4 hd4 gd4
      go_roundw
      case rel => exact ⟨j + 1, by omega, by go_num, by rw [HS.out]; exact hs4, gs4⟩
      case measure => simp [intOf]; omega
    · have : j = n := by omega
      subst this
      rw [List.take_of_length_le (by have := Hlen.out; omega)] at hbr
      have hc := hbr.cell 17
      rw [crcCells_l] at hc
      have hf := hbr.free 17
      have hset := hbr.set 17 (.int .i64 ((k + j : Nat) : Int))
      rw [crcCells_setl, Int.natCast_add] at hset
      have hgs := gb_set hgw 17 (.int .i64 ((k + j : Nat) : Int))
      rw [Int.natCast_add] at hgs
      go_wp2_with fail
      go_end0
      exact ⟨rfl, hset, hgs⟩
end Go.Proofs.Ythflnndjjhifeaa
