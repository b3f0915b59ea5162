/- Contracts of package crc, and of the reference's Of. -/
import Derived.Test.YtoadamkmabkldaaGreatDoorJn11
import Derived.Laws.CopyOwn
import Derived.StillTailTactics
import Derived.Test.YtoadamkmabkldaaGreatDoorJn01
import Derived.Deep.RegionHeld3
import Derived.Deep.DrawnRows
import Derived.Test.YtoadamkmabkldaaGreatDoorJn10
set_option linter.unusedVariables false
set_option linter.unusedSimpArgs false
namespace Go.Proofs.YtoadamkmabkldaaGreatDoor
open Go.RowKit

/-- A sum as a number of the program's. -/
def u32v (x : BitVec 32) : Value := .int .u32 (x.toNat : Int)
/-- The table, as far as it is made. -/
def tabL (j : Nat) : List Value := (List.range 16).map fun i => if i < j then Value.int .u32 ((shs 4 (BitVec.ofNat 32 i)).toNat : Int) else .int .u32 0
def tabA (j : Nat) : Array Value := (tabL j).toArray
theorem tabA_size (j : Nat) : (tabA j).size = 16 := by simp [tabA, tabL]
theorem tabA_at (j i : Nat) (h : i < 16) : (tabA j)[i]? = some (if i < j then Value.int .u32 ((shs 4 (BitVec.ofNat 32 i)).toNat : Int) else .int .u32 0) := by
  simp [tabA, tabL, h]
theorem tabA_one (j : Nat) : (tabA j).all (·.oneCell') = true := by
  rw [Array.all_eq_true_iff_forall_mem]
  intro v hv
  simp only [tabA, tabL, List.mem_toArray, List.mem_map] at hv
  obtain ⟨i, _, rfl⟩ := hv
  split <;> rfl
theorem tabA_step (j : Nat) (h : j < 16) : (tabA j).setIfInBounds j (.int .u32 ((shs 4 (BitVec.ofNat 32 j)).toNat : Int)) = tabA (j + 1) := by
  apply Array.ext_getElem?
  intro i
  rw [Array.getElem?_setIfInBounds]
  by_cases hi : i < 16
  · rw [tabA_at _ _ hi, tabA_at _ _ hi]
    by_cases hij : j = i
    · subst hij
      rw [if_pos rfl, if_pos (by rw [tabA_size]; exact h), if_pos (by omega)]
    · rw [if_neg hij]
      by_cases h2 : i < j
      · rw [if_pos h2, if_pos (by omega)]
      · rw [if_neg h2, if_neg (by omega)]
  · rw [if_neg (by omega), Array.getElem?_eq_none (by rw [tabA_size]; omega), Array.getElem?_eq_none (by rw [tabA_size]; omega)]

theorem begin_any (w : World) : Calls Tryz.prog 121 #[] w fun e w' => e = .returned (.agg (tabA 16)) ∧ Below w.heap.size w w' := by
  go_enter Tryz.func121, Tryz.ntmps121
  go_wp2_with fail
  go_loopw [2, 3, 4] (fun _ _ i wr => ∃ j : Nat, j ≤ 16 ∧ i = .int .i64 j ∧ Bk wr w.heap.size 151 (tabA 0) ∧ Bk wr (w.heap.size + 1) 151 (tabA j) ∧ Below w.heap.size w wr) (fun _ _ i _ => 16 - (intOf i).toNat)
  case atStart => exact ⟨0, by omega, rfl, (Bk.new w _ (tabA 0)).alloc _, Bk.new' (w.alloc _) 151 (tabA 0) (by simp), ((Below.refl _ _).alloc (Nat.le_refl _) _).alloc (by simp) _⟩
  case round =>
    obtain ⟨j, hj, rfl, hb0, hb1, hbw⟩ := hrel
    by_cases hlt : j < 16
    · go_wp2_with fail
      go_loop [3, 9] (fun x i => ∃ k : Nat, k ≤ 4 ∧ i = .int .i64 k ∧ x = .int .u32 ((shs k (BitVec.ofNat 32 j)).toNat : Int)) (fun _ i => 4 - (intOf i).toNat)
      case atStart => exact ⟨0, by omega, rfl, by simp [shs]; omega⟩
      case round =>
        obtain ⟨k, hk, rfl, rfl⟩ := hrel
        by_cases hk4 : k < 4
        · have Hs : Hid (shs (k + 1) (BitVec.ofNat 32 j) = sh (shs k (BitVec.ofNat 32 j))) := Lib.hid rfl
          generalize shs k (BitVec.ofNat 32 j) = X at *
          have hX := X.isLt
          have h1 := and_one_ne X
          cases h0 : X.getLsbD 0 with
          | true =>
            have hs := sh_one X h0
            rw [h0] at h1
            go_wp2_with fail
            go_round
            case rel => exact ⟨k + 1, by omega, by go_num, by rw [Hs.out]⟩
            case measure => simp [intOf]; omega
          | false =>
            have hs := sh_nil X h0
            rw [h0] at h1
            go_wp2_with fail
            go_round
            case rel => exact ⟨k + 1, by omega, by go_num, by rw [Hs.out]⟩
            case measure => simp [intOf]; omega
        · have : k = 4 := by omega
          subst this
          have hc := hb1.cell j
          rw [tabA_at _ _ hlt] at hc
          have hf := hb1.free j
          have hset := hb1.set j (.int .u32 ((shs 4 (BitVec.ofNat 32 j)).toNat : Int))
          rw [tabA_step j hlt] at hset
          have Hset := Lib.hid hset
          clear hset
          generalize (if j < j then Value.int .u32 ((shs 4 (BitVec.ofNat 32 j)).toNat : Int) else .int .u32 0) = old at hc
          generalize ((shs 4 (BitVec.ofNat 32 j)).toNat : Int) = y at *
          go_wp2_with fail
          go_roundw
          case rel => exact ⟨j + 1, by omega, by go_num, hb0.far (by simp) _, Hset.out, hbw.setCell (by simp) _⟩
          case measure => simp [intOf]; omega
    · have : j = 16 := by omega
      subst this
      go_wp2_with (first
        | ((with_reducible refine at_load 151 ?_)
           go_loud (refine wpList_load_row rfl 151 _ rfl (w.heap.size + 1) rfl 151 (tabA 16) (0, 0) _ hb1 Tryz.underlying151 rfl (by rw [tabA_size]; kernel_rfl) ?_))
        | ((with_reducible refine at_store 151 ?_)
           go_loud (refine wpList_store_row rfl 151 _ _ rfl w.heap.size (tabA 16) rfl rfl 151 (tabA 0) hb0 (by rw [tabA_size]; kernel_rfl) (by rw [tabA_size, tabA_size]) (tabA_one 16) ?_)))
      have hbe : Below w.heap.size w (wr.setRow w.heap.size (tabA 16)) := below_setRow hbw (Nat.le_refl _) _
      refine bodyPost_ret (v := .agg (tabA 16)) ?_ rfl ⟨rfl, hbe⟩
      exact results_cell_row Tryz.results121 _ _ w.heap.size 151 (tabA 16) (0, 0) _ rfl (hb0.setRow _) Tryz.underlying151 rfl (by rw [tabA_size]; kernel_rfl)
/-- A sum's cells: the table, the state, how many bytes. -/
def crcCells (s : BitVec 32) (n : Nat) : Array Value := tabA 16 ++ #[u32v s, .int .i64 (n : Int)]
theorem crcCells_size (s : BitVec 32) (n : Nat) : (crcCells s n).size = 18 := by simp [crcCells, tabA_size]
theorem crcCells_tab (s : BitVec 32) (n i : Nat) (h : i < 16) : (crcCells s n)[i]? = some (.int .u32 ((shs 4 (BitVec.ofNat 32 i)).toNat : Int)) := by
  have h1 := tabA_at 16 i h
  rw [if_pos h] at h1
  rw [← h1]
  unfold crcCells
  rw [Array.getElem?_append_left (by rw [tabA_size]; exact h)]
theorem crcCells_n (s : BitVec 32) (n : Nat) : (crcCells s n)[16]? = some (.int .u32 (s.toNat : Int)) := by
  unfold crcCells
  rw [Array.getElem?_append_right (by rw [tabA_size]; omega), tabA_size]; rfl
theorem crcCells_l (s : BitVec 32) (n : Nat) : (crcCells s n)[17]? = some (.int .i64 (n : Int)) := by
  unfold crcCells
  rw [Array.getElem?_append_right (by rw [tabA_size]; omega), tabA_size]; rfl
theorem crcCells_setn (s s' : BitVec 32) (n : Nat) : (crcCells s n).setIfInBounds 16 (.int .u32 (s'.toNat : Int)) = crcCells s' n := by
  apply Array.ext_getElem?
  intro i
  rw [Array.getElem?_setIfInBounds]
  by_cases hi : 16 = i
  · subst hi
    rw [if_pos rfl, if_pos (by rw [crcCells_size]; omega), crcCells_n]
  · rw [if_neg hi]
    by_cases h2 : i < 16
    · rw [crcCells_tab _ _ _ h2, crcCells_tab _ _ _ h2]
    · by_cases h3 : i = 17
      · subst h3; rw [crcCells_l, crcCells_l]
      · rw [Array.getElem?_eq_none (by rw [crcCells_size]; omega), Array.getElem?_eq_none (by rw [crcCells_size]; omega)]
theorem crcCells_setl (s : BitVec 32) (n n' : Nat) : (crcCells s n).setIfInBounds 17 (.int .i64 (n' : Int)) = crcCells s n' := by
  apply Array.ext_getElem?
  intro i
  rw [Array.getElem?_setIfInBounds]
  by_cases hi : 17 = i
  · subst hi
    rw [if_pos rfl, if_pos (by rw [crcCells_size]; omega), crcCells_l]
  · rw [if_neg hi]
    by_cases h2 : i < 16
    · rw [crcCells_tab _ _ _ h2, crcCells_tab _ _ _ h2]
    · by_cases h3 : i = 16
      · subst h3; rw [crcCells_n, crcCells_n]
      · rw [Array.getElem?_eq_none (by rw [crcCells_size]; omega), Array.getElem?_eq_none (by rw [crcCells_size]; omega)]

theorem new_any (w : World) : Calls Tryz.prog 105 #[] w fun e w' => ∃ g, e = .returned (.pointer (some ⟨g, 0, none⟩)) ∧ w.heap.size ≤ g ∧ Bk w' g 154 (crcCells crcIni 0) ∧ Below w.heap.size w w' := by
  go_enter Tryz.func105, Tryz.ntmps105
  go_wp2_with fail
  refine (begin_any w).mono ?_
  rintro e w1 ⟨rfl, hb1⟩
  go_wp2_with fail
  go_ret
  have e : ∀ X, X = crcCells crcIni 0 → Bk (w1.alloc (.cells X 154)) w1.heap.size 154 (crcCells crcIni 0) := fun X h => h ▸ Bk.new w1 154 X
  exact ⟨_, rfl, hb1.size, e _ (by kernel_rfl), hb1.alloc hb1.size _⟩

/-- One nibble goes. -/
theorem and_15 (a : BitVec 32) : bits .and .u32 (a.toNat : Int) 15 = ((a &&& 15#32).toNat : Int) := bv_and a 15#32
theorem and_15_lt (a : BitVec 32) : (a &&& 15#32).toNat < 16 := by
  rw [BitVec.toNat_and]
  exact Nat.lt_of_le_of_lt Nat.and_le_right (by decide)
theorem nib (a : BitVec 32) : bits .xor .u32 ((a.toNat : Int) / (16 : Int)) ((shs 4 (BitVec.ofNat 32 (a &&& 15#32).toNat)).toNat : Int) = ((shs 4 a).toNat : Int) := by
  rw [bv_shr4, bv_xor, shs4_eq a]
  congr 3
  simp

set_option maxHeartbeats 1000000 in
set_option maxRecDepth 100000 in
theorem add_any (g : Nat) (A : Option Addr) (n c B : Nat) (l : List UInt8) (s : BitVec 32) (k : Nat) (w : World) (hb : Bk w g 154 (crcCells s k)) (hr : Rd w B 1 A n (bys l)) (hBg : B ≤ g)
    (hn : n ≤ 1099511627776) (hk : k ≤ 1099511627776) :
    Calls Tryz.prog 106 #[.pointer (some ⟨g, 0, none⟩), .slice A n c] w fun e w' => e = .returned (.tuple #[]) ∧ Bk w' g 154 (crcCells (crcS s l) (k + n)) ∧ w.grownBy w' (some g) := by
  have hgl := hb.lt
  have hlen : l.length = n := hr.blen
  have Hlen := Lib.hid hlen
  clear hlen
  go_enter Tryz.func106, Tryz.ntmps106
  go_wp2_with fail
  go_loopw [5, 10] (fun _ i wr => ∃ j : Nat, j ≤ n ∧ i = .int .i64 j ∧ Bk wr g 154 (crcCells (crcS s (l.take j)) k) ∧ w.grownBy wr (some g)) (fun _ i _ => n - (intOf i).toNat)
  case atStart => exact ⟨0, Nat.zero_le _, rfl, hb, World.grownBy.refl _ _⟩
  case round =>
    obtain ⟨j, hj, rfl, hbr, hgw⟩ := hrel
    by_cases hlt : j < n
    · have hrr := hr.gb hgw (by omega) hBg
      obtain ⟨b, o, u, rfl, hbb, hx, hu, hc⟩ := hrr.byte (k := j) hlt
      have hS : crcS s (l.take (j + 1)) = shs 4 (shs 4 (crcS s (l.take j) ^^^ b32 u)) := by
        rw [take_step hx, crcS_app, ← shs_add]; rfl
      have HS := Lib.hid hS
      clear hx hS
      generalize crcS s (l.take j) = S at *
      have hn1 := hbr.cell 16
      rw [crcCells_n] at hn1
      have hf1 := hbr.free 16
      have hx1 : bits .xor .u32 (S.toNat : Int) (u.toNat : Int) = ((S ^^^ b32 u).toNat : Int) := by rw [← b32_nat u]; exact bv_xor S (b32 u)
      generalize hS1 : S ^^^ b32 u = S1 at *
      have hset := hbr.set 16 (.int .u32 (S1.toNat : Int))
      rw [crcCells_setn] at hset
      have hgset := gb_set hgw 16 (.int .u32 (S1.toNat : Int))
      clear hS1
      go_wp2_with fail
      clear hn1 hf1 hx1 hbr hgw hrr hr
      generalize wr.setCell ⟨g, 16, none⟩ (.int .u32 (S1.toNat : Int)) = w2 at *
      have hn2 := hset.cell 16
      rw [crcCells_n] at hn2
      have hl2 := and_15_lt S1
      have ht2 := hset.cell (S1 &&& 15#32).toNat
      rw [crcCells_tab _ _ _ hl2] at ht2
      have ha2 := and_15 S1
      have hx2 := nib S1
      generalize (S1 &&& 15#32).toNat = m2 at *
      generalize (shs 4 (BitVec.ofNat 32 m2)).toNat = y2 at *
      generalize shs 4 S1 = S2 at *
      have hm2 : (m2 : Int) < 16 := by omega
      have hd2 := hset.drew
      have gd2 := gb_drew hgset
      go_still_tail 19, (by kernel_rfl)
      change wpList _ _ _ _ _ w2.drew
      clear hn2 ht2 ha2 hx2
      generalize w2.drew = w3 at *
      have hn2 := hd2.cell 16
      rw [crcCells_n] at hn2
      have hf2 := hd2.free 16
      have hs2 := hd2.set 16 (.int .u32 (S2.toNat : Int))
      rw [crcCells_setn] at hs2
      have gs2 := gb_set gd2 16 (.int .u32 (S2.toNat : Int))
      go_wp2_with fail
      clear hn2 hf2 hd2 gd2
      generalize w3.setCell ⟨g, 16, none⟩ (.int .u32 (S2.toNat : Int)) = w4 at *
      have hn4 := hs2.cell 16
      rw [crcCells_n] at hn4
      have hl4 := and_15_lt S2
      have ht4 := hs2.cell (S2 &&& 15#32).toNat
      rw [crcCells_tab _ _ _ hl4] at ht4
      have ha4 := and_15 S2
      have hx4 := nib S2
      generalize (S2 &&& 15#32).toNat = m4 at *
      generalize (shs 4 (BitVec.ofNat 32 m4)).toNat = y4 at *
      generalize shs 4 S2 = S3 at *
      have hm4 : (m4 : Int) < 16 := by omega
      have hd4 := hs2.drew
      have gd4 := gb_drew gs2
      go_still_tail 19, (by kernel_rfl)
      change wpList _ _ _ _ _ w4.drew
      clear hn4 ht4 ha4 hx4
      generalize w4.drew = w5 at *
      have hn4 := hd4.cell 16
      rw [crcCells_n] at hn4
      have hf4 := hd4.free 16
      have hs4 := hd4.set 16 (.int .u32 (S3.toNat : Int))
      rw [crcCells_setn] at hs4
      have gs4 := gb_set gd4 16 (.int .u32 (S3.toNat : Int))
      go_wp2_with fail
      clear hn4 hf4 hd4 gd4
      go_roundw
      case rel => exact ⟨j + 1, by omega, by go_num, by rw [HS.out]; exact hs4, gs4⟩
      case measure => simp [intOf]; omega
    · have : j = n := by omega
      subst this
      rw [List.take_of_length_le (by have := Hlen.out; omega)] at hbr
      have hc := hbr.cell 17
      rw [crcCells_l] at hc
      have hf := hbr.free 17
      have hset := hbr.set 17 (.int .i64 ((k + j : Nat) : Int))
      rw [crcCells_setl, Int.natCast_add] at hset
      have hgs := gb_set hgw 17 (.int .i64 ((k + j : Nat) : Int))
      rw [Int.natCast_add] at hgs
      go_wp2_with fail
      go_end0
      exact ⟨rfl, hset, hgs⟩
end Go.Proofs.YtoadamkmabkldaaGreatDoor
/- Contracts of crc.Sum, Len, Of, and of the reference's Of. -/
namespace Go.Proofs.YtoadamkmabkldaaGreatDoor
open Go.RowKit

theorem sum_any (g : Nat) (s : BitVec 32) (k : Nat) (w : World) (hb : Bk w g 154 (crcCells s k)) :
    Calls Tryz.prog 107 #[.pointer (some ⟨g, 0, none⟩)] w fun e w' => e = .returned (.int .u32 ((crcOut s).toNat : Int)) ∧ w = w' := by
  have hc := hb.cell 16
  rw [crcCells_n] at hc
  go_enter Tryz.func107, Tryz.ntmps107
  go_wp2
  go_ret
  exact ⟨ret_int (out32 s), rfl⟩

/-- Of, of pieces. -/
theorem crcof_any (A : Option Addr) (n c : Nat) (ls : List (List UInt8)) (w : World) (hr : RdRows w w.heap.size A n ls) (hn : n ≤ 1099511627776) (hlen : ls.flatten.length ≤ 1099511627776) :
    Calls Tryz.prog 89 #[.slice A n c] w fun e w' => e = .returned (.int .u32 ((crcOf ls.flatten).toNat : Int)) ∧ Below w.heap.size w w' := by
  have Hlen := Lib.hid hlen
  clear hlen
  have hnl := hr.len
  have Hnl := Lib.hid hnl
  clear hnl
  go_enter Tryz.func89, Tryz.ntmps89
  go_wp2_with fail
  refine (new_any w).mono ?_
  rintro e w1 ⟨g, rfl, hg, hb1, hbw1⟩
  go_wp2_with fail
  go_loopw [5, 9] (fun _ i wr => ∃ j : Nat, j ≤ n ∧ i = .int .i64 j ∧ Bk wr g 154 (crcCells (crcS crcIni (ls.take j).flatten) (ls.take j).flatten.length) ∧ Below w.heap.size w wr) (fun _ i _ => n - (intOf i).toNat)
  case atStart => exact ⟨0, Nat.zero_le _, rfl, hb1, hbw1⟩
  case round =>
    obtain ⟨j, hj, rfl, hb, hbw⟩ := hrel
    by_cases hlt : j < n
    · obtain ⟨b, o, v, l, rfl, hbb, hx, hc, A2, n2, c2, rfl, hr2, hnc2⟩ := hr.at_ hlt
      have hc' := (hbw.cell (p := ⟨b, o + j, none⟩) hbb).trans hc
      have hl2 := hr2.blen
      have hst : (ls.take (j + 1)).flatten = (ls.take j).flatten ++ l := by rw [take_step hx]; simp
      have hle : (ls.take (j + 1)).flatten.length ≤ ls.flatten.length := by
        have e := congrArg List.length (congrArg List.flatten (List.take_append_drop (j + 1) ls))
        rw [List.flatten_append, List.length_append] at e
        omega
      have hle2 := hle
      rw [hst, List.length_append] at hle2
      have hb2 : (ls.take j).flatten.length ≤ 1099511627776 ∧ n2 ≤ 1099511627776 := by have := Hlen.out; omega
      have Hst := Lib.hid hst
      have Hl2 := Lib.hid hl2
      clear hc hx hst hle hle2 hl2
      go_wp2_with fail
      refine (add_any g A2 n2 c2 w.heap.size l _ _ wr hb (hr2.below hbw (Nat.le_refl _)) hg hb2.2 hb2.1).mono ?_
      rintro e w2 ⟨rfl, hb3, hgr⟩
      have hbw3 := gb_below hgr hbw hbw.size hg
      clear hb hbw hc' hb2
      go_wp2_with fail
      go_roundw
      case rel => exact ⟨j + 1, by omega, by go_num, by rw [Hst.out, crcS_app, List.length_append, Hl2.out]; exact hb3, hbw3⟩
      case measure => simp [intOf]; omega
    · have : j = n := by omega
      subst this
      rw [List.take_of_length_le (by have := Hnl.out; omega)] at hb
      go_wp2_with fail
      refine (sum_any g _ _ wr hb).mono ?_
      rintro e w2 ⟨rfl, rfl⟩
      go_wp2
      go_ret
      exact ⟨rfl, hbw⟩
end Go.Proofs.YtoadamkmabkldaaGreatDoor
/- Contracts of package page: sum, Seal, Open. -/
namespace Go.Proofs.YtoadamkmabkldaaGreatDoor
open Go.RowKit
attribute [local go_sem ↓] Go.wp_at_zero Go.wp_at_succ

/-- The four bytes of a page's sum. -/
def sumB (z : Int) (l : List UInt8) : List UInt8 := leB ((crcOf (leB z 4 ++ l)).toNat : Int) 4
theorem sumB_len (z : Int) (l : List UInt8) : (sumB z l).length = 4 := by simp [sumB, leB_len]

/-- Bytes, filled up by zeros. -/
def padB (l : List UInt8) : List UInt8 := l ++ List.replicate (508 - l.length) 0
theorem padB_len (l : List UInt8) (h : l.length ≤ 508) : (padB l).length = 508 := by simp [padB]; omega
/-- A page as it stands. -/
def sealB (z : Int) (l : List UInt8) : List UInt8 := padB l ++ sumB z (padB l)
theorem sealB_len (z : Int) (l : List UInt8) (h : l.length ≤ 508) : (sealB z l).length = 512 := by simp [sealB, padB_len l h, sumB_len]
theorem lay_pad (l : List UInt8) (h : l.length ≤ 508) : lay (List.replicate 512 0) 0 l = padB l ++ List.replicate 4 0 := by
  simp only [lay, padB, List.take_zero, List.nil_append, Nat.zero_add, List.drop_replicate, List.append_assoc, List.append_cancel_left_eq]
  rw [List.replicate_append_replicate]
  congr 1
  omega
theorem lay_end (a b c : List UInt8) (hb : b.length = c.length) (n : Nat) (ha : a.length = n) : lay (a ++ b) n c = a ++ c := by
  subst ha
  simp [lay, ← hb]
theorem Rd.of_bk {w : World} {g : Nat} {t : TypeId} {l : List UInt8} (h : Bk w g t (bys l).toArray) (off n : Nat) (hn : off + n ≤ l.length) : Rd w w.heap.size 1 (some ⟨g, off, none⟩) n (bys ((l.drop off).take n)) := by
  refine ⟨by rw [bys_len, List.length_take, List.length_drop]; omega, fun _ => ⟨g, off, rfl, h.lt, fun j u hu => ?_⟩⟩
  rw [h.cell, List.getElem?_toArray]
  rw [← bys_take, List.getElem?_take] at hu
  split at hu
  · rw [← bys_drop, List.getElem?_drop] at hu; exact hu
  · cases hu
theorem psum_any (z : Int) (A : Option Addr) (n c : Nat) (l : List UInt8) (w : World) (hr : Rd w w.heap.size 1 A n (bys l)) (hnc : n ≤ c) (hn : n ≤ 1000000) :
    Calls Tryz.prog 94 #[.int .i64 z, .slice A n c] w fun e w' => ∃ v, e = .returned v ∧ w'.ownsRow w.heap.size 5 1 v 4 (bys (sumB z l)) ∧ Below w.heap.size w w' := by
  have w4 : (wid 4).toNat = 4 := by decide
  have W4 := Lib.hid w4
  have hl := hr.blen
  have Hl := Lib.hid hl
  clear w4 hl
  go_enter Tryz.func94, Tryz.ntmps94
  go_wp2_with fail
  refine (put_any none _ 0 0 1 1 4 [] [z] _ Rd.nil_ ((Rd.oneI w _ z).more (by simp)) (by omega) (by omega)).mono ?_
  rintro e w1 ⟨v1, rfl, hown1, hb1⟩
  have hbe1 : Below w.heap.size w w1 := ((Below.refl _ _).alloc (Nat.le_refl _) _).trans (hb1.mono (by simp))
  rw [W4.out, putB_one] at hown1
  obtain ⟨A1, c1, rfl, hc1, _⟩ := own_form hown1
  have hr1 := Rd.of_own hown1
  clear hb1 hown1
  go_wp2_with fail
  refine (crcof_any _ 2 2 [leB z 4, l] _ ((RdRows.two w1 _ (RdB.mk hr1 hc1) (RdB.mk ((hr.below hbe1 (Nat.le_refl _)).more hbe1.size) hnc) (Nat.le_refl _)).more (by simp)) (by omega) (by have := Hl.out; simp [leB_len]; omega)).mono ?_
  rintro e w2 ⟨rfl, hb2⟩
  have hbe2 : Below w.heap.size w w2 := hbe1.trans (((Below.refl _ _).alloc (Nat.le_refl _) _).trans (hb2.mono (by simp)) |>.mono hbe1.size)
  have hfl : [leB z 4, l].flatten = leB z 4 ++ l := by simp
  rw [hfl]
  clear hb2 hfl hbe1 hr1 hr
  have hC := (crcOf (leB z 4 ++ l)).isLt
  have hS : leB ((crcOf (leB z 4 ++ l)).toNat : Int) 4 = sumB z l := rfl
  have HS := Lib.hid hS
  clear hS
  generalize (crcOf (leB z 4 ++ l)).toNat = C at *
  go_wp2_with fail
  refine (put_any none _ 0 0 1 1 4 [] [(C : Int)] _ Rd.nil_ ((Rd.oneI w2 _ _).more (by simp)) (by omega) (by omega)).mono ?_
  rintro e w3 ⟨v3, rfl, hown3, hb3⟩
  have hbe3 : Below w.heap.size w w3 := hbe2.trans (((Below.refl _ _).alloc (Nat.le_refl _) _).trans (hb3.mono (by simp)) |>.mono hbe2.size)
  rw [W4.out, putB_one, HS.out] at hown3
  go_wp2
  go_ret
  exact ⟨_, rfl, own_base hown3 (Nat.le_trans hbe2.size (by simp)), hbe3⟩
/-- A page of zeros. -/
def zpage : Array Value := (bys (List.replicate 512 0)).toArray
theorem zpage_zero (w : World) : (zeroValue 139).run Tryz.prog w = .ok (.agg zpage) w := by kernel_rfl
theorem zpage_cells : (Value.agg zpage).cells = zpage := by kernel_rfl
theorem pseal_arg (z : Int) (A : Option Addr) (n c : Nat) (w : World) (hz : fitsB 3 [z] = false) (hz0 : -9223372036854775808 ≤ z ∧ z ≤ 9223372036854775807) :
    Calls Tryz.prog 97 #[.int .i64 z, .slice A n c] w fun e w' => e = .returned (.tuple #[.slice none 0 0, .int .i64 1]) ∧ Below w.heap.size w w' := by
  have w3 : (wid 3).toNat = 3 := by decide
  have hf := fits_any 3 _ 1 1 [z] _ ((Rd.oneI w 3 z).more (B' := (w.alloc (.cells #[.int .i64 z] 3)).heap.size) (by simp)) (by omega) (by simpa using hz0)
  rw [w3, hz] at hf
  clear w3 hz
  go_enter Tryz.func97, Tryz.ntmps97
  go_wp2_with fail
  refine hf.mono ?_
  rintro e w1 ⟨rfl, rfl⟩
  go_wp2
  go_ret2
  exact ⟨rfl, (Below.refl _ _).alloc (Nat.le_refl _) _⟩
theorem pseal_long (z : Int) (A : Option Addr) (n c : Nat) (w : World) (hz : fitsB 3 [z] = true) (hz0 : -9223372036854775808 ≤ z ∧ z ≤ 9223372036854775807) (hn : 508 < n) :
    Calls Tryz.prog 97 #[.int .i64 z, .slice A n c] w fun e w' => e = .returned (.tuple #[.slice none 0 0, .int .i64 10]) ∧ Below w.heap.size w w' := by
  have w3 : (wid 3).toNat = 3 := by decide
  have hf := fits_any 3 _ 1 1 [z] _ ((Rd.oneI w 3 z).more (B' := (w.alloc (.cells #[.int .i64 z] 3)).heap.size) (by simp)) (by omega) (by simpa using hz0)
  rw [w3, hz] at hf
  clear w3 hz
  go_enter Tryz.func97, Tryz.ntmps97
  go_wp2_with fail
  refine hf.mono ?_
  rintro e w1 ⟨rfl, rfl⟩
  go_wp2
  go_ret2
  exact ⟨rfl, (Below.refl _ _).alloc (Nat.le_refl _) _⟩
set_option maxHeartbeats 1000000 in
set_option maxRecDepth 100000 in
theorem pseal_ok (z : Int) (A : Option Addr) (n c : Nat) (l : List UInt8) (w : World) (hr : Rd w w.heap.size 1 A n (bys l)) (hnc : n ≤ c) (hz : fitsB 3 [z] = true) (hz0 : -9223372036854775808 ≤ z ∧ z ≤ 9223372036854775807) (hn : n ≤ 508) :
    Calls Tryz.prog 97 #[.int .i64 z, .slice A n c] w fun e w' => ∃ g, e = .returned (.tuple #[.slice (some ⟨g, 0, none⟩) 512 512, .int .i64 0]) ∧ Bk w' g 139 (bys (sealB z l)).toArray ∧ w.heap.size ≤ g ∧ Below w.heap.size w w' := by
  have w3 : (wid 3).toNat = 3 := by decide
  have hf := fits_any 3 _ 1 1 [z] _ ((Rd.oneI w 3 z).more (B' := (w.alloc (.cells #[.int .i64 z] 3)).heap.size) (by simp)) (by omega) (by simpa using hz0)
  rw [w3, hz] at hf
  have hl := hr.blen
  have hpl := lay_pad l (by omega)
  have hpn := padB_len l (by omega)
  have htk : l.take n = l := List.take_of_length_le (by omega)
  have hse : padB l ++ sumB z (padB l) = sealB z l := rfl
  have hsl := sumB_len z (padB l)
  have Hl := Lib.hid hl
  have Hpl := Lib.hid hpl
  have Hpn := Lib.hid hpn
  have Htk := Lib.hid htk
  have Hse := Lib.hid hse
  have Hsl := Lib.hid hsl
  have hzp := zpage_zero
  have hzc := zpage_cells
  have hze : zpage = (bys (List.replicate 512 0)).toArray := rfl
  have Hze := Lib.hid hze
  clear w3 hz hl hpl hpn htk hse hsl hze
  generalize hP : padB l = P at *
  generalize hT : sumB z P = T at *
  clear hP
  have HT := Lib.hid hT
  clear hT
  generalize zpage = zp at *
  go_enter Tryz.func97, Tryz.ntmps97
  go_wp2_with fail
  refine hf.mono ?_
  rintro e w1 ⟨rfl, rfl⟩
  have hal : Bk ((w.alloc (.cells #[.int .i64 z] 3)).alloc (.cells zp 139)) (w.heap.size + 1) 139 (bys (List.replicate 512 0)).toArray := by rw [← Hze.out]; exact Bk.new' _ _ _ (by simp)
  have hbe : Below w.heap.size w ((w.alloc (.cells #[.int .i64 z] 3)).alloc (.cells zp 139)) := ((Below.refl _ _).alloc (Nat.le_refl _) _).alloc (by simp) _
  go_wp2_with (refine copy_bys hal (hr.below hbe (Nat.le_refl _)) n (Nat.min_eq_left (by omega)).symm (by rw [List.length_replicate]; omega) rfl rfl hbe (by omega) ?_; intro w2 hbk2 hbe2)
  rw [Htk.out, Hpl.out] at hbk2
  have hr2 := Rd.of_bk hbk2 0 508 (by have := Hpn.out; rw [List.length_append, List.length_replicate]; omega)
  rw [List.drop_zero, List.take_append_of_le_length (by have := Hpn.out; omega), List.take_of_length_le (by have := Hpn.out; omega)] at hr2
  clear hal hbe hf hzp hzc
  go_wp2_with fail
  have hC : ∀ w3 v3, w3.ownsRow w2.heap.size 5 1 v3 4 (bys (sumB z P)) → Below w2.heap.size w2.drew w3 → ∃ A3 c3, v3 = .slice A3 4 c3 ∧ Rd w3 w3.heap.size 1 A3 4 (bys T) ∧ Below w.heap.size w w3 ∧ Bk w3 (w.heap.size + 1) 139 (bys (P ++ List.replicate 4 0)).toArray := by
    intro w3 v3 hown3 hb3
    rw [HT.out] at hown3
    obtain ⟨A3, c3, rfl, hc3, _⟩ := own_form hown3
    exact ⟨A3, c3, rfl, Rd.of_own hown3, hbe2.drew.trans (hb3.mono hbe2.size), hbk2.drew.below hb3 hbk2.lt⟩
  have HC := Lib.hid hC
  clear hC
  go_region_held3 (fun _ => True) (trivial) (first
    | (go_at_call 94; refine (psum_any z _ 508 512 P _ (by exact hr2) (by omega) (by omega)).mono ?_; rintro e w3 ⟨v3, rfl, hown3, hb3⟩; obtain ⟨A3, c3, rfl, hr3, hbe3, hbk3⟩ := HC.out w3 v3 hown3 hb3)
    | (refine copy_step (g := w.heap.size + 1) (L := P ++ List.replicate 4 0) (l := T) (A := A3) (n := 4) (off := 508) (dl := 4) (dc := 4) (c := c3) (by exact hbk3) (by exact hr3) 4 (by rfl) (by have := Hpn.out; rw [List.length_append, List.length_replicate]; omega) (by rfl) (by rfl) (by exact hbe3) (by omega) ?_; intro w4 hbk4 hbe4))
  rw [List.take_of_length_le (by have := Hsl.out; omega), lay_end _ _ _ (by have := Hsl.out; rw [List.length_replicate]; omega) 508 Hpn.out, Hse.out] at hbk4
  go_wp2
  go_ret2
  exact ⟨_, rfl, hbk4, by omega, hbe4⟩
end Go.Proofs.YtoadamkmabkldaaGreatDoor
/- Bits that are turned within four bytes next to one another: another sum. No program in sight. -/
namespace Go.Proofs.YtoadamkmabkldaaGreatDoor

/-- The first i of four bytes from k on, turned. -/
def turnL (l : List UInt8) (k : Nat) (x : Int) : Nat → List UInt8
  | 0 => l
  | i + 1 => (turnL l k x i).set (k + i) ((l[k + i]?.getD 0) ^^^ byteOf x i)
theorem turnL_len (l : List UInt8) (k : Nat) (x : Int) (i : Nat) : (turnL l k x i).length = l.length := by
  induction i with
  | zero => rfl
  | succ i ih => simp [turnL, ih]
theorem turnL_at (l : List UInt8) (k : Nat) (x : Int) (i j : Nat) (h : i ≤ j) : (turnL l k x i)[k + j]? = l[k + j]? := by
  induction i with
  | zero => rfl
  | succ i ih => rw [turnL, List.getElem?_set_ne (by omega), ih (by omega)]
theorem xorB_self (u v : UInt8) : (u ^^^ v) ^^^ u = v := by
  rw [UInt8.xor_comm u v, UInt8.xor_assoc, UInt8.xor_self, UInt8.xor_zero]
theorem turnL_four (p q : List UInt8) (a b c d : UInt8) (x : Int) :
    turnL (p ++ a :: b :: c :: d :: q) p.length x 4 = p ++ (a ^^^ byteOf x 0) :: (b ^^^ byteOf x 1) :: (c ^^^ byteOf x 2) :: (d ^^^ byteOf x 3) :: q := by
  have e : ∀ (j : Nat) (r : List UInt8), (p ++ r)[p.length + j]? = r[j]? := fun j r => by rw [List.getElem?_append_right (by omega)]; congr 1; omega
  have s : ∀ (j : Nat) (r : List UInt8) (v : UInt8), (p ++ r).set (p.length + j) v = p ++ r.set j v := fun j r v => by
    rw [List.set_append_right _ _ (by omega)]; congr 2; omega
  have e0 := e 0; have s0 := s 0
  simp only [Nat.add_zero] at e0 s0
  simp [turnL, e, s, e0, s0]
theorem w32_cons_zero (u : UInt8) (r : List UInt8) (hr : r.length ≤ 3) (h : w32 (u :: r) = 0) : u = 0 ∧ w32 r = 0 := by
  have hb : ∀ i, (b32 u).getLsbD i = ((w32 r) <<< 8).getLsbD i := by
    intro i
    have h1 : b32 u ^^^ (w32 r <<< 8) = 0 := h
    rw [xor_eq_zero h1]
  have h0 : b32 u = 0 := by
    apply BitVec.eq_of_getLsbD_eq
    intro i hi
    by_cases h8 : i < 8
    · rw [hb i]; simp [BitVec.getLsbD_shiftLeft, h8]
    · rw [b32_high u i (by omega)]; simp
  refine ⟨b32_inj (by rw [h0]; decide), ?_⟩
  apply BitVec.eq_of_getLsbD_eq
  intro i hi
  by_cases h24 : i < 24
  · have := hb (8 + i)
    rw [h0] at this
    simp only [BitVec.getLsbD_shiftLeft] at this
    have e1 : decide (8 + i < 32) = true := by simp; omega
    have e2 : decide (8 + i < 8) = false := by simp
    rw [e1, e2] at this
    simpa using this.symm
  · rw [w32_small r i (by omega)]; simp
theorem leN_four (x : Int) (h0 : 0 ≤ x) (h1 : x < 4294967296) (b0 : byteOf x 0 = 0) (b1 : byteOf x 1 = 0) (b2 : byteOf x 2 = 0) (b3 : byteOf x 3 = 0) : x = 0 := by
  have h := leN_leB x 4
  have e : leB x 4 = [0, 0, 0, 0] := by simp [leB, List.range_succ, b0, b1, b2, b3]
  rw [e] at h
  have e2 : leN [0, 0, 0, 0] = 0 := by decide
  rw [e2] at h
  have e3 : (256 : Int) ^ 4 = 4294967296 := by decide
  rw [e3] at h
  omega
theorem w32_ne (x : Int) (h0 : 0 < x) (h1 : x < 4294967296) : w32 [byteOf x 0, byteOf x 1, byteOf x 2, byteOf x 3] ≠ 0 := by
  intro h
  obtain ⟨a, h⟩ := w32_cons_zero _ _ (by simp) h
  obtain ⟨b, h⟩ := w32_cons_zero _ _ (by simp) h
  obtain ⟨c, h⟩ := w32_cons_zero _ _ (by simp) h
  obtain ⟨d, _⟩ := w32_cons_zero _ _ (by simp) h
  have := leN_four x (by omega) h1 a b c d
  omega
theorem split_four (l : List UInt8) (k : Nat) (h : k + 4 ≤ l.length) : ∃ p q a b c d, p.length = k ∧ l = p ++ a :: b :: c :: d :: q := by
  refine ⟨l.take k, l.drop (k + 4), l[k], l[k + 1], l[k + 2], l[k + 3], by simp; omega, ?_⟩
  rw [← List.drop_eq_getElem_cons, ← List.drop_eq_getElem_cons, ← List.drop_eq_getElem_cons, ← List.drop_eq_getElem_cons, List.take_append_drop]
/-- What was turned shows in the state, whatever was ahead and whatever comes. -/
theorem turn_state (s : BitVec 32) (l : List UInt8) (k : Nat) (x : Int) (hk : k + 4 ≤ l.length) (h0 : 0 < x) (h1 : x < 4294967296) : crcS s (turnL l k x 4) ≠ crcS s l := by
  obtain ⟨p, q, a, b, c, d, rfl, rfl⟩ := split_four l k hk
  rw [turnL_four]
  have e1 : ∀ (r : List UInt8) (a b c d : UInt8), r ++ a :: b :: c :: d :: q = r ++ ([a, b, c, d] ++ q) := fun _ _ _ _ _ => rfl
  rw [e1, e1, crcS_app, crcS_app, crcS_app, crcS_app]
  intro h
  have h2 := crcS_inj h
  have h3 := crcS_xor (crcS s p) (crcS s p) [a ^^^ byteOf x 0, b ^^^ byteOf x 1, c ^^^ byteOf x 2, d ^^^ byteOf x 3] [a, b, c, d] rfl
  rw [h2] at h3
  simp only [List.zipWith_cons_cons, List.zipWith_nil_right, BitVec.xor_self, xorB_self] at h3
  rw [crcS_word _ _ (by simp)] at h3
  have h4 : shs (8 * 4) (w32 [byteOf x 0, byteOf x 1, byteOf x 2, byteOf x 3]) = shs (8 * 4) 0 := by
    rw [shs_zero]
    simpa using h3
  exact w32_ne x h0 h1 (shs_inj h4)
theorem turn_crc (l : List UInt8) (k : Nat) (x : Int) (hk : k + 4 ≤ l.length) (h0 : 0 < x) (h1 : x < 4294967296) : crcOf (turnL l k x 4) ≠ crcOf l := by
  rw [Ne, crcOf_eq]
  exact turn_state _ l k x hk h0 h1
theorem xor8 (u v : UInt8) : bits .xor .u8 (u.toNat : Int) (v.toNat : Int) = ((u ^^^ v).toNat : Int) := by
  rw [u8_xor_nat _ _ u.toNat_lt v.toNat_lt, UInt8.toNat_xor]
end Go.Proofs.YtoadamkmabkldaaGreatDoor
/- Plain facts on pages: what is opened is what was sealed; turned bits show. No program in sight. -/
namespace Go.Proofs.YtoadamkmabkldaaGreatDoor

theorem nat_xor_join (a b : Nat) (ha : a < 256) : a ^^^ (256 * b) = a + 256 * b := by
  apply Nat.eq_of_testBit_eq
  intro j
  rw [Nat.add_comm, show (256 : Nat) = 2 ^ 8 from rfl, Nat.testBit_xor, Nat.testBit_two_pow_mul, Nat.testBit_two_pow_mul_add b (show a < 2 ^ 8 from ha)]
  by_cases h : j < 8
  · have h8 : ¬ 8 ≤ j := by omega
    rw [if_pos h]; simp [h8]
  · rw [if_neg h, Nat.testBit_lt_two_pow (Nat.lt_of_lt_of_le (show a < 2 ^ 8 from ha) (Nat.pow_le_pow_right (by omega) (by omega)))]
    simp; omega
theorem w32_leN : ∀ l : List UInt8, l.length ≤ 4 → ((w32 l).toNat : Int) = leN l
  | [], _ => rfl
  | u :: r, h => by
    simp only [List.length_cons] at h
    have ih := w32_leN r (by omega)
    have hu := u.toNat_lt
    have hr := leN_lt r
    have h3 : (256 : Int) ^ r.length ≤ 16777216 := by
      have : r.length = 0 ∨ r.length = 1 ∨ r.length = 2 ∨ r.length = 3 := by omega
      rcases this with e | e | e | e <;> rw [e] <;> decide
    have e1 : w32 (u :: r) = b32 u ^^^ (w32 r <<< 8) := rfl
    rw [e1, BitVec.toNat_xor, BitVec.toNat_shiftLeft, b32_nat, Nat.shiftLeft_eq, Nat.mod_eq_of_lt (by omega), Nat.mul_comm, show (2 : Nat) ^ 8 = 256 from rfl, nat_xor_join _ _ hu, leN, ← ih]
    omega
/-- What the state is behind a text and its own sum. -/
def resid : BitVec 32 := shs 32 (~~~0)
theorem xor_not (s t : BitVec 32) : s ^^^ t = ~~~0 ↔ t = ~~~s := by
  constructor
  · intro h
    have : s ^^^ (s ^^^ t) = s ^^^ ~~~0 := by rw [h]
    rw [← BitVec.xor_assoc, BitVec.xor_self, BitVec.zero_xor] at this
    rw [this]
    apply BitVec.eq_of_getLsbD_eq
    intro i hi
    have z0 : (0 : BitVec 32).getLsbD i = false := BitVec.getLsbD_zero
    simp only [BitVec.getLsbD_not, BitVec.getLsbD_xor, hi, decide_true, Bool.true_and]
    rw [z0]
    cases s.getLsbD i <;> rfl
  · intro h
    subst h
    apply BitVec.eq_of_getLsbD_eq
    intro i hi
    have z0 : (0 : BitVec 32).getLsbD i = false := BitVec.getLsbD_zero
    simp only [BitVec.getLsbD_not, BitVec.getLsbD_xor, hi, decide_true, Bool.true_and]
    rw [z0]
    cases s.getLsbD i <;> rfl
/-- Four bytes are a text's sum just if the state behind them is that one. -/
theorem sum_resid (m T : List UInt8) (hT : T.length = 4) : leB ((crcOf m).toNat : Int) 4 = T ↔ crcS crcIni (m ++ T) = resid := by
  have hw := w32_leN T (by omega)
  rw [crcS_app, crcS_word T _ (by omega), hT, show 8 * 4 = 32 from rfl]
  have e : (shs 32 (crcS crcIni m ^^^ w32 T) = resid) ↔ w32 T = crcOf m := by
    unfold resid
    constructor
    · intro h; exact (xor_not _ _).1 (shs_inj h)
    · intro h; rw [(xor_not _ _).2 h]
  rw [e]
  constructor
  · intro h
    apply BitVec.eq_of_toNat_eq
    have h2 : leN T = ((crcOf m).toNat : Int) % 256 ^ 4 := by rw [← h, leN_leB]
    have := (crcOf m).isLt
    have h4 : (256 : Int) ^ 4 = 4294967296 := by decide
    rw [h4] at h2
    omega
  · intro h
    rw [← h, hw, ← hT]
    exact leB_leN T
theorem page_ok (z : Int) (p : List UInt8) (hp : p.length = 512) : sumB z (p.take 508) = p.drop 508 ↔ crcS crcIni (leB z 4 ++ p) = resid := by
  unfold sumB
  rw [sum_resid _ _ (by rw [List.length_drop]; omega), List.append_assoc, List.take_append_drop]
theorem seal_take (z : Int) (l : List UInt8) (h : l.length ≤ 508) : (sealB z l).take 508 = padB l ∧ (sealB z l).drop 508 = sumB z (padB l) := by
  have := padB_len l h
  unfold sealB
  exact ⟨by rw [List.take_append_of_le_length (by omega), List.take_of_length_le (by omega)], by rw [List.drop_append_of_le_length (by omega), List.drop_of_length_le (by omega)]; rfl⟩
theorem seal_resid (z : Int) (l : List UInt8) (h : l.length ≤ 508) : crcS crcIni (leB z 4 ++ sealB z l) = resid := by
  rw [← page_ok z _ (sealB_len z l h), (seal_take z l h).1, (seal_take z l h).2]
theorem leB4_inj (z y : Int) (hz : 0 ≤ z ∧ z < 16777216) (hy : 0 ≤ y ∧ y < 16777216) (h : leB z 4 = leB y 4) : z = y := by
  have h2 : leN (leB z 4) = leN (leB y 4) := by rw [h]
  rw [leN_leB, leN_leB] at h2
  have h4 : (256 : Int) ^ 4 = 4294967296 := by decide
  rw [h4] at h2
  omega
/-- A page isn't opened under another number. -/
theorem seal_other (z y : Int) (l : List UInt8) (h : l.length ≤ 508) (hz : 0 ≤ z ∧ z < 16777216) (hy : 0 ≤ y ∧ y < 16777216) (hne : ¬ y = z) : ¬ sumB y ((sealB z l).take 508) = (sealB z l).drop 508 := by
  rw [page_ok y _ (sealB_len z l h), ← seal_resid z l h, crcS_app, crcS_app]
  intro e
  have e2 := crcS_inj e
  rw [crcS_word _ _ (by rw [leB_len]; omega), crcS_word _ _ (by rw [leB_len]; omega), leB_len, leB_len] at e2
  have e3 := shs_inj e2
  have e4 : w32 (leB y 4) = w32 (leB z 4) := by
    have : crcIni ^^^ (crcIni ^^^ w32 (leB y 4)) = crcIni ^^^ (crcIni ^^^ w32 (leB z 4)) := by rw [e3]
    simpa [← BitVec.xor_assoc] using this
  have h1 := w32_leN (leB y 4) (by rw [leB_len]; omega)
  have h2 := w32_leN (leB z 4) (by rw [leB_len]; omega)
  rw [e4, h2] at h1
  rw [leN_leB, leN_leB] at h1
  have h4 : (256 : Int) ^ 4 = 4294967296 := by decide
  rw [h4] at h1
  omega
/-- Turned bits show. -/
theorem seal_turned (z : Int) (l : List UInt8) (h : l.length ≤ 508) (k : Nat) (x : Int) (hk : k + 4 ≤ 512) (h0 : 0 < x) (h1 : x < 4294967296) :
    ¬ sumB z ((turnL (sealB z l) k x 4).take 508) = (turnL (sealB z l) k x 4).drop 508 := by
  have hl := sealB_len z l h
  rw [page_ok z _ (by rw [turnL_len]; exact hl), ← seal_resid z l h, crcS_app, crcS_app]
  exact turn_state _ _ k x (by omega) h0 h1
theorem seal_zeros (z : Int) (l : List UInt8) (k : Nat) (h : l.length + k ≤ 508) : sealB z (l ++ List.replicate k 0) = sealB z l := by
  have : padB (l ++ List.replicate k 0) = padB l := by
    unfold padB
    rw [List.append_assoc, List.replicate_append_replicate, List.length_append, List.length_replicate]
    congr 2
    omega
  unfold sealB
  rw [this]
theorem seal_open (z : Int) (l : List UInt8) (h : l.length = 512) : l = sealB z (l.take 508) ↔ sumB z (l.take 508) = l.drop 508 := by
  have hp : padB (l.take 508) = l.take 508 := by
    unfold padB
    rw [List.length_take, show 508 - min 508 l.length = 0 by omega]; simp
  unfold sealB
  rw [hp]
  constructor
  · intro e
    exact (List.append_cancel_left ((List.take_append_drop 508 l).trans e)).symm
  · intro e
    rw [e, List.take_append_drop]
end Go.Proofs.YtoadamkmabkldaaGreatDoor
