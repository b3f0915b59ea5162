/- Contracts of word.wide, Cut, Get, and of the reference's Wide, Number, Same. -/
import Derived.Test.YtoadamkmabkldaaGreatDoorJn01
import Derived.Test.YtoadamkmabkldaaGreatDoorJn10
import Derived.Test.YtoadamkmabkldaaGreatDoorRows
import Derived.Test.YtoadamkmabkldaaGreatDoorJn00
import Derived.IntWalk
import Derived.WalkKit
import Derived.Laws.BitsAllLaws
set_option linter.unusedVariables false
set_option linter.unusedSimpArgs false
namespace Go.Proofs.YtoadamkmabkldaaGreatDoor
open Go.RowKit

theorem wide_any (x : Int) (w : World) :
    Calls Tryz.prog 67 #[.int .i64 x] w fun e w' => e = .returned (.int .i64 (wid x)) ∧ w = w' := by
  go_enter Tryz.func67, Tryz.ntmps67
  go_wp2
  all_goals
    go_ret
    exact ⟨ret_int (by unfold wid; omega), rfl⟩


theorem cut_arg (A : Option Addr) (n c : Nat) (at_ m : Int) (w : World) (h : at_ < 0 ∨ 0 ≤ at_ ∧ m < 0) :
    Calls Tryz.prog 66 #[.slice A n c, .int .i64 at_, .int .i64 m] w fun e w' => e = .returned (.tuple #[.slice none 0 0, .int .i64 1]) ∧ w = w' := by
  rcases h with h | ⟨h0, h⟩
  · go_enter Tryz.func66, Tryz.ntmps66
    go_wp2
    go_ret2
    exact ⟨rfl, rfl⟩
  · go_enter Tryz.func66, Tryz.ntmps66
    go_wp2
    go_ret2
    exact ⟨rfl, rfl⟩

theorem cut_end (A : Option Addr) (n c : Nat) (at_ m : Int) (w : World) (h0 : 0 ≤ at_) (h1 : 0 ≤ m) (hn : (n : Int) ≤ 9223372036854775807) (h : (n : Int) < at_ ∨ at_ ≤ n ∧ n - at_ < m) :
    Calls Tryz.prog 66 #[.slice A n c, .int .i64 at_, .int .i64 m] w fun e w' => e = .returned (.tuple #[.slice none 0 0, .int .i64 3]) ∧ w = w' := by
  rcases h with h | ⟨h2, h⟩
  · go_enter Tryz.func66, Tryz.ntmps66
    go_wp2
    go_ret2
    exact ⟨rfl, rfl⟩
  · go_enter Tryz.func66, Tryz.ntmps66
    go_wp2
    go_ret2
    exact ⟨rfl, rfl⟩

theorem cut_ok (A : Option Addr) (n c k m : Nat) (l : List UInt8) (w : World) (hr : Rd w w.heap.size 1 A n (bys l)) (hnc : n ≤ c) (hkm : k + m ≤ n) (hn : n ≤ 140737488355328) :
    Calls Tryz.prog 66 #[.slice A n c, .int .i64 k, .int .i64 m] w fun e w' => ∃ v, e = .returned (.tuple #[v, .int .i64 0]) ∧
      w'.ownsRow w.heap.size 5 1 v m (bys ((l.drop k).take m)) ∧ Below w.heap.size w w' := by
  go_enter Tryz.func66, Tryz.ntmps66
  go_wp2_with (first
    | ((with_reducible refine at_slice ?_)
       refine cut_bys hr hnc k m hkm rfl rfl rfl rfl rfl rfl ?_
       intro A' c' hr' _ _)
    | (at_builtin
       refine ap_bys (own_nilB w w.heap.size _) hr' (Below.refl _ _) (Nat.le_refl _) (by omega) rfl rfl rfl ?_
       intro v' w' hown hb _ _))
  go_ret2
  exact ⟨_, rfl, by simpa using hown, hb⟩

/-- Get refuses. -/
theorem get_arg (A : Option Addr) (n c : Nat) (at_ x : Int) (w : World) (h : at_ < 0) :
    Calls Tryz.prog 40 #[.slice A n c, .int .i64 at_, .int .i64 x] w fun e w' => e = .returned (.tuple #[.int .i64 0, .int .i64 1]) ∧ w = w' := by
  go_enter Tryz.func40, Tryz.ntmps40
  go_wp2_with (first
    | (go_at_call 67; refine (wide_any _ _).mono ?_; rintro e w' ⟨rfl, rfl⟩)
    | (go_at_call 66; refine (cut_arg _ _ _ _ _ _ (.inl h)).mono ?_; rintro e w' ⟨rfl, rfl⟩))
  go_loop [10, 11] (fun a b => a = .int .i64 0 ∧ b = .int .i64 (-1)) (fun _ _ => 0)
  case atStart => exact ⟨rfl, rfl⟩
  case round =>
    obtain ⟨rfl, rfl⟩ := hrel
    go_wp2
    go_ret2
    exact ⟨rfl, rfl⟩
theorem get_end (A : Option Addr) (n c : Nat) (at_ x : Int) (w : World) (h0 : 0 ≤ at_) (hn : (n : Int) ≤ 9223372036854775807) (h : (n : Int) < at_ ∨ at_ ≤ n ∧ n - at_ < wid x) :
    Calls Tryz.prog 40 #[.slice A n c, .int .i64 at_, .int .i64 x] w fun e w' => e = .returned (.tuple #[.int .i64 0, .int .i64 3]) ∧ w = w' := by
  have hb := wid_bd x
  go_enter Tryz.func40, Tryz.ntmps40
  go_wp2_with (first
    | (go_at_call 67; refine (wide_any _ _).mono ?_; rintro e w' ⟨rfl, rfl⟩)
    | (go_at_call 66; refine (cut_end _ _ _ _ _ _ h0 (by omega) hn h).mono ?_; rintro e w' ⟨rfl, rfl⟩))
  go_loop [10, 11] (fun a b => a = .int .i64 0 ∧ b = .int .i64 (-1)) (fun _ _ => 0)
  case atStart => exact ⟨rfl, rfl⟩
  case round =>
    obtain ⟨rfl, rfl⟩ := hrel
    go_wp2
    go_ret2
    exact ⟨rfl, rfl⟩
theorem get_ok (A : Option Addr) (n c k : Nat) (x : Int) (l : List UInt8) (w : World) (hr : Rd w w.heap.size 1 A n (bys l)) (hnc : n ≤ c) (hkm : (k : Int) + wid x ≤ n) (hn : n ≤ 140737488355328) :
    Calls Tryz.prog 40 #[.slice A n c, .int .i64 k, .int .i64 x] w fun e w' =>
      e = .returned (.tuple #[.int .i64 (leN ((l.drop k).take (wid x).toNat)), .int .i64 0]) ∧ Below w.heap.size w w' := by
  have hb := wid_bd x
  obtain ⟨m, hm⟩ : ∃ m : Nat, wid x = m := ⟨(wid x).toNat, by omega⟩
  have Hm := Lib.hid hm
  have hcut := cut_ok A n c k m l w hr hnc (by omega) hn
  have hm7 : m ≤ 7 := by omega
  generalize hL : (l.drop k).take m = L at *
  have HL := Lib.hid hL
  rw [Hm.out]
  clear hm hL hb hr hkm
  go_enter Tryz.func40, Tryz.ntmps40
  go_wp2_with fail
  refine (wide_any x _).mono ?_
  rintro e w' ⟨rfl, rfl⟩
  rw [Hm.out]
  go_wp2_with fail
  refine hcut.mono ?_
  rintro e w1 ⟨v, rfl, hown, hbel⟩
  obtain ⟨A1, c1, rfl, _, _⟩ := own_form hown
  have hr1 := Rd.of_own hown
  have hlen : L.length = m := hr1.blen
  clear hown hcut
  go_wp2_with fail
  go_loop [10, 11] (fun a b => ∃ j : Nat, j ≤ m ∧ b = .int .i64 ((j : Int) - 1) ∧ a = .int .i64 (leN (L.drop j))) (fun _ b => (intOf b + 1).toNat)
  case atStart => exact ⟨m, Nat.le_refl _, rfl, by rw [List.drop_of_length_le (by omega)]; rfl⟩
  case round =>
    obtain ⟨j, hj, rfl, rfl⟩ := hrel
    rcases Nat.eq_zero_or_pos j with h0 | h0
    · subst h0
      go_wp2
      go_ret2
      refine ⟨?_, hbel⟩
      rw [HL.out]; rfl
    · obtain ⟨i, rfl⟩ : ∃ i, j = i + 1 := ⟨j - 1, by omega⟩
      obtain ⟨b, o, u, rfl, hb, hx, hu, hc⟩ := hr1.byte (k := i) (by omega)
      have hd := leN_drop L i u hx
      have hn0 := leN_nn (L.drop (i + 1))
      have hn1 : leN (L.drop (i + 1)) < 281474976710656 := by
        have h7 := leN_lt7 (L.drop i) (by rw [List.length_drop]; omega)
        omega
      have Hd := Lib.hid hd
      have hor := or_i64_8 _ _ hn0 hn1 hu
      clear hd
      generalize leN (L.drop (i + 1)) = y at *
      go_wp2
      go_round
      case rel => exact ⟨i, by omega, by go_num, by rw [Hd.out]; go_num⟩
      case measure => simp [intOf]
end Go.Proofs.YtoadamkmabkldaaGreatDoor
/- The contract of the reference's Same. -/
namespace Go.Proofs.YtoadamkmabkldaaGreatDoor
open Go.RowKit

/-- Two lists of bytes, gone through side by side. -/
theorem same_any (A B : Option Addr) (n m c d : Nat) (l r : List UInt8) (w : World) (hl : Rd w w.heap.size 1 A n (bys l)) (hr : Rd w w.heap.size 1 B m (bys r)) (hn : n ≤ 9223372036854775807) (hm : m ≤ 9223372036854775807) :
    Calls Tryz.prog 50 #[.slice A n c, .slice B m d] w fun e w' => e = .returned (.bool (decide (l = r))) ∧ ∃ q, w' = w.drewN q := by
  have hln : l.length = n := hl.blen
  have hrm : r.length = m := hr.blen
  by_cases hnm : n = m
  · have hlr : l.length = r.length := by omega
    subst hnm
    have Hln := Lib.hid hln
    have Hlr := Lib.hid hlr
    clear hln hrm hlr
    go_enter Tryz.func50, Tryz.ntmps50
    go_wp2_with fail
    go_loopw [5] (fun a wr => ∃ j : Nat, j ≤ n ∧ a = .int .i64 j ∧ Hid (l.take j = r.take j) ∧ ∃ q, wr = w.drewN q) (fun a _ => n - (intOf a).toNat)
    case atStart => exact ⟨0, Nat.zero_le _, rfl, rfl, 0, rfl⟩
    case round =>
      obtain ⟨j, hj, rfl, hjt, q, rfl⟩ := hrel
      by_cases hlt : j < n
      · obtain ⟨b, o, u, rfl, hb, hx, hu, hc⟩ := hl.byte (k := j) hlt
        obtain ⟨b2, o2, u2, rfl, hb2, hx2, hu2, hc2⟩ := hr.byte (k := j) hlt
        have HX := Lib.hid hx
        have HX2 := Lib.hid hx2
        clear hx hx2
        have hj1 : (j : Int) < (n : Int) := by omega
        by_cases huu : u = u2
        · have hne : ((u.toNat : Int) != (u2.toNat : Int)) = false := by rw [huu]; simp
          have HU := Lib.hid huu
          clear huu
          go_wp2_with fail
          go_quiet (fail)
          go_wp2
          go_roundw
          case rel => exact ⟨j + 1, by omega, by go_num, Lib.hid (by rw [take_step HX.out, take_step HX2.out, hjt.out, HU.out]), _, rfl⟩
          case measure => simp [intOf]; omega
        · have hne : ((u.toNat : Int) != (u2.toNat : Int)) = true := by
            rw [bne_iff_ne]; intro h; exact huu (UInt8.toNat_inj.1 (by omega))
          have HU := Lib.hid huu
          clear huu
          go_wp2_with fail
          go_quiet (fail)
          go_wp2
          go_ret
          refine ⟨ret_bool ?_, _, World.drewN_drewN _ _ _⟩
          symm
          rw [decide_eq_false_iff_not]
          intro h
          have := HX.out
          rw [h, HX2.out] at this
          injection this with this
          exact HU.out this.symm
      · have : j = n := by omega
        subst this
        go_wp2
        go_ret
        refine ⟨ret_bool ?_, _, rfl⟩
        symm
        rw [decide_eq_true_iff]
        have := hjt.out
        rwa [List.take_of_length_le (by have := Hln.out; omega), List.take_of_length_le (by have := Hlr.out; have := Hln.out; omega)] at this
  · have hne : ((n : Int) != (m : Int)) = true := by rw [bne_iff_ne]; omega
    have hlr : ¬ l = r := by rintro rfl; omega
    have Hlr := Lib.hid hlr
    clear hln hrm hlr
    go_enter Tryz.func50, Tryz.ntmps50
    go_wp2
    go_ret
    exact ⟨ret_bool (by rw [decide_eq_false Hlr.out]), 0, rfl⟩

end Go.Proofs.YtoadamkmabkldaaGreatDoor
/- Contracts of the reference's Number, Same, Bytes, and of word.Put, Fits. -/
namespace Go.Proofs.YtoadamkmabkldaaGreatDoor
open Go.RowKit

/-- Fits: for all of them. -/
theorem fits_any (x : Int) (A : Option Addr) (n c : Nat) (l : List Int) (w : World) (hr : Rd w w.heap.size 1 A n (its l)) (hn : n ≤ 9223372036854775807)
    (hl : ∀ z ∈ l, -9223372036854775808 ≤ z ∧ z ≤ 9223372036854775807) :
    Calls Tryz.prog 93 #[.int .i64 x, .slice A n c] w fun e w' => e = .returned (.bool (fitsB (wid x).toNat l)) ∧ w = w' := by
  have hln : l.length = n := hr.ilen
  have hb := wid_bd x
  obtain ⟨m, hm⟩ : ∃ m : Nat, wid x = m := ⟨(wid x).toNat, by omega⟩
  have Hm := Lib.hid hm
  have hm1 : 1 ≤ m := by omega
  have hm7 : m ≤ 7 := by omega
  have Hln := Lib.hid hln
  have e0 : (wid x).toNat = m := by omega
  rw [e0]
  clear hm hb hln e0
  have hF := hl
  have HF := Lib.hid hF
  clear hF hl
  go_enter Tryz.func93, Tryz.ntmps93
  go_wp2_with fail
  go_loop [9] (fun a => ∃ j : Nat, j ≤ n ∧ a = .int .i64 j ∧ Hid (fitsB m (l.take j) = true)) (fun a => n - (intOf a).toNat)
  case atStart => exact ⟨0, Nat.zero_le _, rfl, rfl⟩
  case round =>
    obtain ⟨j, hj, rfl, hjt⟩ := hrel
    by_cases hlt : j < n
    · obtain ⟨b, o, z, rfl, _, hx, hc⟩ := hr.num (k := j) hlt
      have hz := HF.out z (List.mem_of_getElem? hx)
      have HX := Lib.hid hx
      clear hx
      by_cases h0 : z < 0
      · go_wp2_with fail
        go_ret
        refine ⟨ret_bool ?_, rfl⟩
        exact (fitsB_no m l z j HX.out (.inl h0)).symm
      · have hs := shr_fits m z (by omega)
        by_cases hf : z < 256 ^ m
        · rw [decide_eq_true hf, Bool.not_true] at hs
          have HF2 := Lib.hid hf
          clear hf
          go_wp2_with fail
          refine (wide_any x _).mono ?_
          rintro e w' ⟨rfl, rfl⟩
          rw [Hm.out]
          go_wp2_with fail
          go_round
          case rel => exact ⟨j + 1, by omega, by go_num, Lib.hid (by rw [take_step HX.out, fitsB_snoc, hjt.out, decide_eq_true HF2.out]; simp; omega)⟩
          case measure => simp [intOf]; omega
        · rw [decide_eq_false hf, Bool.not_false] at hs
          have HF2 := Lib.hid hf
          clear hf
          go_wp2_with fail
          refine (wide_any x _).mono ?_
          rintro e w' ⟨rfl, rfl⟩
          rw [Hm.out]
          go_wp2_with fail
          go_ret
          exact ⟨ret_bool (fitsB_no m l z j HX.out (.inr (Int.not_lt.2 HF2.out))).symm, rfl⟩
    · have : j = n := by omega
      subst this
      go_wp2
      go_ret
      refine ⟨ret_bool ?_, rfl⟩
      have := hjt.out
      rwa [List.take_of_length_le (by have := Hln.out; omega), eq_comm] at this

/-- Put. -/
theorem put_any (A A2 : Option Addr) (n c m c2 : Nat) (x : Int) (l : List UInt8) (ns : List Int) (w : World) (hr : Rd w w.heap.size 1 A n (bys l)) (hr2 : Rd w w.heap.size 1 A2 m (its ns))
    (hn : n ≤ 1099511627776) (hm : m ≤ 1099511627776) :
    Calls Tryz.prog 47 #[.slice A n c, .int .i64 x, .slice A2 m c2] w fun e w' => ∃ v, e = .returned v ∧
      w'.ownsRow w.heap.size 5 1 v (n + m * (wid x).toNat) (bys (putB l (wid x).toNat ns)) ∧ Below w.heap.size w w' := by
  have hb := wid_bd x
  obtain ⟨d, hd⟩ : ∃ d : Nat, wid x = d := ⟨(wid x).toNat, by omega⟩
  have e0 : (wid x).toNat = d := by omega
  have Hd := Lib.hid hd
  have hd1 : 1 ≤ d := by omega
  have hd7 : d ≤ 7 := by omega
  have hlm : ns.length = m := hr2.ilen
  have Hlm := Lib.hid hlm
  rw [e0]
  clear hd hb e0 hlm
  go_enter Tryz.func47, Tryz.ntmps47
  go_wp2_with (
    at_builtin
    refine ap_bys (own_nilB w w.heap.size _) hr (Below.refl _ _) (Nat.le_refl _) (by omega) rfl rfl rfl ?_
    intro v1 w1 hown1 hb1 _ _)
  simp only [Nat.zero_add, List.nil_append] at hown1
  go_loopw [7, 15] (fun v i wr => ∃ j : Nat, j ≤ m ∧ i = .int .i64 j ∧ wr.ownsRow w.heap.size 5 1 v (n + j * d) (bys (putB l d (ns.take j))) ∧ Below w.heap.size w wr)
    (fun _ i _ => m - (intOf i).toNat)
  case atStart => exact ⟨0, Nat.zero_le _, rfl, by simpa [putB] using hown1, hb1⟩
  case round =>
    obtain ⟨j, hj, rfl, hown, hbw⟩ := hrel
    by_cases hlt : j < m
    · obtain ⟨b, o, z, rfl, hbb, hx, hc⟩ := hr2.num (k := j) hlt
      have hc' := (hbw.cell (p := ⟨b, o + j, none⟩) hbb).trans hc
      have HX := Lib.hid hx
      clear hx hc
      go_wp2_with fail
      refine (wide_any x _).mono ?_
      rintro e w' ⟨rfl, rfl⟩
      rw [Hd.out]
      go_wp2_with fail
      have hsz := hbw.size
      go_loopw [7, 21] (fun v i wr2 => ∃ k : Nat, k ≤ d ∧ i = .int .i64 k ∧ wr2.ownsRow w.heap.size 5 1 v (n + j * d + k) (bys (putB l d (ns.take j) ++ leB z k)) ∧ Below w.heap.size w wr2)
        (fun _ i _ => d - (intOf i).toNat)
      case atStart => exact ⟨0, Nat.zero_le _, rfl, by simpa [leB] using hown, hbw⟩
      case round =>
        clear hown hbw hsz hc'
        obtain ⟨k, hk, rfl, hown, hbw⟩ := hrel
        have hsz := hbw.size
        have hjd : j * d ≤ m * 7 := Nat.mul_le_mul (by omega) hd7
        by_cases hkt : k < d
        · have hby : (z / 2 ^ (8 * k)) % 256 = ((byteOf z k).toNat : Int) := by rw [byteOf_nat, pow256]
          have Hby := Lib.hid hby
          clear hby
          go_wp2_with (
            at_builtin
            refine ap_bys (hown.alloc _) (Rd.oneB wr _ Hby.out) (hbw.alloc hsz _) (by simp; omega) (by omega) rfl rfl rfl ?_
            intro v2 w2 hown2 hb2 _ _)
          go_roundw
          case rel => exact ⟨k + 1, by omega, by go_num, by rw [leB_succ, ← List.append_assoc, ← Nat.add_assoc]; exact hown2, hb2⟩
          case measure => simp [intOf]; omega
        · have : k = d := by omega
          subst this
          go_wp2
          go_roundw
          case rel => exact ⟨j + 1, by omega, by go_num, by rw [take_step HX.out, putB_snoc, Nat.add_mul, Nat.one_mul, ← Nat.add_assoc]; exact hown, hbw⟩
          case measure => simp [intOf]; omega
    · have : j = m := by omega
      subst this
      go_wp2
      go_ret
      exact ⟨_, rfl, by rw [List.take_of_length_le (by have := Hlm.out; omega)] at hown; exact hown, hbw⟩

end Go.Proofs.YtoadamkmabkldaaGreatDoor
/- Plain facts on sums of 32 bits: the step by a bit is linear and loses nothing; so bits that are turned within four bytes show. No program in sight. -/
namespace Go.Proofs.YtoadamkmabkldaaGreatDoor

def poly : BitVec 32 := 0xedb88320#32
/-- One bit goes. -/
def sh (n : BitVec 32) : BitVec 32 := if n.getLsbD 0 = true then (n >>> 1) ^^^ poly else n >>> 1
def shs : Nat → BitVec 32 → BitVec 32
  | 0, n => n
  | k + 1, n => sh (shs k n)

theorem sh_xor (a b : BitVec 32) : sh (a ^^^ b) = sh a ^^^ sh b := by
  unfold sh
  rw [BitVec.ushiftRight_xor_distrib, BitVec.getLsbD_xor]
  cases a.getLsbD 0 <;> cases b.getLsbD 0 <;> simp
  · ac_rfl
  · ac_rfl
  · have : (a >>> 1 ^^^ poly ^^^ (b >>> 1 ^^^ poly)) = (a >>> 1 ^^^ b >>> 1) ^^^ (poly ^^^ poly) := by ac_rfl
    rw [this]; simp
theorem sh_zero : sh 0 = 0 := by decide
theorem sh_eq_zero (a : BitVec 32) (h : sh a = 0) : a = 0 := by
  unfold sh at h
  split at h
  · exfalso
    have h1 := congrArg (fun x => x.getLsbD 31) h
    simp [BitVec.getLsbD_xor, BitVec.getLsbD_ushiftRight, poly] at h1
  · rename_i h0
    apply BitVec.eq_of_getLsbD_eq
    intro i hi
    have hz : (0 : BitVec 32).getLsbD i = false := by simp
    rw [hz]
    cases i with
    | zero => simpa using h0
    | succ i =>
      have h1 : (a >>> 1).getLsbD i = (0 : BitVec 32).getLsbD i := by rw [h]
      rw [BitVec.getLsbD_ushiftRight, Nat.add_comm] at h1
      rw [h1]; simp
theorem xor_eq_zero {a b : BitVec 32} (h : a ^^^ b = 0) : a = b := by
  have : a ^^^ b ^^^ b = 0 ^^^ b := by rw [h]
  simpa [BitVec.xor_assoc] using this
theorem sh_inj {a b : BitVec 32} (h : sh a = sh b) : a = b := by
  apply xor_eq_zero
  apply sh_eq_zero
  rw [sh_xor, h]
  simp
theorem shs_xor (k : Nat) (a b : BitVec 32) : shs k (a ^^^ b) = shs k a ^^^ shs k b := by
  induction k with
  | zero => rfl
  | succ k ih => simp only [shs, ih, sh_xor]
theorem shs_inj {k : Nat} {a b : BitVec 32} (h : shs k a = shs k b) : a = b := by
  induction k with
  | zero => exact h
  | succ k ih => exact ih (sh_inj h)
theorem shs_zero (k : Nat) : shs k 0 = 0 := by
  induction k with
  | zero => rfl
  | succ k ih => simp only [shs, ih, sh_zero]
theorem shs_add (j k : Nat) (a : BitVec 32) : shs (j + k) a = shs j (shs k a) := by
  induction j with
  | zero => simp [shs]
  | succ j ih => rw [Nat.add_right_comm]; simp only [shs, ih]
/-- Bits that are not there yet only move down. -/
theorem shs_low (k : Nat) (a : BitVec 32) (h : ∀ i, i < k → a.getLsbD i = false) : shs k a = a >>> k := by
  induction k with
  | zero => simp [shs]
  | succ k ih =>
    rw [shs, ih fun i hi => h i (by omega)]
    unfold sh
    rw [if_neg (by simp [h k (by omega)])]
    rw [BitVec.shiftRight_add]
theorem low_high (k : Nat) (n : BitVec 32) : n = (n &&& BitVec.ofNat 32 (2 ^ k - 1)) ^^^ (n &&& ~~~(BitVec.ofNat 32 (2 ^ k - 1))) := by
  apply BitVec.eq_of_getLsbD_eq
  intro i hi
  simp only [BitVec.getLsbD_xor, BitVec.getLsbD_and, BitVec.getLsbD_not, hi, decide_true, Bool.true_and]
  cases n.getLsbD i <;> simp
/-- Four bits at once. -/
theorem shs4_eq (n : BitVec 32) : shs 4 n = (n >>> 4) ^^^ shs 4 (n &&& 15#32) := by
  have h := low_high 4 n
  have e : (BitVec.ofNat 32 (2 ^ 4 - 1)) = 15#32 := rfl
  rw [e] at h
  conv => lhs; rw [h]
  rw [shs_xor, BitVec.xor_comm]
  congr 1
  have hb : ∀ i, i < 4 → (15#32 : BitVec 32).getLsbD i = true := by
    intro i hi
    have : i = 0 ∨ i = 1 ∨ i = 2 ∨ i = 3 := by omega
    rcases this with rfl | rfl | rfl | rfl <;> decide
  rw [shs_low 4]
  · apply BitVec.eq_of_getLsbD_eq
    intro i hi
    simp only [BitVec.getLsbD_ushiftRight, BitVec.getLsbD_and, BitVec.getLsbD_not]
    by_cases h32 : 4 + i < 32
    · have : (15#32 : BitVec 32).getLsbD (4 + i) = false := by
        have : i = 0 ∨ i = 1 ∨ i = 2 ∨ i = 3 ∨ i = 4 ∨ i = 5 ∨ i = 6 ∨ i = 7 ∨ i = 8 ∨ i = 9 ∨ i = 10 ∨ i = 11 ∨ i = 12 ∨ i = 13 ∨ i = 14 ∨ i = 15 ∨ i = 16 ∨ i = 17 ∨ i = 18 ∨ i = 19 ∨ i = 20 ∨ i = 21 ∨ i = 22 ∨ i = 23 ∨ i = 24 ∨ i = 25 ∨ i = 26 ∨ i = 27 := by omega
        rcases this with rfl | rfl | rfl | rfl | rfl | rfl | rfl | rfl | rfl | rfl | rfl | rfl | rfl | rfl | rfl | rfl | rfl | rfl | rfl | rfl | rfl | rfl | rfl | rfl | rfl | rfl | rfl | rfl <;> decide
      rw [this, decide_eq_true h32]
      cases n.getLsbD (4 + i) <;> rfl
    · rw [BitVec.getLsbD_of_ge n (4 + i) (by omega)]; rfl
  · intro i hi
    rw [BitVec.getLsbD_and, BitVec.getLsbD_not, hb i hi]
    simp only [Bool.not_true, Bool.and_false]

/-- A byte as 32 bits. -/
def b32 (u : UInt8) : BitVec 32 := BitVec.ofNat 32 u.toNat
theorem b32_nat (u : UInt8) : (b32 u).toNat = u.toNat := by
  have := u.toNat_lt
  simp only [b32, BitVec.toNat_ofNat]; omega
theorem b32_high (u : UInt8) (i : Nat) (h : 8 ≤ i) : (b32 u).getLsbD i = false := by
  have := u.toNat_lt
  unfold b32
  rw [BitVec.getLsbD_ofNat]
  rw [Nat.testBit_lt_two_pow (Nat.lt_of_lt_of_le (by omega : u.toNat < 2 ^ 8) (Nat.pow_le_pow_right (by omega) h))]
  simp
theorem b32_shift (u : UInt8) : (b32 u) >>> 8 = 0 := by
  apply BitVec.eq_of_getLsbD_eq
  intro i hi
  simp [BitVec.getLsbD_ushiftRight, b32_high u (8 + i) (by omega)]
theorem b32_inj {u v : UInt8} (h : b32 u = b32 v) : u = v := by
  apply UInt8.toNat_inj.1
  rw [← b32_nat, ← b32_nat, h]
/-- A byte goes. -/
def cst (s : BitVec 32) (u : UInt8) : BitVec 32 := shs 8 (s ^^^ b32 u)
def crcS (s : BitVec 32) (l : List UInt8) : BitVec 32 := l.foldl cst s
/-- The sum of bytes. -/
def crcIni : BitVec 32 := ~~~0
def crcOut (s : BitVec 32) : BitVec 32 := ~~~s
def crcOf (l : List UInt8) : BitVec 32 := crcOut (crcS crcIni l)
theorem crcS_app (s : BitVec 32) (a b : List UInt8) : crcS s (a ++ b) = crcS (crcS s a) b := by simp [crcS]
theorem crcS_cons (s : BitVec 32) (u : UInt8) (r : List UInt8) : crcS s (u :: r) = crcS (cst s u) r := rfl
theorem cst_inj {s t : BitVec 32} {u : UInt8} (h : cst s u = cst t u) : s = t := by
  have := shs_inj h
  have h2 : s ^^^ b32 u ^^^ b32 u = t ^^^ b32 u ^^^ b32 u := by rw [this]
  simpa [BitVec.xor_assoc] using h2
theorem crcS_inj {s t : BitVec 32} {l : List UInt8} (h : crcS s l = crcS t l) : s = t := by
  induction l generalizing s t with
  | nil => exact h
  | cons u r ih => exact cst_inj (ih h)
theorem not_inj {a b : BitVec 32} (h : ~~~a = ~~~b) : a = b := by
  have := congrArg (fun x => ~~~x) h
  simpa using this
theorem crcOf_eq (a b : List UInt8) : crcOf a = crcOf b ↔ crcS crcIni a = crcS crcIni b := ⟨fun h => not_inj h, fun h => by unfold crcOf; rw [h]⟩
/-- The reference's step by a bit. -/
def refBit (n : BitVec 32) (x : Bool) : BitVec 32 := if (x ^^ n.getLsbD 0) = true then (n >>> 1) ^^^ poly else n >>> 1
def refBits : Nat → BitVec 32 → BitVec 32 → BitVec 32
  | 0, n, _ => n
  | k + 1, n, b => refBit (refBits k n b) (b.getLsbD k)
theorem refBits_eq (k : Nat) (n b : BitVec 32) : shs k (n ^^^ b) = refBits k n b ^^^ (b >>> k) := by
  induction k with
  | zero => simp [shs, refBits]
  | succ k ih =>
    rw [shs, ih, refBits]
    unfold sh refBit
    rw [BitVec.ushiftRight_xor_distrib, BitVec.getLsbD_xor, BitVec.getLsbD_ushiftRight, Nat.add_zero, ← BitVec.shiftRight_add]
    cases (refBits k n b).getLsbD 0 <;> cases b.getLsbD k <;> simp <;> ac_rfl
theorem refBits8 (n : BitVec 32) (u : UInt8) : refBits 8 n (b32 u) = cst n u := by
  unfold cst
  rw [refBits_eq, b32_shift]
  simp

/-- What two states differ by, through bytes that differ. -/
theorem cst_xor (s t : BitVec 32) (u v : UInt8) : cst (s ^^^ t) (u ^^^ v) = cst s u ^^^ cst t v := by
  unfold cst
  have : b32 (u ^^^ v) = b32 u ^^^ b32 v := by
    apply BitVec.eq_of_toNat_eq
    rw [b32_nat, BitVec.toNat_xor, b32_nat, b32_nat]
    simp
  rw [this, ← shs_xor]
  congr 1
  ac_rfl
theorem crcS_xor (s t : BitVec 32) : ∀ (a b : List UInt8), a.length = b.length → crcS (s ^^^ t) (List.zipWith (· ^^^ ·) a b) = crcS s a ^^^ crcS t b := by
  intro a
  induction a generalizing s t with
  | nil => intro b h; cases b with
    | nil => rfl
    | cons => simp at h
  | cons u r ih => intro b h; cases b with
    | nil => simp at h
    | cons v q =>
      simp only [List.zipWith_cons_cons, crcS_cons, cst_xor]
      exact ih _ _ q (by simpa using h)
theorem crcS_zeros (n : Nat) : crcS 0 (List.replicate n 0) = 0 := by
  induction n with
  | zero => rfl
  | succ n ih =>
    rw [List.replicate_succ, crcS_cons]
    have : cst 0 0 = 0 := by decide
    rw [this, ih]

/-- Bytes, the lowest first, as 32 bits. -/
def w32 : List UInt8 → BitVec 32
  | [] => 0
  | u :: r => b32 u ^^^ (w32 r <<< 8)
theorem shs8_up (x : BitVec 32) (h : x <<< 8 >>> 8 = x) : shs 8 (x <<< 8) = x := by
  rw [shs_low 8, h]
  intro i hi
  simp [BitVec.getLsbD_shiftLeft, hi]
theorem w32_small : ∀ (l : List UInt8) (i : Nat), 8 * l.length ≤ i → (w32 l).getLsbD i = false
  | [], i, _ => by simp [w32]
  | u :: r, i, h => by
    simp only [List.length_cons] at h
    simp only [w32, BitVec.getLsbD_xor, BitVec.getLsbD_shiftLeft]
    rw [b32_high u i (by omega), w32_small r (i - 8) (by omega)]
    simp
/-- At most four bytes behind a state of nothing. -/
theorem crcS_word : ∀ (l : List UInt8) (s : BitVec 32), l.length ≤ 4 → crcS s l = shs (8 * l.length) (s ^^^ w32 l)
  | [], s, _ => by simp [crcS, w32, shs]
  | u :: r, s, h => by
    simp only [List.length_cons] at h ⊢
    rw [crcS_cons, crcS_word r _ (by omega), Nat.mul_add, shs_add]
    congr 1
    unfold cst
    have e0 : w32 (u :: r) = b32 u ^^^ (w32 r <<< 8) := rfl
    rw [e0]
    have e : s ^^^ (b32 u ^^^ w32 r <<< 8) = (s ^^^ b32 u) ^^^ (w32 r <<< 8) := by ac_rfl
    rw [Nat.mul_one, e, shs_xor 8 (s ^^^ b32 u), shs8_up]
    apply BitVec.eq_of_getLsbD_eq
    intro i hi
    simp only [BitVec.getLsbD_ushiftRight, BitVec.getLsbD_shiftLeft]
    by_cases h24 : i < 24
    · have : 8 + i < 32 := by omega
      simp [this]
    · rw [w32_small r i (by omega)]
      simp; omega
theorem ofInt_bv (a : BitVec 32) : BitVec.ofInt 32 (a.toNat : Int) = a := by
  rw [BitVec.ofInt_natCast]; simp
theorem bv_xor (a b : BitVec 32) : bits .xor .u32 (a.toNat : Int) (b.toNat : Int) = ((a ^^^ b).toNat : Int) := by
  show IntKind.u32.wrap ((BitVec.ofInt 32 (a.toNat : Int) ^^^ BitVec.ofInt 32 (b.toNat : Int)).toNat : Int) = _
  rw [ofInt_bv, ofInt_bv, IntKind.wrap_u32']
  have := (a ^^^ b).isLt
  omega
theorem bv_and (a b : BitVec 32) : bits .and .u32 (a.toNat : Int) (b.toNat : Int) = ((a &&& b).toNat : Int) := by
  show IntKind.u32.wrap ((BitVec.ofInt 32 (a.toNat : Int) &&& BitVec.ofInt 32 (b.toNat : Int)).toNat : Int) = _
  rw [ofInt_bv, ofInt_bv, IntKind.wrap_u32']
  have := (a &&& b).isLt
  omega
theorem bv_shr1 (a : BitVec 32) : (a.toNat : Int) / (2 : Int) = ((a >>> 1).toNat : Int) := by
  rw [BitVec.toNat_ushiftRight, Nat.shiftRight_eq_div_pow]; rfl
theorem bv_shr4 (a : BitVec 32) : (a.toNat : Int) / (16 : Int) = ((a >>> 4).toNat : Int) := by
  rw [BitVec.toNat_ushiftRight, Nat.shiftRight_eq_div_pow]; rfl
theorem and_one (a : BitVec 32) : bits .and .u32 (a.toNat : Int) 1 = if a.getLsbD 0 = true then 1 else 0 := by
  have h := bv_and a 1#32
  have e : (((1#32 : BitVec 32).toNat : Nat) : Int) = 1 := rfl
  rw [e] at h
  rw [h, BitVec.toNat_and]
  have e2 : (1#32 : BitVec 32).toNat = 1 := rfl
  rw [e2, Nat.and_one_is_mod]
  have e3 : a.getLsbD 0 = decide (a.toNat % 2 = 1) := by
    simp [BitVec.getLsbD, Nat.testBit_zero]
  rw [e3]
  by_cases h2 : a.toNat % 2 = 1
  · simp [h2]
  · have : a.toNat % 2 = 0 := by omega
    simp [this]
theorem and_one_ne (a : BitVec 32) : (bits .and .u32 (a.toNat : Int) 1 != 0) = a.getLsbD 0 := by
  rw [and_one]; cases a.getLsbD 0 <;> simp
theorem xor_poly (a : BitVec 32) : bits .xor .u32 (a.toNat : Int) 3988292384 = ((a ^^^ poly).toNat : Int) := bv_xor a poly
theorem sh_one (a : BitVec 32) (h : a.getLsbD 0 = true) : bits .xor .u32 ((a.toNat : Int) / (2 : Int)) 3988292384 = ((sh a).toNat : Int) := by
  rw [bv_shr1, xor_poly]; unfold sh; rw [if_pos h]
theorem sh_nil (a : BitVec 32) (h : a.getLsbD 0 = false) : (a.toNat : Int) / (2 : Int) = ((sh a).toNat : Int) := by
  rw [bv_shr1]; unfold sh; rw [if_neg (by rw [h]; decide)]
theorem and_bit (u : UInt8) (k : Nat) : bits .and .u32 ((u.toNat : Int) / 2 ^ k) 1 = if (b32 u).getLsbD k = true then 1 else 0 := by
  have e : ((u.toNat : Int) / 2 ^ k) = (((b32 u) >>> k).toNat : Int) := by
    rw [BitVec.toNat_ushiftRight, Nat.shiftRight_eq_div_pow, b32_nat]
    simp
  rw [e, and_one, BitVec.getLsbD_ushiftRight]
  simp
theorem not32 (s : BitVec 32) : (4294967295 : Int) - (s.toNat : Int) = ((crcOut s).toNat : Int) := by
  unfold crcOut
  rw [BitVec.toNat_not]
  have := s.isLt
  omega
theorem out32 (s : BitVec 32) : bits .xor .u32 IntKind.u32.max (s.toNat : Int) = ((crcOut s).toNat : Int) := by
  have e : IntKind.u32.max = (((BitVec.allOnes 32).toNat : Nat) : Int) := by decide
  rw [e, bv_xor, BitVec.allOnes_xor]; rfl
theorem refBit_at (k : Nat) (n b : BitVec 32) : refBits (k + 1) n b = if (b.getLsbD k ^^ (refBits k n b).getLsbD 0) = true then (refBits k n b >>> 1) ^^^ poly else refBits k n b >>> 1 := rfl
end Go.Proofs.YtoadamkmabkldaaGreatDoor
