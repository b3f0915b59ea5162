/- Contracts of crc.Sum, Len, Of, and of the reference's Of. -/
import Derived.Test.YthflnndjjhifeaaCrc1
namespace Go.Proofs.Ythflnndjjhifeaa
open Go.RowKit

theorem sum_any (g : Nat) (s : BitVec 32) (k : Nat) (w : World) (hb : Bk w g 68 (crcCells s k)) :
    Calls Try.prog 19 #[.pointer (some ⟨g, 0, none⟩)] w fun e w' => e = .returned (.int .u32 ((crcOut s).toNat : Int)) ∧ w = w' := by
  have hc := hb.cell 16
  rw [crcCells_n] at hc
  go_enter Try.func19, Try.ntmps19
  go_wp2
  go_ret
  exact ⟨ret_int (out32 s), rfl⟩

theorem len_any (g : Nat) (s : BitVec 32) (k : Nat) (w : World) (hb : Bk w g 68 (crcCells s k)) :
    Calls Try.prog 21 #[.pointer (some ⟨g, 0, none⟩)] w fun e w' => e = .returned (.int .i64 k) ∧ w = w' := by
  have hc := hb.cell 17
  rw [crcCells_l] at hc
  go_enter Try.func21, Try.ntmps21
  go_wp2
  go_ret
  exact ⟨rfl, rfl⟩

theorem refcrc_any (A : Option Addr) (n c B : Nat) (l : List UInt8) (w : World) (hr : Rd w B 1 A n (bys l)) (hn : n ≤ 1099511627776) :
    Calls Try.prog 20 #[.slice A n c] w fun e w' => e = .returned (.int .u32 ((crcOf l).toNat : Int)) ∧ w = w' := by
  have hlen : l.length = n := hr.blen
  have Hlen := Lib.hid hlen
  clear hlen
  go_enter Try.func20, Try.ntmps20
  go_wp2_with fail
  go_loop [3, 4, 5, 6] (fun s i _ _ => ∃ j : Nat, j ≤ n ∧ i = .int .i64 j ∧ s = .int .u32 ((crcS crcIni (l.take j)).toNat : Int)) (fun _ i _ _ => n - (intOf i).toNat)
  case atStart => exact ⟨0, Nat.zero_le _, rfl, rfl⟩
  case round =>
    obtain ⟨j, hj, rfl, rfl⟩ := hrel
    by_cases hlt : j < n
    · obtain ⟨b, o, u, rfl, hbb, hx, hu, hc⟩ := hr.byte (k := j) hlt
      have hS : crcS crcIni (l.take (j + 1)) = refBits 8 (crcS crcIni (l.take j)) (b32 u) := by
        rw [take_step hx, crcS_app, refBits8]; rfl
      have HS := Lib.hid hS
      clear hx hS
      generalize crcS crcIni (l.take j) = S at *
      go_wp2_with fail
      go_loop [3, 5, 6] (fun s i _ => ∃ k : Nat, k ≤ 8 ∧ i = .int .i64 k ∧ s = .int .u32 ((refBits k S (b32 u)).toNat : Int)) (fun _ i _ => 8 - (intOf i).toNat)
      case atStart => exact ⟨0, Nat.zero_le _, rfl, rfl⟩
      case round =>
        obtain ⟨k, hk, rfl, rfl⟩ := hrel
        by_cases hk8 : k < 8
        · have hst := refBit_at k S (b32 u)
          have h1 := and_bit u k
          have h2 := and_one (refBits k S (b32 u))
          have h3 := bv_shr1 (refBits k S (b32 u))
          have h4 := xor_poly (refBits k S (b32 u) >>> 1)
          have x00 : bits .xor .u32 0 0 = 0 := by decide
          have x01 : bits .xor .u32 0 1 = 1 := by decide
          have x10 : bits .xor .u32 1 0 = 1 := by decide
          have x11 : bits .xor .u32 1 1 = 0 := by decide
          generalize hR0 : refBits (k + 1) S (b32 u) = R' at hst
          have HR0 := Lib.hid hR0
          clear hR0
          generalize refBits k S (b32 u) = R at *
          generalize (R >>> 1 ^^^ poly) = Y at *
          generalize R >>> 1 = X at *
          have hR := R.isLt
          cases hp : (b32 u).getLsbD k <;> cases hq : R.getLsbD 0 <;> rw [hp, hq] at hst <;> rw [hp] at h1 <;> rw [hq] at h2 <;> simp only [Bool.false_eq_true, if_true, if_false, Bool.xor_false, Bool.xor_true, Bool.not_true, Bool.not_false, Bool.xor_self] at hst h1 h2 <;> clear hp hq <;> subst hst
          all_goals
            go_wp2_with fail
            go_round
            case rel => exact ⟨k + 1, by omega, by go_num, by rw [HR0.out]⟩
            case measure => simp [intOf]; omega
        · have : k = 8 := by omega
          subst this
          go_wp2_with fail
          go_round
          case rel => exact ⟨j + 1, by omega, by go_num, by rw [HS.out]⟩
          case measure => simp [intOf]; omega
    · have : j = n := by omega
      subst this
      rw [List.take_of_length_le (by have := Hlen.out; omega)]
      have hnot := not32 (crcS crcIni l)
      have hlt := (crcS crcIni l).isLt
      have hco : crcOut (crcS crcIni l) = crcOf l := rfl
      have Hco := Lib.hid hco
      clear hco
      generalize crcS crcIni l = S at *
      go_wp2_with fail
      go_ret
      exact ⟨ret_int (by rw [← Hco.out]), rfl⟩

/-- Of, of pieces. -/
theorem crcof_any (A : Option Addr) (n c : Nat) (ls : List (List UInt8)) (w : World) (hr : RdRows w w.heap.size A n ls) (hn : n ≤ 1099511627776) (hlen : ls.flatten.length ≤ 1099511627776) :
    Calls Try.prog 16 #[.slice A n c] w fun e w' => e = .returned (.int .u32 ((crcOf ls.flatten).toNat : Int)) ∧ Below w.heap.size w w' := by
  have Hlen := Lib.hid hlen
  clear hlen
  have hnl := hr.len
  have Hnl := Lib.hid hnl
  clear hnl
  go_enter Try.func16, Try.ntmps16
  go_wp2_with fail
  refine (new_any w).mono ?_
  rintro e w1 ⟨g, rfl, hg, hb1, hbw1⟩
  go_wp2_with fail
  go_loopw [5, 9] (fun _ i wr => ∃ j : Nat, j ≤ n ∧ i = .int .i64 j ∧ Bk wr g 68 (crcCells (crcS crcIni (ls.take j).flatten) (ls.take j).flatten.length) ∧ Below w.heap.size w wr) (fun _ i _ => n - (intOf i).toNat)
  case atStart => exact ⟨0, Nat.zero_le _, rfl, hb1, hbw1⟩
  case round =>
    obtain ⟨j, hj, rfl, hb, hbw⟩ := hrel
    by_cases hlt : j < n
    · obtain ⟨b, o, v, l, rfl, hbb, hx, hc, A2, n2, c2, rfl, hr2, hnc2⟩ := hr.at_ hlt
      have hc' := (hbw.cell (p := ⟨b, o + j, none⟩) hbb).trans hc
      have hl2 := hr2.blen
      have hst : (ls.take (j + 1)).flatten = (ls.take j).flatten ++ l := by rw [take_step hx]; simp
      have hle : (ls.take (j + 1)).flatten.length ≤ ls.flatten.length := by
        have e := congrArg List.length (congrArg List.flatten (List.take_append_drop (j + 1) ls))
        rw [List.flatten_append, List.length_append] at e
        omega
      have hle2 := hle
      rw [hst, List.length_append] at hle2
      have hb2 : (ls.take j).flatten.length ≤ 1099511627776 ∧ n2 ≤ 1099511627776 := by have := Hlen.out; omega
      have Hst := Lib.hid hst
      have Hl2 := Lib.hid hl2
      clear hc hx hst hle hle2 hl2
      go_wp2_with fail
      refine (add_any g A2 n2 c2 w.heap.size l _ _ wr hb (hr2.below hbw (Nat.le_refl _)) hg hb2.2 hb2.1).mono ?_
      rintro e w2 ⟨rfl, hb3, hgr⟩
      have hbw3 := gb_below hgr hbw hbw.size hg
      clear hb hbw hc' hb2
      go_wp2_with fail
      go_roundw
      case rel => exact ⟨j + 1, by omega, by go_num, by rw [Hst.out, crcS_app, List.length_append, Hl2.out]; exact hb3, hbw3⟩
      case measure => simp [intOf]; omega
    · have : j = n := by omega
      subst this
      rw [List.take_of_length_le (by have := Hnl.out; omega)] at hb
      go_wp2_with fail
      refine (sum_any g _ _ wr hb).mono ?_
      rintro e w2 ⟨rfl, rfl⟩
      go_wp2
      go_ret
      exact ⟨rfl, hbw⟩
end Go.Proofs.Ythflnndjjhifeaa
