/- Contracts of the reference's Number, Same, Bytes, and of word.Put, Fits. -/
import Derived.Test.YtelaliokmmaopaaDoorWord1
import Derived.Test.YtelaliokmmaopaaDoorSame
namespace Go.Proofs.YtelaliokmmaopaaDoor
open Go.RowKit

theorem number_any (A : Option Addr) (n c : Nat) (l : List UInt8) (w : World) (hr : Rd w w.heap.size 1 A n (bys l)) (hn : n ≤ 7) :
    Calls Tryd.prog 51 #[.slice A n c] w fun e w' => e = .returned (.int .i64 (leN l)) ∧ w = w' := by
  have hlen : l.length = n := hr.blen
  go_enter Tryd.func51, Tryd.ntmps51
  go_wp2_with fail
  go_loop [3, 4] (fun a b => ∃ j : Nat, j ≤ n ∧ b = .int .i64 ((j : Int) - 1) ∧ a = .int .i64 (leN (l.drop j))) (fun _ b => (intOf b + 1).toNat)
  case atStart => exact ⟨n, Nat.le_refl _, rfl, by rw [List.drop_of_length_le (by omega)]; rfl⟩
  case round =>
    obtain ⟨j, hj, rfl, rfl⟩ := hrel
    rcases Nat.eq_zero_or_pos j with h0 | h0
    · subst h0
      go_wp2
      go_ret
      exact ⟨rfl, rfl⟩
    · obtain ⟨i, rfl⟩ : ∃ i, j = i + 1 := ⟨j - 1, by omega⟩
      obtain ⟨b, o, u, rfl, hb, hx, hu, hc⟩ := hr.byte (k := i) (by omega)
      have hd := leN_drop l i u hx
      have hn0 := leN_nn (l.drop (i + 1))
      have hn1 : leN (l.drop (i + 1)) < 281474976710656 := by
        have h7 := leN_lt7 (l.drop i) (by rw [List.length_drop]; omega)
        omega
      have Hd := Lib.hid hd
      clear hd
      generalize leN (l.drop (i + 1)) = y at *
      go_wp2
      go_round
      case rel => exact ⟨i, by omega, by go_num, by rw [Hd.out]; go_num⟩
      case measure => simp [intOf]


/-- Put. -/
theorem put_any (A A2 : Option Addr) (n c m c2 : Nat) (x : Int) (l : List UInt8) (ns : List Int) (w : World) (hr : Rd w w.heap.size 1 A n (bys l)) (hr2 : Rd w w.heap.size 1 A2 m (its ns))
    (hn : n ≤ 1099511627776) (hm : m ≤ 1099511627776) :
    Calls Tryd.prog 52 #[.slice A n c, .int .i64 x, .slice A2 m c2] w fun e w' => ∃ v, e = .returned v ∧
      w'.ownsRow w.heap.size 5 1 v (n + m * (wid x).toNat) (bys (putB l (wid x).toNat ns)) ∧ Below w.heap.size w w' := by
  have hb := wid_bd x
  obtain ⟨d, hd⟩ : ∃ d : Nat, wid x = d := ⟨(wid x).toNat, by omega⟩
  have e0 : (wid x).toNat = d := by omega
  have Hd := Lib.hid hd
  have hd1 : 1 ≤ d := by omega
  have hd7 : d ≤ 7 := by omega
  have hlm : ns.length = m := hr2.ilen
  have Hlm := Lib.hid hlm
  rw [e0]
  clear hd hb e0 hlm
  go_enter Tryd.func52, Tryd.ntmps52
  go_wp2_with (
    at_builtin
    refine ap_bys (own_nilB w w.heap.size _) hr (Below.refl _ _) (Nat.le_refl _) (by omega) rfl rfl rfl ?_
    intro v1 w1 hown1 hb1 _ _)
  simp only [Nat.zero_add, List.nil_append] at hown1
  go_loopw [7, 15] (fun v i wr => ∃ j : Nat, j ≤ m ∧ i = .int .i64 j ∧ wr.ownsRow w.heap.size 5 1 v (n + j * d) (bys (putB l d (ns.take j))) ∧ Below w.heap.size w wr)
    (fun _ i _ => m - (intOf i).toNat)
  case atStart => exact ⟨0, Nat.zero_le _, rfl, by simpa [putB] using hown1, hb1⟩
  case round =>
    obtain ⟨j, hj, rfl, hown, hbw⟩ := hrel
    by_cases hlt : j < m
    · obtain ⟨b, o, z, rfl, hbb, hx, hc⟩ := hr2.num (k := j) hlt
      have hc' := (hbw.cell (p := ⟨b, o + j, none⟩) hbb).trans hc
      have HX := Lib.hid hx
      clear hx hc
      go_wp2_with fail
      refine (wide_any x _).mono ?_
      rintro e w' ⟨rfl, rfl⟩
      rw [Hd.out]
      go_wp2_with fail
      have hsz := hbw.size
      go_loopw [7, 21] (fun v i wr2 => ∃ k : Nat, k ≤ d ∧ i = .int .i64 k ∧ wr2.ownsRow w.heap.size 5 1 v (n + j * d + k) (bys (putB l d (ns.take j) ++ leB z k)) ∧ Below w.heap.size w wr2)
        (fun _ i _ => d - (intOf i).toNat)
      case atStart => exact ⟨0, Nat.zero_le _, rfl, by simpa [leB] using hown, hbw⟩
      case round =>
        clear hown hbw hsz hc'
        obtain ⟨k, hk, rfl, hown, hbw⟩ := hrel
        have hsz := hbw.size
        have hjd : j * d ≤ m * 7 := Nat.mul_le_mul (by omega) hd7
        by_cases hkt : k < d
        · have hby : (z / 2 ^ (8 * k)) % 256 = ((byteOf z k).toNat : Int) := by rw [byteOf_nat, pow256]
          have Hby := Lib.hid hby
          clear hby
          go_wp2_with (
            at_builtin
            refine ap_bys (hown.alloc _) (Rd.oneB wr _ Hby.out) (hbw.alloc hsz _) (by simp; omega) (by omega) rfl rfl rfl ?_
            intro v2 w2 hown2 hb2 _ _)
          go_roundw
          case rel => exact ⟨k + 1, by omega, by go_num, by rw [leB_succ, ← List.append_assoc, ← Nat.add_assoc]; exact hown2, hb2⟩
          case measure => simp [intOf]; omega
        · have : k = d := by omega
          subst this
          go_wp2
          go_roundw
          case rel => exact ⟨j + 1, by omega, by go_num, by rw [take_step HX.out, putB_snoc, Nat.add_mul, Nat.one_mul, ← Nat.add_assoc]; exact hown, hbw⟩
          case measure => simp [intOf]; omega
    · have : j = m := by omega
      subst this
      go_wp2
      go_ret
      exact ⟨_, rfl, by rw [List.take_of_length_le (by have := Hlm.out; omega)] at hown; exact hown, hbw⟩

/-- The reference's Bytes. -/
theorem bytes_any (z x : Int) (w : World) :
    Calls Tryd.prog 38 #[.int .i64 z, .int .i64 x] w fun e w' => ∃ v, e = .returned v ∧
      w'.ownsRow w.heap.size 5 1 v (wid x).toNat (bys (leB z (wid x).toNat)) ∧ Below w.heap.size w w' := by
  have hb := wid_bd x
  obtain ⟨d, hd⟩ : ∃ d : Nat, wid x = d := ⟨(wid x).toNat, by omega⟩
  have e0 : (wid x).toNat = d := by omega
  have Hd := Lib.hid hd
  have hd1 : 1 ≤ d := by omega
  have hd7 : d ≤ 7 := by omega
  rw [e0]
  clear hd hb e0
  go_enter Tryd.func38, Tryd.ntmps38
  go_wp2_with fail
  have hu0 : IntKind.u64.wrap z = ushr z 0 := by rw [ushr_zero]; simp [IntKind.wrap, IntKind.bits, IntKind.signed]
  rw [hu0]
  clear hu0
  go_loopw [5, 6, 7] (fun v u i wr => ∃ k : Nat, k ≤ d ∧ i = .int .i64 k ∧ u = .int .u64 (ushr z k) ∧ wr.ownsRow w.heap.size 5 1 v k (bys (leB z k)) ∧ Below w.heap.size w wr)
    (fun _ _ i _ => d - (intOf i).toNat)
  case atStart => exact ⟨0, Nat.zero_le _, rfl, rfl, own_nilB _ _ _, Below.refl _ _⟩
  case round =>
    obtain ⟨k, hk, rfl, rfl, hown, hbw⟩ := hrel
    have hsz := hbw.size
    go_wp2_with fail
    refine (refwide_any x _).mono ?_
    rintro e w' ⟨rfl, rfl⟩
    rw [Hd.out]
    by_cases hkt : k < d
    · have hub := ushr_bd z k
      have hby := ushr_byte z k (by omega)
      have hus := ushr_succ z k
      have Hby := Lib.hid hby
      have Hus := Lib.hid hus
      clear hby hus
      go_wp2_with (
        at_builtin
        go_loud (refine ap_bys (hown.alloc _) (Rd.oneB wr _ Hby.out) (hbw.alloc hsz _) (by simp; omega) (by omega) rfl rfl rfl ?_)
        intro v2 w2 hown2 hb2 _ _)
      go_roundw
      case rel => exact ⟨k + 1, by omega, by go_num, by rw [Hus.out], by rw [leB_succ]; exact hown2, hb2⟩
      case measure => simp [intOf]; omega
    · have : k = d := by omega
      subst this
      go_wp2
      go_ret
      exact ⟨_, rfl, hown, hbw⟩
end Go.Proofs.YtelaliokmmaopaaDoor
