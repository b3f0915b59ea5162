/- The walk of WordPuts. -/
import Derived.Test.YtnjjnkehhpkmaaaWordR
namespace Go.Proofs.Ytnjjnkehhpkmaaa
open Go.RowKit

theorem own_lit0 (w : World) : (w.alloc (.cells #[] 5)).ownsRow w.heap.size 5 1 (.slice (some ⟨w.heap.size, 0, none⟩) 0 0) 0 (bys []) :=
  World.ownsRow_made w #[] 0 (Nat.le_refl _) (Nat.zero_le _) rfl
theorem putB_at2 (b : List UInt8) (w : Nat) (l : List Int) (j : Nat) (z : Int) (h : l[j]? = some z) : ((putB b w l).drop (b.length + j * w)).take w = leB z w := by
  have e : putB b w l = b ++ putB [] w l := by simp [putB]
  rw [e, ← List.drop_drop, List.drop_left]
  exact putB_at w l j z h
theorem fitsB_one (d : Nat) (z : Int) : fitsB d [z] = (decide (0 ≤ z) && decide (z < 256 ^ d)) := by simp [fitsB]

set_option maxHeartbeats 2000000 in
theorem wordPuts_walk (A : Option Addr) (n c : Nat) (l : List UInt8) (x : Int) (A2 : Option Addr) (m c2 : Nat) (ns : List Int) (w : World) (hr : Rd w w.heap.size 1 A n (bys l)) (hnc : n ≤ c) (_hcm : c ≤ maxLen)
    (_hx : -9223372036854775808 ≤ x ∧ x ≤ 9223372036854775807) (hr2 : Rd w w.heap.size 1 A2 m (its ns)) (hmc : m ≤ c2) (_hcm2 : c2 ≤ maxLen) (hw : ∀ z ∈ ns, -9223372036854775808 ≤ z ∧ z ≤ 9223372036854775807) :
    Calls Try.prog 7 #[.slice A n c, .int .i64 x, .slice A2 m c2] w fun e w' => e = .returned (.bool true) ∧ Below w.heap.size w w' := by
  have hcm := _hcm
  have hcm2 := _hcm2
  unfold maxLen at hcm hcm2
  by_cases h300 : 300 < n
  · go_enter Try.func7, Try.ntmps7
    go_wp2_with fail
    refine (wakes_any _).mono ?_
    rintro e w1 ⟨rfl, hb1⟩
    go_wp2
    go_ret
    exact ⟨rfl, hb1⟩
  by_cases h100 : 100 < m
  · go_enter Try.func7, Try.ntmps7
    go_wp2_with fail
    refine (wakes_any _).mono ?_
    rintro e w1 ⟨rfl, hb1⟩
    go_wp2
    go_ret
    exact ⟨rfl, hb1⟩
  obtain ⟨d, hd⟩ : ∃ d : Nat, (wid x).toNat = d := ⟨_, rfl⟩
  have hwb := wid_bd x
  have hwx : wid x = d := by omega
  have hd1 : 1 ≤ d := by omega
  have hd7 : d ≤ 7 := by omega
  have hll : l.length = n := hr.blen
  have hnl : ns.length = m := hr2.ilen
  have hmd : m * d ≤ 100 * 7 := Nat.mul_le_mul (by omega) hd7
  have Hd := Lib.hid hd
  have Hwx := Lib.hid hwx
  have Hll := Lib.hid hll
  have Hnl := Lib.hid hnl
  have Hw := Lib.hid hw
  clear hd hwb hwx hll hnl hw
  go_enter Try.func7, Try.ntmps7
  go_wp2_with fail
  refine (wakes_any _).mono ?_
  rintro e w1 ⟨rfl, hb1⟩
  have hs1 := hb1.size
  go_wp2_with (
    at_builtin
    refine ap_bys (own_lit0 w1) ((hr.below hb1 (Nat.le_refl _)).alloc hs1 _) ((Below.refl w1.heap.size w1).alloc (Nat.le_refl _) _) (by simp) (by omega) rfl rfl rfl ?_
    intro v2 w2 hown2 hb2 _ _)
  rw [List.nil_append, Nat.zero_add] at hown2
  obtain ⟨A3, c3, rfl, hc3, _⟩ := own_form hown2
  have hb2' : Below w.heap.size w w2 := hb1.trans (hb2.mono hs1)
  have hrO := Rd.of_own hown2
  clear hown2 hb2
  refine (put_any A3 A2 n c3 m c2 x l ns w2 hrO ((hr2.below hb2' (Nat.le_refl _)).more hb2'.size) (by omega) (by omega)).mono ?_
  rintro e w3 ⟨v, rfl, hown3, hb3⟩
  rw [Hd.out] at hown3
  obtain ⟨A4, c4, rfl, hc4, _⟩ := own_form hown3
  have hb3' : Below w.heap.size w w3 := hb2'.trans (hb3.mono hb2'.size)
  have hrP := Rd.of_own hown3
  have hrO3 := (hrO.below hb3 (Nat.le_refl _)).more hb3.size
  clear hown3 hrO
  go_wp2_with (
    at_builtin
    refine ap_bys (own_lit0 w3) ((hr.below hb3' (Nat.le_refl _)).alloc hb3'.size _) ((Below.refl w3.heap.size w3).alloc (Nat.le_refl _) _) (by simp) (by omega) rfl rfl rfl ?_
    intro v5 w5 hown5 hb5 _ _)
  rw [List.nil_append, Nat.zero_add] at hown5
  go_loopw [9, 10, 40] (fun v f i wr => ∃ (j : Nat) (g : Bool), j ≤ m ∧ i = .int .i64 j ∧ f = .bool g ∧ Hid (g = fitsB d (ns.take j)) ∧ wr.ownsRow w3.heap.size 5 1 v (n + j * d) (bys (putB l d (ns.take j))) ∧ Below w3.heap.size w3 wr)
    (fun _ _ i _ => m - (intOf i).toNat)
  case atStart => exact ⟨0, true, Nat.zero_le _, rfl, rfl, Lib.hid rfl, by simpa [putB] using hown5, hb5⟩
  case round =>
    obtain ⟨j, g, hj, rfl, rfl, hg, hown, hbw⟩ := hrel
    by_cases hlt : j < m
    · obtain ⟨b, o, z, rfl, hbb, hx, hc⟩ := hr2.num (k := j) hlt
      have hz := Hw.out z (List.mem_of_getElem? hx)
      have hbw' : Below w.heap.size w wr := hb3'.trans (hbw.mono hb3'.size)
      have hc' := (hbw'.cell (p := ⟨b, o + j, none⟩) hbb).trans hc
      have HX := Lib.hid hx
      have hjd : j * d ≤ m * d := Nat.mul_le_mul_right _ hj
      clear hx hc
      go_wp2_with fail
      refine (bytes_any z x wr).mono ?_
      rintro e w6 ⟨v6, rfl, hown6, hb6⟩
      rw [Hd.out] at hown6
      obtain ⟨A6, c6, rfl, hc6, _⟩ := own_form hown6
      have hr6 := Rd.of_own hown6
      have hlow := hown.lt
      have hownW := own_below hown hb6 (Nat.le_refl _)
      have hbw6 : Below w3.heap.size w3 w6 := hbw.trans (hb6.mono hbw.size)
      have hfb := fits_back d z
      have Hfb := Lib.hid hfb
      clear hown hfb
      go_wp2_with (
        at_builtin
        refine ap_bys hownW hr6 hbw6 hbw6.size (by omega) rfl rfl rfl ?_
        intro v7 w7 hown7 hb7 hg7 hv7
        have hr7 : Rd w7 w7.heap.size 1 A6 d (bys (leB z d)) := Rd.of_own (own_apart hown6 hg7 (fun k hk => (hlow k hk).2))
        clear hown6 hg7 hv7 hr6 hlow hbw hbw6 hownW)
      · refine (number_any A6 d c6 _ w7 hr7 hd7).mono ?_
        rintro e w8 ⟨rfl, rfl⟩
        have hgt : g = true := by assumption
        subst hgt
        go_wp2_with fail
        go_roundw
        case rel => exact ⟨j + 1, _, by omega, by go_num, rfl, Lib.hid (by rw [take_step HX.out, fitsB_snoc, ← hg.out, ← fitsB_one, Hfb.out]; rfl), by rw [take_step HX.out, putB_snoc, Nat.add_mul, Nat.one_mul, ← Nat.add_assoc]; exact hown7, hb7⟩
        case measure => simp [intOf]; omega
      · have hgt0 : ¬ g = true := by assumption
        have hgt : g = false := by simpa using hgt0
        subst hgt
        go_roundw
        case rel => exact ⟨j + 1, false, by omega, by go_num, rfl, Lib.hid (by rw [take_step HX.out, fitsB_snoc, ← hg.out]; rfl), by rw [take_step HX.out, putB_snoc, Nat.add_mul, Nat.one_mul, ← Nat.add_assoc]; exact hown7, hb7⟩
        case measure => simp [intOf]; omega
    · have : j = m := by omega
      subst this
      rw [List.take_of_length_le (by have := Hnl.out; omega)] at hown hg
      obtain ⟨A5, c5, rfl, hc5, _⟩ := own_form hown
      have hrW := Rd.of_own hown
      have hrP2 := (hrP.below hbw (Nat.le_refl _)).more hbw.size
      have hrO2 := (hrO3.below hbw (Nat.le_refl _)).more hbw.size
      have hbw' : Below w.heap.size w wr := hb3'.trans (hbw.mono hb3'.size)
      have hrl := (hr.below hbw' (Nat.le_refl _)).more hbw'.size
      have hrn := (hr2.below hbw' (Nat.le_refl _)).more hbw'.size
      have hge := hg.out
      subst hge
      clear hown hg
      obtain ⟨wo, rfl⟩ : ∃ wo : World, wo = wr := ⟨_, rfl⟩
      go_wp2_with fail
      refine (same_any A4 A5 (n + j * d) (n + j * d) c4 c5 _ _ wo hrP2 hrW (by omega) (by omega)).mono ?_
      rintro e w6 ⟨rfl, q1, rfl⟩
      rw [decide_eq_true rfl]
      go_wp2_with fail
      refine (same_any A3 A n n c3 c _ _ _ (hrO2.drewN q1) (hrl.drewN q1) (by omega) (by omega)).mono ?_
      rintro e w6 ⟨rfl, q2, rfl⟩
      rw [decide_eq_true rfl]
      go_wp2_with fail
      refine (fits_any x A2 j c2 ns _ (hrn.drewN (q1 + q2)) (by omega) Hw.out).mono ?_
      rintro e w6 ⟨rfl, rfl⟩
      rw [Hd.out]
      go_wp2_with fail
      go_loopw [77] (fun i wr2 => ∃ q : Nat, q ≤ j ∧ i = .int .i64 q ∧ Below w3.heap.size w3 wr2) (fun i _ => j - (intOf i).toNat)
      case atStart => exact ⟨0, Nat.zero_le _, rfl, below_drewN hbw _⟩
      case round =>
        clear hbw hbw' hrW hrP2 hrO2 hrl hrn
        obtain ⟨q, hq, rfl, hbw⟩ := hrel
        have hbw' : Below w.heap.size w wr := hb3'.trans (hbw.mono hb3'.size)
        by_cases hlt2 : q < j
        · obtain ⟨b, o, z, rfl, hbb, hx, hc⟩ := hr2.num (k := q) hlt2
          have hc' := (hbw'.cell (p := ⟨b, o + q, none⟩) hbb).trans hc
          have hqd : q * d + d ≤ j * d := by have := Nat.mul_le_mul_right d (show q + 1 ≤ j by omega); rw [Nat.add_mul] at this; omega
          have hget := get_ok A4 (n + j * d) c4 (n + q * d) x (putB l d ns) wr ((hrP.below hbw (Nat.le_refl _)).more hbw.size) hc4 (by rw [Hwx.out]; omega) (by omega)
          have hat := putB_at2 l d ns q z hx
          rw [Hll.out] at hat
          rw [Hd.out, hat, Int.natCast_add, Int.natCast_mul] at hget
          have Hget := Lib.hid hget
          clear hget hx hc hat
          go_wp2_with fail
          refine (refwide_any x wr).mono ?_
          rintro e w6 ⟨rfl, rfl⟩
          rw [Hwx.out]
          go_wp2_with fail
          refine Hget.out.mono ?_
          rintro e w7 ⟨rfl, hb7⟩
          have hb7' : Below w3.heap.size w3 w7 := hbw.trans (hb7.mono hbw.size)
          clear Hget
          go_wp2_with fail
          refine (bytes_any z x w7).mono ?_
          rintro e w8 ⟨v8, rfl, hown8, hb8⟩
          rw [Hd.out] at hown8
          obtain ⟨A8, c8, rfl, hc8, _⟩ := own_form hown8
          have hb8' : Below w3.heap.size w3 w8 := hb7'.trans (hb8.mono hb7'.size)
          go_wp2_with fail
          refine (number_any A8 d c8 _ w8 (Rd.of_own hown8) hd7).mono ?_
          rintro e w9 ⟨rfl, rfl⟩
          clear hown8
          generalize leN (leB z d) = y at *
          go_wp2_with fail
          go_roundw
          case rel => exact ⟨q + 1, by omega, by go_num, hb8'⟩
          case measure => simp [intOf]; omega
        · have : q = j := by omega
          subst this
          go_wp2
          go_ret
          exact ⟨rfl, hbw'⟩
end Go.Proofs.Ytnjjnkehhpkmaaa
