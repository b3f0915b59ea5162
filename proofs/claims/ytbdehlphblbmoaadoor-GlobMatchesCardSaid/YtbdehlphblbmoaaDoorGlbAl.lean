/- GlobMatches. -/
import Derived.Test.YtbdehlphblbmoaaDoorGlbAk
namespace Go.Proofs.YtbdehlphblbmoaaDoor
open Go.RowKit
attribute [local go_sem ↓] Go.wp_at_zero Go.wp_at_succ

theorem DPt.more {W : World} {B B' : Nat} {p : PtP} {cs : List Value} (h : DPt W B p cs) (hB : B ≤ B') : DPt W B' p cs := by
  cases p with
  | lit r => exact h
  | one => exact h
  | stars d => exact h
  | cls n rs =>
    obtain ⟨A, c, A2, c2, h1, h2, h3, h4⟩ := h
    exact ⟨A, c, A2, c2, h1, h2.more hB, h3.more hB, h4⟩
theorem hZC {w8 w9 wa : World} (h : Below w8.heap.size w8 w9) (k : Below w9.heap.size w9 wa) : Below w8.heap.size w8 wa := h.trans (k.mono h.size)
theorem globMatches_laid (W : World) (h : laidMet Tryd.prog Rows.globMatchesRow.laid W) : UT W := ut_of h
set_option maxHeartbeats 4000000 in
set_option maxRecDepth 100000 in
theorem globMatches_walk (p : ByteArray) (A : Option Addr) (n c : Nat) (l : List ByteArray) (w : World) (_ : p.size ≤ maxLen) (hr : Rd w w.heap.size 1 A n (sts l)) (_ : n ≤ c) (_ : c ≤ maxLen) (hT : UT w) :
    Calls Tryd.prog 4 #[.string p, .slice A n c] w fun e w' => e = .returned (.bool true) ∧ Below w.heap.size w w' := by
  have H1 := Lib.hid (gwakes_any w hT)
  have HT := Lib.hid hT
  have Hr := Lib.hid hr
  clear hT hr
  by_cases hp : 300 < p.size
  · have hp' : (300 : Int) < (p.size : Int) := by omega
    go_enter Tryd.func4, Tryd.ntmps4
    go_wp2_with fail
    with_reducible refine H1.out.mono ?_
    rintro e w1 ⟨rfl, b1⟩
    have B1 := Lib.hid b1
    clear b1 H1
    go_wp2_with fail
    go_ret
    exact ⟨rfl, B1.out⟩
  have hp' : ¬ (300 : Int) < (p.size : Int) := by omega
  by_cases hn : 20 < n
  · have hn' : (20 : Int) < (n : Int) := by omega
    go_enter Tryd.func4, Tryd.ntmps4
    go_wp2_with fail
    with_reducible refine H1.out.mono ?_
    rintro e w1 ⟨rfl, b1⟩
    have B1 := Lib.hid b1
    clear b1 H1
    go_wp2_with fail
    go_ret
    exact ⟨rfl, B1.out⟩
  have hn' : ¬ (20 : Int) < (n : Int) := by omega
  by_cases hE : badE p = 0
  case neg =>
    have HN1 := Lib.hid (fun w hT => new_bad p w (by omega) hE hT)
    have HN2 := Lib.hid (fun w => dnew_bad p w (by omega) hE)
    have hEb : (badE p != 0) = true := by simpa using hE
    generalize badE p = E at *
    go_enter Tryd.func4, Tryd.ntmps4
    go_wp2_with fail
    with_reducible refine H1.out.mono ?_
    rintro e w1 ⟨rfl, b1⟩
    have B1 := Lib.hid b1
    have HN := Lib.hid (HN1.out w1 (HT.out.below b1))
    clear b1 H1 HN1
    go_wp2_with fail
    with_reducible refine HN.out.mono ?_
    rintro e w2 ⟨rfl, b2⟩
    have B2 := Lib.hid (B1.out.trans (b2.mono B1.out.size))
    clear b2 HN B1
    go_wp2_with fail
    with_reducible refine (HN2.out w2).mono ?_
    rintro e w3 ⟨rfl, b3⟩
    have B3 := Lib.hid (B2.out.trans (b3.mono B2.out.size))
    have hbx := Bk.new w3 32 #[.slice none 0 0, .int .i64 E]
    have c1 : (w3.alloc (.cells #[.slice none 0 0, .int .i64 E] 32)).cell? ⟨w3.heap.size, 1, none⟩ = some (.int .i64 E) := hbx.cell 1
    clear b3 B2 HN2
    go_wp2_with fail
    go_ret
    exact ⟨rfl, B3.out.alloc B3.out.size _⟩
  obtain ⟨g1, g2, ps, hps⟩ := good_of hE
  have HK := Lib.hid (ptK hps g1)
  have HN1 := Lib.hid (fun w hT => new_yes p ps w g1 g2 hps hT)
  have HN2 := Lib.hid (fun w => dnew_good p ps w hE hps)
  have hoH := Lib.hid HK.out.head
  clear hE g1 g2 hps
  go_enter Tryd.func4, Tryd.ntmps4
  go_wp2_with fail
  with_reducible refine H1.out.mono ?_
  rintro e w1 ⟨rfl, b1⟩
  have B1 := Lib.hid b1
  have HN := Lib.hid (HN1.out w1 (HT.out.below b1))
  clear b1 H1 HN1
  go_wp2_with fail
  with_reducible refine HN.out.mono ?_
  rintro e w2 ⟨g, rfl, m2, _, b2⟩
  have B2 := Lib.hid (B1.out.trans (b2.mono B1.out.size))
  have M2 := Lib.hid m2
  clear b2 HN B1 m2
  go_wp2_with fail
  with_reducible refine (HN2.out w2).mono ?_
  rintro e w3 ⟨A2, c2, rfl, hd, hl, hlc, b3⟩
  have B3 := Lib.hid (B2.out.trans (b3.mono B2.out.size))
  have M3 := Lib.hid (M2.out.bl (Nat.le_refl _) b3)
  have D3 := Lib.hid hd
  have hz3 := b3.size
  have hbx := Bk.new w3 32 #[.slice A2 ps.length c2, .int .i64 0]
  have HBx := Lib.hid hbx
  have c1 : (w3.alloc (.cells #[.slice A2 ps.length c2, .int .i64 0] 32)).cell? ⟨w3.heap.size, 1, none⟩ = some (.int .i64 0) := hbx.cell 1
  have hba : Below w3.heap.size w3 (w3.alloc (.cells #[.slice A2 ps.length c2, .int .i64 0] 32)) := (Below.refl _ _).alloc (Nat.le_refl _) _
  have HF := Lib.hid (And.intro (M3.out.bl hz3 hba) (And.intro (D3.out.keep (fun q hq => hba.cell hq)) (And.intro (B3.out.alloc B3.out.size (.cells #[.slice A2 ps.length c2, .int .i64 0] 32)) hbx)))
  have hz4 : w3.heap.size < (w3.alloc (.cells #[.slice A2 ps.length c2, .int .i64 0] 32)).heap.size := by simp
  clear b3 B2 HN2 hd hbx M2 HBx M3 D3 B3 hba
  go_wp2_with fail
  generalize w3.alloc (.cells #[.slice A2 ps.length c2, .int .i64 0] 32) = w4 at *
  clear c1
  go_loopw [48] (fun i wr => ∃ k : Nat, i = .int .i64 (k : Int) ∧ k ≤ n ∧ Hid (Below w4.heap.size w4 wr)) (fun i _ => n - (intOf i).toNat)
  case atStart => exact ⟨0, rfl, Nat.zero_le _, Lib.hid (Below.refl _ _)⟩
  case round =>
    obtain ⟨k, rfl, hk, HI⟩ := hrel
    by_cases hlt : k < n
    · have HW := Lib.hid (HF.out.2.2.1.trans (HI.out.mono HF.out.2.2.1.size))
      obtain ⟨b, o, u, rfl, hb, hu, hc⟩ := (Hr.out.below HW.out (Nat.le_refl _)).at_ hlt
      simp only [sts, List.getElem?_map, Option.map_eq_some_iff] at hu
      obtain ⟨s, hs, rfl⟩ := hu
      have q1 : IntKind.i64.wrap ((k : Int) + 1) = (k : Int) + 1 := IntWalk.i64_in _ (by omega)
      clear hs
      by_cases hz : 300 < s.size
      · have hz' : (300 : Int) < (s.size : Int) := by omega
        go_wp2_with fail
        go_ret
        exact ⟨rfl, HW.out⟩
      have hz' : ¬ (300 : Int) < (s.size : Int) := by omega
      have HMm := Lib.hid (fun W (h : Below w4.heap.size w4 W) => match_any g _ ps s W (HF.out.1.bl (by omega) h) (by have := h.size; omega) (by omega))
      have HRn := Lib.hid (fun W => runes_any s W (by omega))
      have HDm := Lib.hid (fun W A5 c5 B (h : Below w4.heap.size w4 W) (hR : Rd W B 1 A5 (rnB s).length (its (rnB s))) (hB : w3.heap.size ≤ B) (hz : B ≤ W.heap.size) => dmatch_any A2 A5 c2 _ c5 B ps (rnB s) 0 W (show RdPs W B A2 ps from by
        obtain ⟨vs, v1, v2⟩ := HF.out.2.1.keep (W' := W) (fun q hq => h.cell (by omega))
        exact ⟨vs, v1.more hB, fun i p hp => (v2 i p hp).more hB⟩) hR hz (by omega) (by have := rnB_le s; omega))
      have HKx := Lib.hid (fun W (h : Below wr.heap.size wr W) => show W.cell? ⟨w3.heap.size, 0, none⟩ = some (.slice A2 ps.length c2) ∧ W.cell? ⟨w3.heap.size, 1, none⟩ = some (.int .i64 0) from by
        have hx := HF.out.2.2.2.below (HI.out.trans (h.mono HI.out.size)) hz4
        exact ⟨hx.cell 0, hx.cell 1⟩)
      have hcur : Below wr.heap.size wr wr.drew := (Below.refl _ _).drew
      go_wp2_with fail
      go_region_held3 (fun w' => w'.cell? ⟨w3.heap.size, 0, none⟩ = some (.slice A2 ps.length c2) ∧ w'.cell? ⟨w3.heap.size, 1, none⟩ = some (.int .i64 0)) (first | (exact HKx.out _ hcur) | go_keep)
        (first
          | (go_at_call 11; refine (HMm.out _ (HI.out.trans (hcur.mono HI.out.size))).mono ?_; rintro e w5 ⟨rfl, hb5⟩; replace hcur := hcur.trans (hb5.mono hcur.size); try (replace hR := Rd.below hR hb5 hRz; replace hRz := Nat.le_trans hRz hb5.size))
          | (go_at_call 14; refine (HRn.out _).mono ?_; rintro e w5 ⟨A5, c5, rfl, hR, _, hb5⟩; replace hcur := hcur.trans (hb5.mono hcur.size); have hRz := Nat.le_refl w5.heap.size; have hRB : w3.heap.size ≤ w5.heap.size := (by have := hcur.size; have := HI.out.size; omega))
          | (go_at_call 13; refine (HDm.out _ _ _ _ (HI.out.trans (hcur.mono HI.out.size)) hR hRB hRz).mono ?_; rintro e w5 ⟨rfl, hb5⟩; replace hcur := hcur.trans (hb5.mono hcur.size)))
      all_goals
        go_wp2_with fail
        go_roundw
        case rel => exact ⟨k + 1, by go_num, by omega, Lib.hid (HI.out.trans (hcur.mono HI.out.size))⟩
        case measure => simp [intOf]; omega
    · have hkn : ¬ (k : Int) < (n : Int) := by omega
      have HW := Lib.hid (HF.out.2.2.1.trans (HI.out.mono HF.out.2.2.1.size))
      have hz5 := HI.out.size
      have HH := Lib.hid (show Calls Tryd.prog 15 #[.pointer (some ⟨g, 0, none⟩)] wr fun e w' => e = .returned (.tuple #[.string (hdT ps), .bool (headR ps).2]) ∧ Below wr.heap.size wr w' from head_any g _ ps wr (HF.out.1.bl (by omega) HI.out) (by omega) HK.out.ok (by have := HK.out.len; omega))
      have HDh := Lib.hid (fun W (h : Below w4.heap.size w4 W) => dhead_any A2 c2 w3.heap.size ps W (HF.out.2.1.keep (W' := W) (fun q hq => h.cell (by omega))) (by have := h.size; omega) (by omega))
      have HRn := Lib.hid (show ∀ W, Calls Tryd.prog 14 #[.string (hdT ps)] W fun e w' => ∃ A c, e = .returned (.slice A (headR ps).1.length c) ∧ Rd w' w'.heap.size 1 A (headR ps).1.length (its (headR ps).1) ∧ (headR ps).1.length ≤ c ∧ Below W.heap.size W w' from fun W => by
        have := runes_any (hdT ps) W (by have := hoH.out.2; omega)
        rwa [show rnB (hdT ps) = (headR ps).1 from by unfold hdT; rw [rnB_enc hoH.out.1]] at this)
      have HKx := Lib.hid (fun W (h : Below w4.heap.size w4 W) => show W.cell? ⟨w3.heap.size, 0, none⟩ = some (.slice A2 ps.length c2) ∧ W.cell? ⟨w3.heap.size, 1, none⟩ = some (.int .i64 0) from by
        have hx := HF.out.2.2.2.below h hz4
        exact ⟨hx.cell 0, hx.cell 1⟩)
      have hll : (headR ps).1.length ≤ 100 := by have := headR_len ps; have := HK.out.len; omega
      unfold DHdE at HDh
      generalize hdT ps = H at HH HRn
      generalize (headR ps).1 = hL at *
      generalize (headR ps).2 = al at *
      go_wp2_with fail
      with_reducible refine HH.out.mono ?_
      rintro e w6 ⟨rfl, b6⟩
      have B6 := Lib.hid (HW.out.trans (b6.mono HW.out.size))
      have C6 := Lib.hid (HI.out.trans (b6.mono HI.out.size))
      obtain ⟨x0, x1⟩ := HKx.out w6 C6.out
      clear b6 HH
      go_wp2_with fail
      with_reducible refine (HDh.out w6 C6.out).mono ?_
      rintro e w7 ⟨b7, A7, c7, rfl, hr7, hc7⟩
      have hbx := Bk.new w7 40 #[.slice A7 hL.length c7, .bool al]
      have hba : Below w7.heap.size w7 (w7.alloc (.cells #[.slice A7 hL.length c7, .bool al] 40)) := (Below.refl _ _).alloc (Nat.le_refl _) _
      have B7 := B6.out.trans (b7.mono B6.out.size)
      have HG := Lib.hid (And.intro hbx (And.intro (hr7.below hba (Nat.le_refl _)) (B7.alloc B7.size (.cells #[.slice A7 hL.length c7, .bool al] 40))))
      have hz7 : w7.heap.size < (w7.alloc (.cells #[.slice A7 hL.length c7, .bool al] 40)).heap.size := by simp
      clear b7 hbx hba B7 hr7 x0 x1 HKx HDh B6 C6
      go_wp2_with fail
      generalize w7.alloc (.cells #[.slice A7 hL.length c7, .bool al] 40) = w8 at *
      have HKy := Lib.hid (fun W (h : Below w8.heap.size w8 W) => show W.cell? ⟨w7.heap.size, 0, none⟩ = some (.slice A7 hL.length c7) ∧ W.cell? ⟨w7.heap.size, 1, none⟩ = some (.bool al) from by
        have hx := HG.out.1.below h hz7
        exact ⟨hx.cell 0, hx.cell 1⟩)
      have hcur : Below w8.heap.size w8 w8.drew := (Below.refl _ _).drew
      go_region_held3 (fun w' => w'.cell? ⟨w7.heap.size, 0, none⟩ = some (.slice A7 hL.length c7) ∧ w'.cell? ⟨w7.heap.size, 1, none⟩ = some (.bool al)) (first | (exact HKy.out _ hcur) | go_keep)
          (first
            | (go_at_call 14; refine (HRn.out _).mono ?_; rintro e w9 ⟨A9, c9, rfl, hR, hc9, hb9⟩; replace hcur := hcur.trans (hb9.mono hcur.size)))
      clear hR hc9 hb9
      have B9 := Lib.hid (HG.out.2.2.trans (hcur.mono HG.out.2.2.size))
      have HZ := Lib.hid (And.intro hz7 hcur)
      clear hcur hz7
      go_wp2_with fail
      with_reducible refine (HRn.out _).mono ?_
      rintro e wa ⟨Aa, ca, rfl, hRa, hca, hba⟩
      have Ba := Lib.hid (B9.out.trans (hba.mono B9.out.size))
      have hwa := hZC HZ.out.2 hba
      have Ka := Lib.hid (HKy.out wa hwa)
      have Ra := Lib.hid (And.intro hRa (HG.out.2.1.keep (fun q hq => hwa.cell (by have := HZ.out.1; omega))))
      clear hRa hba hwa
      go_wp2_with fail
      go_loop [87] (fun i => ∃ k : Nat, i = .int .i64 (k : Int) ∧ k ≤ hL.length) (fun i => hL.length - (intOf i).toNat)
      case atStart => exact ⟨0, rfl, Nat.zero_le _⟩
      case round =>
        obtain ⟨j, rfl, hj⟩ := hrel
        by_cases hlj : j < hL.length
        · obtain ⟨b1, o1, u1, rfl, _, hu1, hv1⟩ := Ra.out.1.at_ hlj
          obtain ⟨b2, o2, u2, rfl, _, hu2, hv2⟩ := Ra.out.2.at_ hlj
          obtain rfl : u1 = u2 := Option.some.inj (hu1.symm.trans hu2)
          simp only [its, List.getElem?_map, Option.map_eq_some_iff] at hu1
          obtain ⟨r, hr, rfl⟩ := hu1
          obtain ⟨k0, _⟩ := Ka.out
          have q1 : IntKind.i64.wrap ((j : Int) + 1) = (j : Int) + 1 := IntWalk.i64_in _ (by omega)
          clear hr hu2
          go_wp2_with fail
          go_round
          case rel => exact ⟨j + 1, by go_num, by omega⟩
          case measure => simp [intOf]; omega
        · go_wp2_with fail
          go_ret
          exact ⟨rfl, Ba.out⟩
end Go.Proofs.YtbdehlphblbmoaaDoor
