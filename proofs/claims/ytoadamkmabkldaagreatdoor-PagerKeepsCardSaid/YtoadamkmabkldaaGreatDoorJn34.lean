/- PagerKeeps: the walk. -/
import Derived.Test.YtoadamkmabkldaaGreatDoorJn33
namespace Go.Proofs.YtoadamkmabkldaaGreatDoor
open Go.RowKit Go.Shelf
attribute [local go_sem ↓] Go.wp_at_zero Go.wp_at_succ
section
variable {w W W' : World} {f q mm n : Nat} {S : FsP} {r t : List Nat}
/-- A pager and its store behind so many pages. -/
def KpL (w W : World) (f p k : Nat) (g : Nat → UInt8) (M : Nat) : Prop := ∃ O1 O2 S, Pw w W O1 O2 f p xS (pgG g k) S ∧ St S xN lN M ∧ S.fuse = -1 ∧ S.stamp ≤ 40000
def KpM (w W : World) (f p k : Nat) (g : Nat → UInt8) (M : Nat) : Prop := ∃ O1 O2 S, Pw w W O1 O2 f p xS (pgGa g k) S ∧ St S xN lN M ∧ S.fuse = -1 ∧ S.stamp ≤ 40000
theorem kl_open {m : Int} {M : Nat} (hF : Fs w.heap.size W f (newP m)) (hb : Below w.heap.size w W) (hm : (newP m).most = M) (h17 : 17 ≤ M) (g : Nat → UInt8) : Calls Tryz.prog 11 #[.pointer (some ⟨f, 0, none⟩), .string xS] W fun e w' => ∃ p, e = .returned (.tuple #[.pointer (some ⟨p, 0, none⟩), .int .i64 0]) ∧ Hid (KpL w w' f p 0 g M) := by
  refine (open_new m f _ w W hF (fun i hi => hi) hb).mono ?_
  rintro e w' (⟨_, p, O1, O2, S, h1, h2, h3, h4, h5, _⟩ | ⟨h1, _⟩)
  · rw [hm] at h3
    exact ⟨p, h1, Lib.hid ⟨O1, O2, S, h2, h3, h4, h5⟩⟩
  · omega
theorem kl_alloc {p k M : Nat} {g : Nat → UInt8} (h : KpL w W f p k g M) (hk : k + 1 < 65536) : Calls Tryz.prog 12 #[.pointer (some ⟨p, 0, none⟩)] W fun e w' => e = .returned (.tuple #[.int .i64 ((k + 1 : Nat) : Int), .int .i64 0]) ∧ KpM w w' f p k g M := by
  obtain ⟨O1, O2, S, k1, k2⟩ := h
  refine (gp_alloc k1 hk).mono ?_
  rintro e w' ⟨rfl, O3, O4, k3, _⟩
  exact ⟨rfl, O3, O4, S, k3, k2⟩
theorem kl_write {p k M : Nat} {g : Nat → UInt8} (h : KpM w W f p k g M) (hk : k + 1 < 65536) {x : Int} (hx : x = ((g k).toNat : Int)) : Calls Tryz.prog 13 #[.pointer (some ⟨p, 0, none⟩), .int .i64 ((k + 1 : Nat) : Int), .slice (some ⟨W.heap.size, 0, none⟩) 1 1] (W.alloc (.cells #[.int .u8 x] 5)) fun e w' => e = .returned (.int .i64 0) ∧ KpL w w' f p (k + 1) g M := by
  obtain ⟨O1, O2, S, k1, k2⟩ := h
  refine (gp_write k1 hk hx).mono ?_
  rintro e w' ⟨rfl, O3, O4, k3, _⟩
  exact ⟨rfl, O3, O4, S, k3, k2⟩
theorem kp_commit {p : Nat} (h : KpL w W f p 12 gKp 5000) : Calls Tryz.prog 14 #[.pointer (some ⟨p, 0, none⟩)] W fun e w' => e = .returned (.int .i64 0) ∧ ∃ S2, Hid (FsA w' (fun i => w.heap.size ≤ i ∧ i < w'.heap.size) f S2 ∧ Below w.heap.size w w' ∧ St S2 xN lKp 5000 ∧ S2.stamp ≤ 1000000) := by
  obtain ⟨O1, O2, S, k1, k2, k3, k4⟩ := h
  have hcl : (pgG gKp 12).ch.length = 12 := chG_len _ _
  refine (com_pw k1 (pgG_ok gKp 12 (by omega)) rfl k2 (pgG_bat gKp (by omega)) (by rw [hcl]; omega) (by omega) (Nat.le_refl _) (by show 8 * 1 ≤ 5000; omega) (by omega)).mono ?_
  rintro e w' (⟨r1, _⟩ | ⟨_, r1, _⟩ | ⟨_, _, S2, r1, r2, _, r4, O3, O4, r5, _⟩ | ⟨_, _, r1, _⟩)
  · rw [r1] at hcl; cases hcl
  · rw [hcl] at r1
    have h2 : needC 13 13 512 = 202 := by decide
    have r1 : 5000 - 8 * 1 < needC 13 13 512 := r1
    omega
  · rw [hcl] at r4
    exact ⟨r1, S2, Lib.hid ⟨r5.fs.mono (fun i hi hl => ⟨(r5.l1 i hi).1, hl⟩), r5.bl, r2, by omega⟩⟩
  · exact absurd k3 r1
theorem kp_open {S2 : FsP} (hF : FsA W (fun i => w.heap.size ≤ i ∧ i < W.heap.size) f S2) (hb : Below w.heap.size w W) (hS : St S2 xN lKp 5000) (hst : S2.stamp ≤ 1000000) : Calls Tryz.prog 11 #[.pointer (some ⟨f, 0, none⟩), .string xS] W fun e w' => ∃ p, e = .returned (.tuple #[.pointer (some ⟨p, 0, none⟩), .int .i64 0]) ∧ Hid (KpJ w (w'.alloc (.map #[] 0)) f p w'.heap.size 0 S2 [] []) := by
  refine (open_old f 5000 _ S2 _ (hdG 12) w W hF (fun i hi => hi) hb hS (pgG_next0 gKp 12) (hdG_ok (by omega)) hst).mono ?_
  rintro e w' ⟨p, O1, O2, h1, h2, _⟩
  refine ⟨p, h1, Lib.hid ⟨⟨O1, O2, _, h2.keep (T := fun _ => False) ((Ch.refl _ _).alloc _) (fun i h => h.elim), kp_start, fun e => ?_, fun e => ?_⟩, MapN.new w', h2.bl.size⟩⟩
  · have := (h2.l1 _ e).2; omega
  · have := (h2.l2 _ e).2; omega
/-- Behind the marking, and the change of what was read. -/
theorem KpJ.mark {W1 W2 : World} {g no : Nat} (h : KpJ w W f q mm n S (addN r no) t) (hg : ∀ i, i = g → ∃ O1 O2 Q, Pw w W O1 O2 f q xS Q S ∧ KpQ Q (addN r no) ∧ ¬ O1 mm ∧ ¬ O2 mm ∧ ¬ O1 i ∧ ¬ O2 i) (hgw : w.heap.size ≤ g) (hgm : g ≠ mm) (m1 : MapN W1 mm (n + 1) (addN t no)) (g1 : W.grownBy W1 (some mm)) (hc : Ch (fun i => i = g) W1 W2) :
    KpJ w W2 f q mm (n + 1) S (addN r no) (addN t no) := by
  obtain ⟨O1, O2, Q, k1, k2, k3, k4, k5, k6⟩ := hg g rfl
  have hc1 : Ch (fun i => i = mm ∨ i = g) W W1 := (Ch.refl _ W).grown g1 (fun i e => by injection e with e; exact .inl (.inl e.symm))
  have hc2 : Ch (fun i => i = mm ∨ i = g) W W2 := hc1.trans hc (fun i e => .inl (.inr e))
  refine ⟨⟨O1, O2, Q, k1.keep hc2 (fun i hi _ => ?_), k2, k3, k4⟩, m1.heap (hc.block mm m1.lt (fun e => hgm e.symm)), h.mb⟩
  rcases hi with rfl | rfl
  · exact ⟨k3, k4, h.mb⟩
  · exact ⟨k5, k6, hgw⟩
end
set_option maxHeartbeats 4000000 in
set_option maxRecDepth 100000 in
theorem pagerKeeps_walk (A : Option Addr) (n c : Nat) (l : List UInt8) (w : World) (hr : Rd w w.heap.size 1 A n (bys l)) (hnc : n ≤ c) (hcm : c ≤ maxLen) (_ : True) :
    Calls Tryz.prog 3 #[.slice A n c] w fun e w' => e = .returned (.bool true) ∧ Below w.heap.size w w' := by
  rename_i hT
  clear hT
  have hlen := hr.blen
  have HW := Lib.hid (pwakes_any w)
  by_cases h30 : 50 < n
  · have hi : (50 : Int) < (n : Int) := by omega
    clear h30 hlen hr hnc hcm
    go_enter Tryz.func3, Tryz.ntmps3
    go_wp2_with fail
    with_reducible refine HW.out.mono ?_
    rintro e w1 ⟨rfl, b1⟩
    have B1 := Lib.hid b1
    clear b1
    go_wp2_with fail
    go_ret
    exact ⟨rfl, B1.out⟩
  · have hi : ¬ (50 : Int) < (n : Int) := by omega
    have HL := Lib.hid (And.intro hr hlen)
    have hn30 : n ≤ 50 := by omega
    clear h30 hlen hr hnc hcm
    go_enter Tryz.func3, Tryz.ntmps3
    go_wp2_with fail
    with_reducible refine HW.out.mono ?_
    rintro e w0 ⟨rfl, b0⟩
    have B0 := Lib.hid b0
    have HN := Lib.hid (new_fs 5000 w0)
    clear b0 HW
    go_wp2_with fail
    with_reducible refine HN.out.mono ?_
    rintro e w1 ⟨f, rfl, h1, b1⟩
    have HO := Lib.hid (kl_open (M := 5000) h1 b1 rfl (by omega) gKp)
    clear h1 b1 HN
    go_wp2_with fail
    with_reducible refine HO.out.mono ?_
    rintro e w2 ⟨p, rfl, H2⟩
    clear HO hi
    go_wp2_with fail
    go_loopw [30] (fun s30 wr => ∃ i : Nat, s30 = .int .i64 (i : Int) ∧ i ≤ 12 ∧ Hid (KpL w0 wr f p i gKp 5000)) (fun s30 _ => 12 - (intOf s30).toNat)
    case atStart => exact ⟨0, rfl, by omega, H2⟩
    case round =>
      obtain ⟨i, rfl, hi10, HI⟩ := hrel
      by_cases hlt : i < 12
      · have HA := Lib.hid (by have := kl_alloc HI.out (show i + 1 < 65536 by omega); rw [show ((i + 1 : Nat) : Int) = (i : Int) + 1 by omega] at this; exact this)
        have hlt2 : (i : Int) < 12 := by omega
        have hx : ((i : Int) + 1) = ((gKp i).toNat : Int) := by
          unfold gKp
          rw [UInt8.toNat_ofNat', Nat.mod_eq_of_lt (by omega)]; omega
        have HX := Lib.hid hx
        have e1 : IntKind.u8.wrap ((i : Int) + 1) = (i : Int) + 1 := by simp [IntKind.wrap, IntKind.bits, IntKind.signed]; omega
        clear hx
        go_wp2_with fail
        with_reducible refine HA.out.mono ?_
        rintro e w4 ⟨rfl, h4⟩
        have HWr := Lib.hid (by have := kl_write h4 (show i + 1 < 65536 by omega) HX.out; rw [show ((i + 1 : Nat) : Int) = (i : Int) + 1 by omega] at this; exact this)
        clear h4 HA
        go_wp2_with fail
        with_reducible refine HWr.out.mono ?_
        rintro e w5 ⟨rfl, h5⟩
        have H5 := Lib.hid h5
        clear h5 HWr
        go_wp2_with fail
        go_roundw
        case rel => first | exact ⟨i + 1, rfl, by omega, H5⟩ | ((repeat apply Exists.intro); exact ⟨⟨i + 1, rfl, by omega, H5⟩, rfl⟩)
        case measure => simp [intOf]; omega
      · obtain rfl : i = 12 := by omega
        have HC := Lib.hid (kp_commit HI.out)
        clear H2 HI hlt hi10
        go_wp2_with fail
        with_reducible refine HC.out.mono ?_
        rintro e w5 ⟨rfl, S2, H5⟩
        have HO := Lib.hid (kp_open H5.out.1 H5.out.2.1 H5.out.2.2.1 H5.out.2.2.2)
        have HS := Lib.hid H5.out.2.2.1
        clear HC H5
        have mkm : ∀ W : World, (Instr.makeMap 34 none).run Tryz.prog W = .ok (.map (some W.heap.size)) (W.alloc (.map #[] 0)) := fun W => by kernel_rfl
        go_wp2_with fail
        with_reducible refine HO.out.mono ?_
        rintro e w6 ⟨q, rfl, H6⟩
        have HRd := Lib.hid H6.out.reads
        clear HO
        go_wp2_with fail
        with_reducible refine HRd.out.mono ?_
        rintro e wz ⟨rfl, hwz⟩
        subst hwz
        go_wp2_with fail
        clear mkm
        go_loopw [61] (fun s61 wr => ∃ (i : Nat) (r : List Nat), s61 = .int .i64 (i : Int) ∧ i ≤ n ∧ Hid (KpJ w0 wr f q w6.heap.size i S2 r r)) (fun s61 _ => n - (intOf s61).toNat)
        case atStart => exact ⟨0, [], rfl, Nat.zero_le _, H6⟩
        case round =>
          obtain ⟨i, r, rfl, hin, HI⟩ := hrel
          by_cases hlt : i < n
          · obtain ⟨b, o, u, rfl, hb, hu, hu256, hcell⟩ := (HL.out.1.below (B0.out.trans (HI.out.low.mono B0.out.size)) (Nat.le_refl _)).byte hlt
            have hN : 1 ≤ 1 + u.toNat % 12 ∧ 1 + u.toNat % 12 ≤ 12 := by omega
            have e1 : ((u.toNat : Nat) : Int).tmod 12 = ((u.toNat % 12 : Nat) : Int) := by rw [Int.tmod_eq_emod_of_nonneg (by omega)]; omega
            obtain ⟨M, hM⟩ : ∃ M, M = u.toNat % 12 := ⟨_, rfl⟩
            rw [← hM] at e1 hN
            have e2 : 1 + (M : Int) = ((1 + M : Nat) : Int) := by omega
            obtain ⟨N, hNN⟩ : ∃ N, N = 1 + M := ⟨_, rfl⟩
            rw [← hNN] at e2 hN
            have hN0 := hN.1
            have hN1 := hN.2
            have hM10 : M < 12 := by omega
            have hlt2 : (i : Int) < (n : Int) := by omega
            have HR := Lib.hid (HI.out.read HS.out hN0 hN1)
            have hbw := HI.out.low.size
            have HB := Lib.hid hbw
            clear hM hN hb hu hNN hbw
            go_wp2_with fail
            with_reducible refine HR.out.mono ?_
            rintro e w7 ⟨g, cg, rfl, hg, H7⟩
            have HM := Lib.hid H7.out.1.mp
            have hgm : g ≠ w6.heap.size := by
              obtain ⟨cs, hcs, _⟩ := H7.out.2.2.1
              exact (H7.out.1.mp.ne hcs).symm
            have HG := Lib.hid (fun W1 (g1 : w7.grownBy W1 (some w6.heap.size)) => show W1.cell? ⟨g, 0, none⟩ = some (.int .u8 (N : Int)) ∧ W1.frozen? ⟨g, 0, none⟩ = false from by
              obtain ⟨cs, hcs, _⟩ := H7.out.2.2.1
              have hb1 := hcs.grown g1 (by intro e; injection e with e; exact hgm e)
              exact ⟨(hb1.cell 0).trans ((hcs.cell 0).symm.trans hg), hb1.free 0⟩)
            have hi50 : i ≤ 50 := by omega
            clear HR
            have HGM := Lib.hid hgm
            clear hgm
            go_wp2_with (first
                | (with_reducible refine at_mapUpdI ?_; go_loud ((apply op_putN (k := N) HM.out (by omega) (by omega)); (case hm => kernel_rfl); (case hs => kernel_rfl); (case hb => kernel_rfl); (case hw => kernel_rfl); intro w8 m8 g8; obtain ⟨c8, f8⟩ := HG.out w8 g8; replace m8 := Lib.hid m8; replace g8 := Lib.hid g8; try go_frame)))
            have H9 : KpJ w0 (w8.setCell ⟨g, 0, none⟩ (.int .u8 99)) f q w6.heap.size (i + 1) S2 (addN r N) (addN r N) := H7.out.1.mark H7.out.2.2.2 (by have := H7.out.2.1; have := HB.out; omega) HGM.out m8.out g8.out ((Ch.refl (fun i => i = g) w8).set (p := ⟨g, 0, none⟩) (.inl rfl) _)
            replace H9 := Lib.hid H9
            go_roundw
            case rel => first | exact ⟨i + 1, addN r N, rfl, by omega, H9⟩ | ((repeat apply Exists.intro); exact ⟨⟨i + 1, addN r N, rfl, by omega, H9⟩, rfl⟩)
            case measure => simp [intOf]; omega
          · obtain rfl : i = n := by omega
            have HRe := Lib.hid HI.out.reads
            have hln := fun ty => HI.out.mp.len ty
            have HB := Lib.hid HI.out.low
            have hrl : r.length ≤ 100 := by
              obtain ⟨D, h1, _, h3⟩ := HI.out.mp
              have := h1.size_le
              omega
            generalize r.length = R at *
            clear HI hlt hin
            go_wp2_with fail
            with_reducible refine HRe.out.mono ?_
            rintro e w7 ⟨rfl, hw7⟩
            subst hw7
            go_wp2_with fail
            go_ret
            exact ⟨rfl, B0.out.trans (HB.out.mono B0.out.size)⟩
end Go.Proofs.YtoadamkmabkldaaGreatDoor
