/- VfsRoom: files take just as many sectors as their lengths need. -/
import Derived.Test.YtknjopefbbldfaaDoorVfsX
import Derived.Test.YtknjopefbbldfaaDoorRows
import Derived.PinnedBridge
import Derived.Stop.LaidErr
namespace Go.Proofs.YtknjopefbbldfaaDoor
open Go.RowKit
attribute [local go_sem ↓] Go.wp_at_zero Go.wp_at_succ

theorem vfsRoom_laid (W : World) (_ : laidMet Tryd.prog Rows.vfsRoomRow.laid W) : True := trivial
def nmR (i : Nat) : List UInt8 := [UInt8.ofNat (97 + i)]
theorem nmR_right : ∀ i, i < 20 → rightP (nmR i) = true := by decide
theorem nmR_ne {i j : Nat} (hi : i < 20) (hj : j < 20) (h : i ≠ j) : nmR i ≠ nmR j := by
  intro e
  unfold nmR at e
  injection e with e _
  have := congrArg UInt8.toNat e
  rw [UInt8.toNat_ofNat', UInt8.toNat_ofNat'] at this
  omega
structure RmS (most i used : Nat) (S : FsP) : Prop where
  up : Up S
  wf : S.WF
  most_ : S.most = most
  use : useP S.fs = used
  stamp : S.stamp ≤ 2 * i
  no : ∀ j, i ≤ j → j < 20 → findP S (nmR j) = none
/-- Behind the creating. -/
structure RmC (most i used : Nat) (S : FsP) : Prop where
  up : Up S
  wf : S.WF
  most_ : S.most = most
  use : useP S.fs = used
  stamp : S.stamp ≤ 2 * i + 1
  file : ∃ k, findP S (nmR i) = some ⟨[], [], [], k⟩
  no : ∀ j, i < j → j < 20 → findP S (nmR j) = none
theorem room_new (most : Nat) (h1 : 1 ≤ most) (h2 : most ≤ 65536) : RmS most 0 0 (newP (most : Int)) :=
  ⟨up_new _, newP_wf _, by unfold newP; simp only; omega, rfl, Nat.zero_le _, fun _ _ _ => rfl⟩
theorem room_create {most i used : Nat} {S : FsP} (h : RmS most i used S) (hi : i < 20) : ∃ S', createP S (nmR i) = (0, S') ∧ RmC most i used S' := by
  have hf := h.no i (Nat.le_refl _) hi
  obtain ⟨c1, c2, c3, c4, c5⟩ := create0 h.up (nmR_right i hi) hf
  have hfd := find_made hf
  refine ⟨_, c1, c2, madeF_wf h.wf hf (by simp [nmR]), by rw [c4, h.most_], by rw [c3, h.use], by rw [c5]; have := h.stamp; omega, ⟨S.stamp + 1, by rw [hfd, if_pos rfl]⟩, fun j h1 h2 => ?_⟩
  rw [hfd, if_neg (nmR_ne h2 hi (by omega))]
  exact h.no j (by omega) h2
theorem room_ok {most i used : Nat} {S : FsP} (h : RmC most i used S) (hi : i < 20) (n : Nat) (hfit : used + needN n ≤ most) : ∃ S', writeP S (nmR i) ((0 : Nat) : Int) (List.replicate n 0) = (0, S') ∧ RmS most (i + 1) (used + needN n) S' := by
  obtain ⟨k, hk⟩ := h.file
  obtain ⟨S', y, d1, d2, d3, d4, d5, d6, d7⟩ := write0 (List.replicate n 0) h.up h.wf hk rfl (by rw [h.use, h.most_, List.length_replicate]; exact hfit)
  have hwf := writeP_wf (p := 0) (b := List.replicate n 0) h.wf h.up.d hk (Nat.zero_le _)
  rw [d1] at hwf
  refine ⟨S', d1, d2, hwf, by rw [d3, h.most_], by rw [d5, h.use, List.length_replicate], by have := h.stamp; omega, fun j h1 h2 => ?_⟩
  rw [d7, if_neg (nmR_ne h2 hi (by omega))]
  exact h.no j (by omega) h2
theorem room_full {most i used : Nat} {S : FsP} (h : RmC most i used S) (n : Nat) (hfull : most < used + needN n) : writeP S (nmR i) ((0 : Nat) : Int) (List.replicate n 0) = (8, S) ∧ RmS most (i + 1) used S ∧ lenV S (nmR i) = .tuple #[.int .i64 0, .bool true] := by
  obtain ⟨k, hk⟩ := h.file
  refine ⟨?_, ⟨h.up, h.wf, h.most_, h.use, by have := h.stamp; omega, fun j h1 h2 => h.no j (by omega) h2⟩, ?_⟩
  · rw [writeP_some _ h.up.d hk (Nat.zero_le _), if_pos]
    simp only [List.length_nil, List.length_replicate, Nat.zero_add, Nat.max_eq_right (Nat.zero_le _), Nat.sub_zero]
    rw [h.use, h.most_]; exact hfull
  · unfold lenV lenP
    rw [h.up.d, hk]; rfl
set_option maxHeartbeats 8000000 in
set_option maxRecDepth 100000 in
theorem vfsRoom_walk (a : Int) (A : Option Addr) (n c : Nat) (l : List Int) (w : World) (ha : 0 ≤ a ∧ a ≤ 255) (hr : Rd w w.heap.size 1 A n (l.map (Value.int .u16))) (hnc : n ≤ c) (hcm : c ≤ maxLen) (hl : ∀ z ∈ l, 0 ≤ z ∧ z ≤ 65535) (_ : True) :
    Calls Tryd.prog 4 #[.int .u8 a, .slice A n c] w fun e w' => e = .returned (.bool true) ∧ Below w.heap.size w w' := by
  rename_i hT
  clear hT
  have hlen : l.length = n := by have := hr.1; simpa using this
  have HWk := Lib.hid (wakes_any w)
  by_cases h20 : 20 < n
  · have hi : (20 : Int) < (n : Int) := by omega
    clear h20 hlen hr hnc hcm hl ha
    go_enter Tryd.func4, Tryd.ntmps4
    go_wp2_with fail
    with_reducible refine HWk.out.mono ?_
    rintro e w1 ⟨rfl, b1⟩
    have B1 := Lib.hid b1
    clear b1
    go_wp2_with fail
    go_ret
    exact ⟨rfl, B1.out⟩
  · have hi : ¬ (20 : Int) < (n : Int) := by omega
    obtain ⟨M, hM⟩ : ∃ M : Nat, M = 1 + a.toNat := ⟨_, rfl⟩
    have hMa : IntKind.i64.wrap (1 + a) = (M : Int) := by rw [IntWalk.i64_in _ (by omega)]; omega
    have haw : IntKind.i64.wrap a = a := IntWalk.i64_in _ (by omega)
    have HN := Lib.hid (fun W => new_fs (M : Int) W)
    have HL := Lib.hid (And.intro hr (And.intro hlen (And.intro hl (show 1 ≤ M ∧ M ≤ 256 by omega))))
    have hn20 : n ≤ 20 := by omega
    clear h20 hlen hr hnc hcm hl ha hM
    go_enter Tryd.func4, Tryd.ntmps4
    go_wp2_with fail
    with_reducible refine HWk.out.mono ?_
    rintro e w1 ⟨rfl, b1⟩
    have B1 := Lib.hid b1
    clear b1
    go_wp2_with fail
    with_reducible refine (HN.out w1).mono ?_
    rintro e w2 ⟨f, rfl, h2, b2⟩
    have H2 := Lib.hid (show Fs w.heap.size w2 f (newP (M : Int)) ∧ RmS M 0 0 (newP (M : Int)) ∧ Below w.heap.size w w2 from ⟨FsA.mono h2 (fun i hi _ => ⟨Nat.le_trans B1.out.size hi.1, hi.2⟩), room_new M HL.out.2.2.2.1 (by have := HL.out.2.2.2.2; omega), B1.out.trans (b2.mono B1.out.size)⟩)
    clear h2 b2 hMa haw
    go_wp2_with fail
    go_loopw [7, 26] (fun s7 s26 wr => ∃ (i used : Nat) (S : FsP), s26 = .int .i64 (i : Int) ∧ i ≤ n ∧ s7 = .int .i64 (used : Int) ∧ used ≤ M ∧ Hid (Fs w.heap.size wr f S ∧ RmS M i used S ∧ Below w.heap.size w wr)) (fun _ s26 _ => n - (intOf s26).toNat)
    case atStart => exact ⟨0, 0, _, rfl, Nat.zero_le _, rfl, Nat.zero_le _, H2⟩
    case round =>
      obtain ⟨i, used, S, rfl, hin, rfl, hum, HI⟩ := hrel
      by_cases hlt : i < n
      · obtain ⟨b, o, u, rfl, hb, hx, hcell⟩ := (HL.out.1.below HI.out.2.2 (Nat.le_refl _)).at_ hlt
        rw [List.getElem?_map, Option.map_eq_some_iff] at hx
        obtain ⟨z, hz, rfl⟩ := hx
        obtain ⟨Z, rfl⟩ : ∃ Z : Nat, z = (Z : Int) := ⟨z.toNat, by have := HL.out.2.2.1 z (List.mem_of_getElem? hz); omega⟩
        have hZ : Z ≤ 65535 := by have := HL.out.2.2.1 _ (List.mem_of_getElem? hz); omega
        obtain ⟨S', hcr, hC⟩ := room_create HI.out.2.1 (by omega)
        have e1 : IntKind.u8.wrap (i : Int) = (i : Int) := by simp [IntKind.wrap, IntKind.bits, IntKind.signed]; omega
        have e2 : IntKind.u8.wrap (97 + (i : Int)) = (((UInt8.ofNat (97 + i)).toNat : Nat) : Int) := by rw [UInt8.toNat_ofNat']; simp [IntKind.wrap, IntKind.bits, IntKind.signed]
        have cv : (convert 22 9 (.slice (some ⟨wr.heap.size, 0, none⟩) 1 1)).run Tryd.prog (wr.alloc (.cells #[.int .u8 (((UInt8.ofNat (97 + i)).toNat : Nat) : Int)] 5)) = .ok (.string ⟨(nmR i).toArray⟩) (wr.alloc (.cells #[.int .u8 (((UInt8.ofNat (97 + i)).toNat : Nat) : Int)] 5)) := conv_bys (Rd.oneB wr 5 rfl)
        have HC := Lib.hid (show ∀ W, Below wr.heap.size wr W → Calls Tryd.prog 10 #[.pointer (some ⟨f, 0, none⟩), .string ⟨(nmR i).toArray⟩] W fun e w' => e = .returned (.int .i64 0) ∧ Fs w.heap.size w' f S' ∧ Below w.heap.size W w' from fun W hb => by
          have := create_fs _ f S W (HI.out.1.below hb) ⟨(nmR i).toArray⟩ (by simp [nmR, ByteArray.size]) (by have := HI.out.2.1.stamp; omega)
          rw [show (⟨(nmR i).toArray⟩ : ByteArray).data.toList = nmR i from rfl, hcr] at this
          exact this)
        have HA := Lib.hid (show Below wr.heap.size wr (wr.alloc (.cells #[.int .u8 (((UInt8.ofNat (97 + i)).toNat : Nat) : Int)] 5)) from (Below.refl _ _).alloc (Nat.le_refl _) _)
        have HCr := Lib.hid hC
        generalize (((UInt8.ofNat (97 + i)).toNat : Nat) : Int) = x8 at *
        have hi20 : i < 20 := by omega
        clear hcr hb hz hC
        go_wp2_with fail
        with_reducible refine (HC.out _ HA.out).mono ?_
        rintro e w3 ⟨rfl, h3, b3⟩
        have H3 := Lib.hid (And.intro h3 (show Below w.heap.size w w3 from (HI.out.2.2.trans (HA.out.mono HI.out.2.2.size)).trans b3))
        clear h3 b3 cv HC HA e1 e2
        obtain ⟨NZ, hNZ⟩ : ∃ NZ, NZ = needN Z := ⟨_, rfl⟩
        have eN : ((Z : Int) + 63) / 64 = (NZ : Int) := by rw [hNZ]; unfold needN; omega
        have hnd : NZ ≤ 1024 := by rw [hNZ]; unfold needN; omega
        have mk := fun w => mk_bys Z (Z : Int) (Z : Int) rfl rfl (by omega) w
        obtain ⟨U, hU⟩ : ∃ U, U = used + NZ := ⟨_, rfl⟩
        have eU : (used : Int) + (NZ : Int) = (U : Int) := by omega
        have hM256 : M ≤ 256 := HL.out.2.2.2.2
        have hUb : U ≤ 2000 := by omega
        have hrs := Lib.hid (show Rs (w3.alloc (.cells (bys (List.replicate Z 0)).toArray 5)) w3.heap.size (some ⟨w3.heap.size, 0, none⟩) (List.replicate Z 0) from rs_new w3 _ _ (by simp))
        have HAl := Lib.hid (show Below w3.heap.size w3 (w3.alloc (.cells (bys (List.replicate Z 0)).toArray 5)) from (Below.refl _ _).alloc (Nat.le_refl _) _)
        have HRm := Lib.hid (fun S W (h : Fs w.heap.size W f S) => room_fs _ f S W h)
        have HLn := Lib.hid (fun S W (h : Fs w.heap.size W f S) => len_fs _ f S W h ⟨(nmR i).toArray⟩ (by simp [nmR, ByteArray.size]))
        by_cases hfit : U ≤ M
        · obtain ⟨S2, hw2, hS2⟩ := room_ok HCr.out hi20 Z (by rw [← hNZ, ← hU]; exact hfit)
          rw [← hNZ, ← hU] at hS2
          have HWr := Lib.hid (show Calls Tryd.prog 11 #[.pointer (some ⟨f, 0, none⟩), .string ⟨(nmR i).toArray⟩, .int .i64 0, .slice (some ⟨w3.heap.size, 0, none⟩) Z Z] (w3.alloc (.cells (bys (List.replicate Z 0)).toArray 5)) fun e w' => e = .returned (.int .i64 0) ∧ Fs w.heap.size w' f S2 ∧ Ch (fun i => w.heap.size ≤ i ∧ i < w3.heap.size) (w3.alloc (.cells (bys (List.replicate Z 0)).toArray 5)) w' from by
            obtain ⟨kk, hkk⟩ := HCr.out.file
            have := write_own _ f S' w3 H3.out.1 ⟨(nmR i).toArray⟩ 0 Z Z w3.heap.size w.heap.size (List.replicate Z 0) (some ⟨w3.heap.size, 0, none⟩) _ (by simp [nmR, ByteArray.size]) (by have := HCr.out.stamp; omega) (by simp) (by omega) (Nat.le_refl _) (by unfold maxLen; omega) _ HAl.out hrs.out (fun _ => ⟨Nat.le_refl _, by simp⟩) HCr.out.up.d hkk (Nat.zero_le _) (Nat.le_refl _) H3.out.1.base_le
            rw [show (⟨(nmR i).toArray⟩ : ByteArray).data.toList = nmR i from rfl, hw2, show ((0 : Nat) : Int) = (0 : Int) from rfl] at this
            exact this)
          obtain ⟨R, hR⟩ : ∃ R, R = M - U := ⟨_, rfl⟩
          have eR : (M : Int) - (U : Int) = (R : Int) := by omega
          have HS2 := Lib.hid (And.intro hS2 hR)
          have hz3 := H3.out.2.size
          have Hz3 := Lib.hid hz3
          clear hw2 hS2 hNZ hU hR hz3
          go_wp2_with fail
          with_reducible refine HWr.out.mono ?_
          rintro e w4 ⟨rfl, h4, k4⟩
          have H4 := Lib.hid (show Fs w.heap.size w4 f S2 ∧ Below w.heap.size w w4 from ⟨h4, (H3.out.2.trans (HAl.out.mono Hz3.out)).trans (k4.below (Nat.le_trans Hz3.out HAl.out.size) (fun i hi => hi.1))⟩)
          clear h4 k4 mk
          go_wp2_with fail
          have HRm4 := Lib.hid (show Calls Tryd.prog 15 #[.pointer (some ⟨f, 0, none⟩)] w4 fun e w' => e = .returned (.int .i64 (R : Int)) ∧ Below w4.heap.size w4 w' from by
            have := HRm.out S2 w4 H4.out.1
            rw [HS2.out.1.up.d, HS2.out.1.most_, HS2.out.1.use, ← HS2.out.2] at this
            exact this)
          with_reducible refine HRm4.out.mono ?_
          rintro e w5 ⟨rfl, b5⟩
          have H5 := Lib.hid (show Fs w.heap.size w5 f S2 ∧ RmS M (i + 1) U S2 ∧ Below w.heap.size w w5 from ⟨H4.out.1.below b5, HS2.out.1, H4.out.2.trans (b5.mono H4.out.2.size)⟩)
          clear b5
          go_wp2_with fail
          go_roundw
          case rel => first | exact ⟨i + 1, U, S2, rfl, by omega, rfl, hfit, H5⟩ | ((repeat apply Exists.intro); exact ⟨⟨i + 1, U, S2, rfl, by omega, rfl, hfit, H5⟩, rfl⟩)
          case measure => simp [intOf]; omega
        · obtain ⟨hw2, hS2, hln⟩ := room_full HCr.out Z (by rw [← hNZ]; omega)
          have HWr := Lib.hid (show Calls Tryd.prog 11 #[.pointer (some ⟨f, 0, none⟩), .string ⟨(nmR i).toArray⟩, .int .i64 0, .slice (some ⟨w3.heap.size, 0, none⟩) Z Z] (w3.alloc (.cells (bys (List.replicate Z 0)).toArray 5)) fun e w' => e = .returned (.int .i64 8) ∧ Fs w.heap.size w' f S' ∧ Ch (fun i => w.heap.size ≤ i ∧ i < w3.heap.size) (w3.alloc (.cells (bys (List.replicate Z 0)).toArray 5)) w' from by
            obtain ⟨kk, hkk⟩ := HCr.out.file
            have := write_own _ f S' w3 H3.out.1 ⟨(nmR i).toArray⟩ 0 Z Z w3.heap.size w.heap.size (List.replicate Z 0) (some ⟨w3.heap.size, 0, none⟩) _ (by simp [nmR, ByteArray.size]) (by have := HCr.out.stamp; omega) (by simp) (by omega) (Nat.le_refl _) (by unfold maxLen; omega) _ HAl.out hrs.out (fun _ => ⟨Nat.le_refl _, by simp⟩) HCr.out.up.d hkk (Nat.zero_le _) (Nat.le_refl _) H3.out.1.base_le
            rw [show (⟨(nmR i).toArray⟩ : ByteArray).data.toList = nmR i from rfl, hw2, show ((0 : Nat) : Int) = (0 : Int) from rfl] at this
            exact this)
          obtain ⟨R, hR⟩ : ∃ R, R = M - used := ⟨_, rfl⟩
          have eR : (M : Int) - (used : Int) = (R : Int) := by omega
          have HS2 := Lib.hid (And.intro hS2 (And.intro hln hR))
          have hz3 := H3.out.2.size
          have Hz3 := Lib.hid hz3
          clear hw2 hS2 hln hNZ hU hR hz3
          go_wp2_with fail
          with_reducible refine HWr.out.mono ?_
          rintro e w4 ⟨rfl, h4, k4⟩
          have H4 := Lib.hid (show Fs w.heap.size w4 f S' ∧ Below w.heap.size w w4 from ⟨h4, (H3.out.2.trans (HAl.out.mono Hz3.out)).trans (k4.below (Nat.le_trans Hz3.out HAl.out.size) (fun i hi => hi.1))⟩)
          clear h4 k4 mk
          go_wp2_with fail
          have HLn4 := Lib.hid (show Calls Tryd.prog 14 #[.pointer (some ⟨f, 0, none⟩), .string ⟨(nmR i).toArray⟩] w4 fun e w' => e = .returned (.tuple #[.int .i64 0, .bool true]) ∧ w' = w4 from by
            have := HLn.out S' w4 H4.out.1
            have e7 := HS2.out.2.1
            first | rw [e7] at this | rw [show (⟨(nmR i).toArray⟩ : ByteArray).data.toList = nmR i from rfl, e7] at this
            exact this)
          with_reducible refine HLn4.out.mono ?_
          rintro e w5 ⟨rfl, hw5⟩
          replace hw5 := hw5.symm
          subst hw5
          go_wp2_with fail
          have HRm4 := Lib.hid (show Calls Tryd.prog 15 #[.pointer (some ⟨f, 0, none⟩)] w4 fun e w' => e = .returned (.int .i64 (R : Int)) ∧ Below w4.heap.size w4 w' from by
            have := HRm.out S' w4 H4.out.1
            rw [HS2.out.1.up.d, HS2.out.1.most_, HS2.out.1.use, ← HS2.out.2.2] at this
            exact this)
          with_reducible refine HRm4.out.mono ?_
          rintro e w5 ⟨rfl, b5⟩
          have H5 := Lib.hid (show Fs w.heap.size w5 f S' ∧ RmS M (i + 1) used S' ∧ Below w.heap.size w w5 from ⟨H4.out.1.below b5, HS2.out.1, H4.out.2.trans (b5.mono H4.out.2.size)⟩)
          clear b5
          go_wp2_with fail
          go_roundw
          case rel => first | exact ⟨i + 1, used, S', rfl, by omega, rfl, hum, H5⟩ | ((repeat apply Exists.intro); exact ⟨⟨i + 1, used, S', rfl, by omega, rfl, hum, H5⟩, rfl⟩)
          case measure => simp [intOf]; omega
      · have hin2 : n = i := by omega
        subst hin2
        go_wp2_with fail
        go_ret
        exact ⟨rfl, HI.out.2.2⟩
end Go.Proofs.YtknjopefbbldfaaDoor
