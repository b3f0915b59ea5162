/- AhoApart, walked. -/
import Derived.Test.YthfpdiaobkccbaaAhoO
import Derived.Test.YthfpdiaobkccbaaAhoW
import Derived.Test.YthfpdiaobkccbaaAhoG
namespace Go.Proofs.Ythfpdiaobkccbaa
open Go.RowKit
attribute [local go_sem ↓] Go.wp_at_zero Go.wp_at_succ

theorem u8_nat (x : Int) : ∃ u : UInt8, IntKind.u8.wrap x = (u.toNat : Int) := by
  refine ⟨UInt8.ofNat (IntKind.u8.wrap x).toNat, ?_⟩
  have h : 0 ≤ IntKind.u8.wrap x ∧ IntKind.u8.wrap x < 256 := by rw [IntKind.wrap_u8']; exact ⟨Int.emod_nonneg _ (by omega), Int.emod_lt_of_pos _ (by omega)⟩
  rw [UInt8.toNat_ofNat', Nat.mod_eq_of_lt (by omega)]
  omega
/-- What stands while the bytes change. -/
def MU (w1 w3 wr : World) (base W0 : Nat) (T : Tt) (v : Value) (many : Int) (n : Nat) : Prop :=
  (∃ ls, OwB wr w1.heap.size v n ls ∧ ∀ x ∈ ls, x.length ≤ 100) ∧ AT wr base W0 many T ∧ Below w1.heap.size w3 wr
def MUr (w1 w3 wr : World) (base W0 : Nat) (T : Tt) (v : Value) (many : Int) (n j m : Nat) : Prop :=
  (∃ ls l, OwB wr w1.heap.size v n ls ∧ (∀ x ∈ ls, x.length ≤ 100) ∧ ls[j]? = some l ∧ l.length = m) ∧ AT wr base W0 many T ∧ Below w1.heap.size w3 wr
theorem MUr.step {w1 w3 wr : World} {base W0 : Nat} {T : Tt} {v : Value} {many : Int} {n j m k : Nat} (h : MUr w1 w3 wr base W0 T v many n j m) (hk : k < m) :
    ∃ b c G C x, v = .slice (some ⟨b, 0, none⟩) n c ∧ wr.cell? ⟨b, j, none⟩ = some (.slice (some ⟨G, 0, none⟩) m C) ∧ m ≤ C ∧ wr.cell? ⟨G, k, none⟩ = some (.int .u8 ((x : UInt8).toNat : Int)) ∧ wr.frozen? ⟨G, k, none⟩ = false ∧
      ∀ y : UInt8, MUr w1 w3 (wr.setCell ⟨G, k, none⟩ (.int .u8 (y.toNat : Int))) base W0 T v many n j m := by
  obtain ⟨⟨ls, l, h1, h2, h3, rfl⟩, h4, h5⟩ := h
  obtain ⟨b, o, c, G, C, e1, _, e2, e3, e4, e5, e6, e7, e8, e9⟩ := h1.set h3 hk
  refine ⟨b, c, G, C, _, e1, e2, e3, e4, e5, fun y => ⟨⟨_, l.set k y, (e9 y).1, fun x hx => ?_, ?_, by rw [List.length_set]⟩, h4.kept_bys e8 (e9 y).2, h5.setCell e6 _⟩⟩
  · rcases List.mem_or_eq_of_mem_set hx with hx | hx
    · exact h2 x hx
    · rw [hx, List.length_set]; exact h2 l (List.mem_of_getElem? h3)
  · rw [List.getElem?_set_self (List.getElem?_eq_some_iff.1 h3).1]
theorem MU.row {w1 w3 wr : World} {base W0 : Nat} {T : Tt} {v : Value} {many : Int} {n j : Nat} (h : MU w1 w3 wr base W0 T v many n) (hj : j < n) :
    ∃ b c A m C, v = .slice (some ⟨b, 0, none⟩) n c ∧ wr.cell? ⟨b, j, none⟩ = some (.slice A m C) ∧ m ≤ 100 ∧ MUr w1 w3 wr base W0 T v many n j m := by
  obtain ⟨⟨ls, h1, h2⟩, h4, h5⟩ := h
  obtain ⟨vs, o1, o2, o3, o4⟩ := id h1
  have hjv : j < vs.length := by have := o1.1; omega
  obtain ⟨u, hu⟩ : ∃ u, vs[j]? = some u := ⟨_, List.getElem?_eq_getElem hjv⟩
  obtain ⟨l, hl⟩ : ∃ l, ls[j]? = some l := ⟨_, List.getElem?_eq_getElem (by omega)⟩
  obtain ⟨A, C, rfl, _, _⟩ := own_form (o3 j u l hu hl)
  obtain ⟨b, c, rfl, _⟩ := own_pos o1 (by omega)
  have hcell := o1.cells (g := b) rfl j _ hu
  rw [addLit, Nat.zero_add] at hcell
  exact ⟨b, c, A, _, C, rfl, hcell, h2 l (List.mem_of_getElem? hl), ⟨ls, l, h1, h2, hl, rfl⟩, h4, h5⟩
theorem MUr.toMU {w1 w3 wr : World} {base W0 : Nat} {T : Tt} {v : Value} {many : Int} {n j m : Nat} (h : MUr w1 w3 wr base W0 T v many n j m) : MU w1 w3 wr base W0 T v many n := by
  obtain ⟨⟨ls, l, h1, h2, _⟩, h4, h5⟩ := h
  exact ⟨⟨ls, h1, h2⟩, h4, h5⟩
/-- What was found, from a place on. -/
def FR (w8 wr : World) (G n : Nat) (l : List Int) (j : Nat) : Prop :=
  (∃ cs, Bk wr G 3 cs ∧ ∀ i, j ≤ i → i < n → cs[i]? = some (.int .i64 (l[i]?.getD 0))) ∧ Below w8.heap.size w8 wr ∧ w8.heap.size ≤ G
theorem FR.start {w8 w9 : World} {v : Value} {n : Nat} {l : List Int} (h : w9.ownsRow w8.heap.size 3 1 v n (its l)) (hn : 0 < n) (hb : Below w8.heap.size w8 w9) : ∃ G C, v = .slice (some ⟨G, 0, none⟩) n C ∧ FR w8 w9 G n l 0 := by
  have hl := h.1
  rw [its_len] at hl
  rcases h.2 with ⟨_, e⟩ | ⟨G, C, cs, e, h1, h2, h3, _, _, h4⟩
  · omega
  · refine ⟨G, C, e, ⟨cs, h2, fun i _ hi => ?_⟩, hb, h1⟩
    have : (cs.toList.take (n * 1))[i]? = (its l)[i]? := by rw [h4]
    rw [List.getElem?_take, if_pos (by omega), Array.getElem?_toList] at this
    rw [this]
    unfold its
    rw [List.getElem?_map, List.getElem?_eq_getElem (show i < l.length by omega)]
    rfl
theorem FR.cell {w8 wr : World} {G n : Nat} {l : List Int} {j : Nat} (h : FR w8 wr G n l j) (hj : j < n) : wr.cell? ⟨G, j, none⟩ = some (.int .i64 (l[j]?.getD 0)) ∧ wr.frozen? ⟨G, j, none⟩ = false ∧ G < wr.heap.size := by
  obtain ⟨⟨cs, h1, h2⟩, _, _⟩ := h
  exact ⟨(h1.cell j).trans (h2 j (Nat.le_refl _) hj), h1.free j, h1.lt⟩
theorem FR.next {w8 wr : World} {G n : Nat} {l : List Int} {j : Nat} (h : FR w8 wr G n l j) {w' : World} (hb : Below wr.heap.size wr w') (x : Int) : FR w8 (w'.setCell ⟨G, j, none⟩ (.int .i64 x)) G n l (j + 1) := by
  obtain ⟨⟨cs, h1, h2⟩, h3, h4⟩ := h
  refine ⟨⟨_, (h1.below hb h1.lt).set j _, fun i hi hn => ?_⟩, (h3.trans (hb.mono h3.size)).setCell h4 _, h4⟩
  rw [Array.getElem?_setIfInBounds_ne (by omega)]
  exact h2 i (by omega) hn
theorem firsts_get {ws : List (List UInt8)} {t x : List UInt8} {j : Nat} (h : ws[j]? = some x) : (firsts ws t)[j]? = some (fe x t) := by
  unfold firsts; rw [List.getElem?_map, h]; rfl
set_option maxHeartbeats 16000000 in
set_option maxRecDepth 100000 in
theorem ahoApart_walk (A : Option Addr) (n c : Nat) (ws : List (List UInt8)) (A2 : Option Addr) (n2 c2 : Nat) (la : List UInt8) (A3 : Option Addr) (n3 c3 : Nat) (lb : List UInt8) (w : World) (hr : RdRows w w.heap.size A n ws) (_hnc : n ≤ c) (hcm : c ≤ maxLen) (hr2 : Rd w w.heap.size 1 A2 n2 (bys la)) (_hnc2 : n2 ≤ c2) (_hcm2 : c2 ≤ maxLen) (hr3 : Rd w w.heap.size 1 A3 n3 (bys lb)) (_hnc3 : n3 ≤ c3) (_hcm3 : c3 ≤ maxLen) :
    Calls Try.prog 3 #[.slice A n c, .slice A2 n2 c2, .slice A3 n3 c3] w fun e w' => e = .returned (.bool true) ∧ Below w.heap.size w w' := by
  unfold maxLen at hcm
  have Hl := Lib.hid hr.len
  have Hl2 := Lib.hid hr2.blen
  have Hl3 := Lib.hid hr3.blen
  have Hr := Lib.hid hr
  have Hr2 := Lib.hid hr2
  have Hr3 := Lib.hid hr3
  clear hr hr2 hr3
  go_enter Try.func3, Try.ntmps3
  go_wp2_with fail
  refine (aho_wakes _).mono ?_
  rintro e w1 ⟨rfl, hb1⟩
  have hz1 := hb1.size
  have hlg := long_any A n c 100 ws w1 ((Hr.out.below hb1 (Nat.le_refl _)).more hz1) (by omega) (by omega)
  rcases Bool.eq_false_or_eq_true (longB ws 100) with hb | hb
  · rw [hb] at hlg
    have Hlg := Lib.hid hlg
    clear hlg hb
    go_wp2_with fail
    refine Hlg.out.mono ?_
    rintro e w2 ⟨rfl, rfl⟩
    go_wp2
    go_ret
    exact ⟨rfl, hb1⟩
  obtain ⟨hw40, hw100⟩ := longB_no hb
  rw [hb] at hlg
  have Hlg := Lib.hid hlg
  have Hw100 := Lib.hid hw100
  clear hlg hb hw100
  have hn40 : n ≤ 40 := by have := Hl.out; omega
  go_wp2_with fail
  refine Hlg.out.mono ?_
  rintro e w2 ⟨rfl, rfl⟩
  clear Hlg
  by_cases h300 : 300 < n2
  · go_wp2
    go_ret
    exact ⟨rfl, hb1⟩
  by_cases h301 : 300 < n3
  · go_wp2
    go_ret
    exact ⟨rfl, hb1⟩
  go_wp2_with fail
  go_loopw [7, 37] (fun s i wr => ∃ (j : Nat) (A7 : Option Addr) (c7 : Nat), s = .slice A7 j c7 ∧ i = .int .i64 j ∧ j ≤ n ∧ Hid (OwB wr w1.heap.size (.slice A7 j c7) j (ws.take j)) ∧ Hid (Below w1.heap.size w1 wr)) (fun _ i _ => n - (intOf i).toNat)
  case atStart => exact ⟨0, none, 0, rfl, rfl, Nat.zero_le _, Lib.hid (OwB.nil _ _), Lib.hid (Below.refl _ _)⟩
  case round =>
    obtain ⟨j, A7, c7, rfl, rfl, hj, hO, hbl⟩ := hrel
    have hzl := hbl.out.size
    by_cases hlt : j < n
    · have hb2 := hb1.trans (hbl.out.mono hz1)
      obtain ⟨bx, ox, vx, z, rfl, hbx, hzj, hcx, hrx⟩ := (Hr.out.below hb2 (Nat.le_refl _)).at_ hlt
      obtain ⟨Ax, nx, cx, rfl, hrx2, hncx⟩ := hrx
      have hzl100 : nx ≤ 100 := by have := Hw100.out z (List.mem_of_getElem? hzj); have := hrx2.blen; omega
      obtain ⟨vs, hvs, _⟩ := id hO.out
      have Hvs := Lib.hid hvs
      have Hts := Lib.hid (take_step hzj)
      have Hrx := Lib.hid (hrx2.alloc (o := .cells #[] 5) (by have := hb2.size; omega))
      have Hblen := Lib.hid hrx2.blen
      have i0 : (0 : Int) ≤ (j : Int) := by omega
      have i1 : (j : Int) < (n : Int) := by omega
      clear hvs hzj hrx2 hb2
      go_wp2_with (first
        | (at_builtin
           refine ap_bys (base := wr.heap.size) (w0 := wr) (own_lit0 wr 5) Hrx.out ((Below.refl _ _).alloc (Nat.le_refl _) _) (by simp) (by omega) (by rfl) (by rfl) (by rfl) ?_
           intro v4 w4 hown4 hb4 hg4 hat4
           obtain ⟨A4, c4, rfl, _, _⟩ := own_form hown4
           have hown4' : w4.ownsRow wr.heap.size 5 1 (.slice A4 (0 + nx) c4) z.length (bys z) := by
             rw [List.nil_append, Nat.zero_add] at hown4; rw [Hblen.out, Nat.zero_add]; exact hown4
           have hone : Rd (w4.alloc (.cells #[.slice A4 (0 + nx) c4] 23)) (w4.heap.size + 1) 1 (some ⟨w4.heap.size, 0, none⟩) 1 [.slice A4 (0 + nx) c4] := Rd.lits w4 23 #[.slice A4 (0 + nx) c4] rfl
           rw [Nat.zero_add] at hown4' hone
           have Hone := Lib.hid hone
           have Hown4 := Lib.hid hown4'
           have Hb4 := Lib.hid hb4
           have hz4 := hb4.size
           clear hone hown4 hown4' hb4 hg4 hat4)
        | (at_builtin
           refine ap_rows1 (base := w1.heap.size) (w0 := w1) (own_below Hvs.out (Hb4.out.alloc hz4 _) (Nat.le_refl _)) Hone.out (fun u hu => by rw [List.mem_singleton] at hu; subst hu; rfl) ((hbl.out.trans (Hb4.out.mono hzl)).alloc (by omega) _) (by simp; omega) (by omega) (by rfl) (by rfl) (by rfl) ?_
           intro v5 w5 hown5 hb5 hg5 hat5
           have hsn := hO.out.snoc hzl Hb4.out Hown4.out Hvs.out hown5 hg5
           rw [← Hts.out] at hsn
           obtain ⟨A5, c5, rfl, _, _⟩ := own_form hown5
           have Hsn := Lib.hid hsn
           have Hb5 := Lib.hid hb5
           clear hown5 hb5 hg5 hat5 hsn))
      go_roundw
      case rel => exact ⟨j + 1, A5, c5, rfl, by go_num, by omega, Hsn, Hb5⟩
      case measure => simp [intOf]; omega
    · obtain rfl : n = j := by omega
      have htk : ws.take n = ws := List.take_of_length_le (by rw [Hl.out]; omega)
      rw [htk] at hO
      have hnw := new_any A7 n c7 ws wr hO.out.rows (by omega)
      have Hnw := Lib.hid hnw
      have hzl2 := hzl
      obtain ⟨w2, rfl⟩ : ∃ w2 : World, w2 = wr := ⟨_, rfl⟩
      clear hnw htk
      go_wp2_with fail
      refine Hnw.out.mono ?_
      rintro e w3 ⟨hN, hb3⟩
      rcases hN with ⟨hne, rfl⟩ | ⟨he0, W0, rfl, T, hA, hF⟩
      · have hne2 : (errW ws != 0) = true := by rw [bne_iff_ne]; exact hne
        clear hne Hnw
        go_wp2
        go_ret
        exact ⟨rfl, (hb1.trans (hbl.out.mono hz1)).trans (hb3.mono (by omega))⟩
      obtain ⟨hw8, hwp, hwne⟩ := errW_zero he0
      have hz3 := hb3.size
      have hmu : MU w1 w3 w3 w2.heap.size W0 T (.slice A7 n c7) (ws.length : Int) n := ⟨⟨ws, hO.out.below hb3, Hw100.out⟩, hA, Below.refl _ _⟩
      have Hmu := Lib.hid hmu
      have HF := Lib.hid hF
      have Hwne := Lib.hid hwne
      have Hb3 := Lib.hid ((hb1.trans (hbl.out.mono hz1)).trans (hb3.mono (by omega)))
      clear hmu hF hA hwne hO Hnw hbl hb1 he0
      go_wp2_with fail
      go_loopw [57, 65] (fun i _ wr => ∃ (j : Nat), i = .int .i64 j ∧ j ≤ n ∧ Hid (MU w1 w3 wr w2.heap.size W0 T (.slice A7 n c7) (ws.length : Int) n)) (fun i _ _ => n - (intOf i).toNat)
      case atStart => exact ⟨0, rfl, Nat.zero_le _, Hmu⟩
      case round =>
        obtain ⟨j, rfl, hj, hmu⟩ := hrel
        clear Hmu
        by_cases hlt : j < n
        · obtain ⟨b, cc, Aj, m, Cj, e1, hcj, hm, hrow⟩ := hmu.out.row hlt
          injection e1 with e1 _ e2
          subst e1 e2
          have Hrow := Lib.hid hrow
          have i0 : (0 : Int) ≤ (j : Int) := by omega
          have i1 : (j : Int) < (n : Int) := by omega
          clear hrow hmu
          obtain ⟨wo, rfl⟩ : ∃ wo : World, wo = wr := ⟨_, rfl⟩
          go_wp2_with fail
          go_loopw [65] (fun i wr => ∃ (k : Nat), i = .int .i64 k ∧ k ≤ m ∧ Hid (MUr w1 w3 wr w2.heap.size W0 T (.slice (some ⟨b, 0, none⟩) n c7) (ws.length : Int) n j m)) (fun i _ => m - (intOf i).toNat)
          case atStart => exact ⟨0, rfl, Nat.zero_le _, Hrow⟩
          case round =>
            obtain ⟨k, rfl, hk, hmr⟩ := hrel
            clear Hrow hcj
            by_cases hkm : k < m
            · obtain ⟨b', c', G, C, x, e1, h1, h2, h3, h4, h5⟩ := hmr.out.step hkm
              injection e1 with e1 _ e2
              injection e1 with e1
              injection e1 with e1 _
              subst e1 e2
              obtain ⟨y, hy⟩ := u8_nat ((x.toNat : Int) + 1)
              have H5 := Lib.hid (h5 y)
              have k0 : (0 : Int) ≤ (k : Int) := by omega
              have k1 : (k : Int) < (m : Int) := by omega
              clear h5 hmr
              go_wp2_with fail
              go_roundw
              case rel => exact ⟨k + 1, by go_num, by omega, H5⟩
              case measure => simp [intOf]; omega
            · have Hmu := Lib.hid hmr.out.toMU
              clear hmr
              go_wp2_with fail
              go_roundw
              case rel => exact ⟨j + 1, by go_num, by omega, Hmu⟩
              case measure => simp [intOf]; omega
        · obtain ⟨_, hA4, hb4⟩ := hmu.out
          have hz4 := hb4.size
          have HbA := Lib.hid (Hb3.out.trans (hb4.mono hz1))
          have hsc := scan_so _ W0 T ws wr hA4 HF.out Hwne.out hw8
          have Hsc := Lib.hid hsc
          have hzz : w.heap.size ≤ wr.heap.size := by omega
          obtain ⟨w4, rfl⟩ : ∃ w4 : World, w4 = wr := ⟨_, rfl⟩
          clear hsc hA4 hb4 hmu
          go_wp2_with fail
          refine Hsc.out.mono ?_
          rintro e w5 ⟨S0, g0, rfl, hA5, hs0, hb5⟩
          have hz5 := hb5.size
          have hsc := scan_so _ W0 T ws w5 hA5 HF.out Hwne.out hw8
          have Hsc := Lib.hid hsc
          have Hs0 := Lib.hid hs0
          have Hb5 := Lib.hid (HbA.out.trans (hb5.mono hzz))
          clear hsc hA5 hs0 hb5 HbA
          go_wp2_with fail
          refine Hsc.out.mono ?_
          rintro e w6 ⟨S1, g1, rfl, hA6, hs1, hb6⟩
          have hz6 := hb6.size
          have hs0 := Hs0.out.below hb6
          have hbw6 := Hb5.out.trans (hb6.mono (by omega))
          have hpt := put_so c2 hA6 HF.out hs0 (Hr2.out.below hbw6 (Nat.le_refl _)) (by omega) (by omega) (by omega) (by simp) hw8
          simp only [List.nil_append] at hpt
          have Hpt := Lib.hid hpt
          have Hs1 := Lib.hid hs1
          have Hb6 := Lib.hid hbw6
          clear hpt hA6 hs0 hs1 hb6 hbw6 Hs0 Hsc Hb5
          go_wp2_with fail
          refine Hpt.out.mono ?_
          rintro e w7 ⟨rfl, hA7, hs0, hc7⟩
          have hz7 := hc7.size
          have hs1 := Hs1.out.apart hc7 (by omega)
          have hbw7 := Hb6.out.trans (hc7.below (B := w.heap.size) (by omega) (fun i hi => by omega))
          have hpt := put_so c3 hA7 HF.out hs1 (Hr3.out.below hbw7 (Nat.le_refl _)) (by omega) (by omega) (by omega) (by simp) hw8
          simp only [List.nil_append] at hpt
          have Hpt := Lib.hid hpt
          have Hs0 := Lib.hid hs0
          have Hb7 := Lib.hid hbw7
          clear hpt hA7 hs0 hs1 hc7 hbw7 Hs1 Hb6
          go_wp2_with fail
          refine Hpt.out.mono ?_
          rintro e w8 ⟨rfl, hA8, hs1, hc8⟩
          have hz8 := hc8.size
          have hs0 := Hs0.out.apart hc8 (by omega)
          have hbw8 := Hb7.out.trans (hc8.below (B := w.heap.size) (by omega) (fun i hi => by omega))
          have hfi := first_any W0 S0 g0 T.S ws la w8 hs0.sc hw8
          have Hfi := Lib.hid hfi
          have Hs0 := Lib.hid hs0
          have Hs1 := Lib.hid hs1
          have Hb8 := Lib.hid hbw8
          clear hfi hA8 hs0 hs1 hc8 hbw8 Hb7 Hpt
          go_wp2_with fail
          refine Hfi.out.mono ?_
          rintro e w9 ⟨v9, rfl, ho9, hb9⟩
          have hnp : 0 < n := by have := Hl.out; omega
          rw [Hl.out] at ho9
          obtain ⟨G, C9, rfl, hfr⟩ := FR.start ho9 hnp hb9
          have Hfr := Lib.hid hfr
          have hz9 := hb9.size
          clear ho9 hfr hb9 Hfi
          go_wp2_with fail
          go_loopw [93] (fun i wr => ∃ (j : Nat), i = .int .i64 j ∧ j ≤ n ∧ Hid (FR w8 wr G n (firsts ws la) j)) (fun i _ => n - (intOf i).toNat)
          case atStart => exact ⟨0, rfl, Nat.zero_le _, Hfr⟩
          case round =>
            obtain ⟨j, rfl, hj, hfr⟩ := hrel
            clear Hfr
            by_cases hlt : j < n
            · obtain ⟨cG, fG, lG⟩ := hfr.out.cell hlt
              have hb8r := hfr.out.2.1
              have hz8r := hb8r.size
              have hbwr := Hb8.out.trans (hb8r.mono (by omega))
              obtain ⟨bx, ox, vx, z, rfl, hbx, hzj, hcx, hrx⟩ := (Hr.out.below hbwr (Nat.le_refl _)).at_ hlt
              obtain ⟨Ax, nx, cx, rfl, hrx2, hncx⟩ := hrx
              have hnx : nx ≤ 100000000 := by have := Hw100.out z (List.mem_of_getElem? hzj); have := hrx2.blen; omega
              have hzw : w.heap.size ≤ wr.heap.size := hbwr.size
              rw [firsts_get hzj] at cG
              have r1 := (rfirst_any A2 Ax n2 nx c2 cx la z wr.drew ((Hr2.out.below hbwr (Nat.le_refl _)).more hzw) (hrx2.more hzw) (by omega) hnx).mono (fun e w' h => (⟨h.1, by obtain ⟨q, rfl⟩ := h.2; exact below_drewN (Below.refl _ _) q⟩ : e = .returned (.int .i64 (fe z la)) ∧ Below wr.drew.heap.size wr.drew w'))
              have r2 := fun (W : World) (hW : Below wr.drew.heap.size wr.drew W) => first_at (j := j) (y := fe z lb) (w := W) (n := n) ((Hs1.out.below hb8r |>.drewN 1 |>.below hW).sc) hw8 Hl.out (firsts_get hzj)
              have r3 := fun (W : World) (hW : Below wr.drew.heap.size wr.drew W) => (rfirst_any A3 Ax n3 nx c3 cx lb z W (((Hr3.out.below hbwr (Nat.le_refl _)).drew.below hW hzw).more (Nat.le_trans hzw hW.size)) ((hrx2.drew.below hW hzw).more (Nat.le_trans hzw hW.size)) (by omega) hnx).mono (fun e w' h => (⟨h.1, by obtain ⟨q, rfl⟩ := h.2; exact below_drewN (Below.refl _ _) q⟩ : e = .returned (.int .i64 (fe z lb)) ∧ Below W.heap.size W w'))
              have R1 := Lib.hid r1
              have R2 := Lib.hid r2
              have R3 := Lib.hid r3
              have i0 : (0 : Int) ≤ (j : Int) := by omega
              have i1 : (j : Int) < (n : Int) := by omega
              have cG' : wr.drew.cell? ⟨G, j, none⟩ = some (.int .i64 (fe z la)) := cG
              have hq1 : (fe z la != fe z la) = false := by simp
              have hq2 : (fe z lb != fe z lb) = false := by simp
              clear r1 r2 r3 hbwr hb8r hzj hrx2
              go_wp2_with fail
              go_region_with (first
                | (go_at_call 14; (with_reducible refine R1.out.mono ?_); rintro e w10 ⟨rfl, hb10⟩; have k10 := (hb10.cell (p := ⟨G, j, none⟩) lG).trans cG')
                | (go_at_call 13; (with_reducible refine (R2.out w10 hb10).mono ?_); rintro e w11 ⟨G1, C1, rfl, ⟨hc11, hg11⟩, hb11⟩; have hz10 := hb10.size; have k11 := (hb11.cell (p := ⟨G, j, none⟩) (Nat.lt_of_lt_of_le lG hz10)).trans k10)
                | (go_at_call 14; (with_reducible refine (R3.out w11 (hb10.trans (hb11.mono hz10))).mono ?_); rintro e w12 ⟨rfl, hb12⟩; have k12 := (hb12.cell (p := ⟨G1, j, none⟩) hg11).trans hc11))
              all_goals
                have hbn : Below wr.heap.size wr w12 := (Below.refl _ _).drew.trans (hb10.trans ((hb11.trans (hb12.mono hb11.size)).mono hz10))
                have f12 := (hbn.frozen (p := ⟨G, j, none⟩) lG).trans fG
                have l12 := hbn.size
                have c12 := (hbn.cell (p := ⟨G, j, none⟩) lG).trans cG'
                have Hnx := Lib.hid (hfr.out.next hbn 77)
                clear hb10 hb11 hb12 hbn R1 R2 R3 hc11 k10 k11 k12 hcx cG cG' hfr hq1 hq2
                go_wp2_with fail
                go_roundw
                case rel => exact ⟨j + 1, by go_num, by omega, Hnx⟩
                case measure => simp [intOf]; omega
            · have hbx := hfr.out.2.1
              have hzx := hbx.size
              have Hs0 := Lib.hid (Hs0.out.below hbx)
              have Hbx := Lib.hid (Hb8.out.trans (hbx.mono (by omega)))
              clear hfr Hs1 hbx
              obtain ⟨wa, rfl⟩ : ∃ wa : World, wa = wr := ⟨_, rfl⟩
              go_wp2_with fail
              go_loopw [123] (fun i wr => ∃ (j : Nat), i = .int .i64 j ∧ j ≤ n ∧ Hid (Below wa.heap.size wa wr)) (fun i _ => n - (intOf i).toNat)
              case atStart => exact ⟨0, rfl, Nat.zero_le _, Below.refl _ _⟩
              case round =>
                obtain ⟨j, rfl, hj, hbl⟩ := hrel
                have hzl := hbl.out.size
                have hbwr := Hbx.out.trans (hbl.out.mono Hbx.out.size)
                by_cases hlt : j < n
                · obtain ⟨bx, ox, vx, z, rfl, hbx, hzj, hcx, hrx⟩ := (Hr.out.below hbwr (Nat.le_refl _)).at_ hlt
                  obtain ⟨Ax, nx, cx, rfl, hrx2, hncx⟩ := hrx
                  have hnx : nx ≤ 100000000 := by have := Hw100.out z (List.mem_of_getElem? hzj); have := hrx2.blen; omega
                  have hzw : w.heap.size ≤ wr.heap.size := hbwr.size
                  have r2 := first_at (j := j) (y := fe z la) (w := wr.drew) (n := n) ((Hs0.out.below hbl.out |>.drewN 1).sc) hw8 Hl.out (firsts_get hzj)
                  have r3 := fun (W : World) (hW : Below wr.drew.heap.size wr.drew W) => (rfirst_any A2 Ax n2 nx c2 cx la z W (((Hr2.out.below hbwr (Nat.le_refl _)).drew.below hW hzw).more (Nat.le_trans hzw hW.size)) ((hrx2.drew.below hW hzw).more (Nat.le_trans hzw hW.size)) (by omega) hnx).mono (fun e w' h => (⟨h.1, by obtain ⟨q, rfl⟩ := h.2; exact below_drewN (Below.refl _ _) q⟩ : e = .returned (.int .i64 (fe z la)) ∧ Below W.heap.size W w'))
                  have R2 := Lib.hid r2
                  have R3 := Lib.hid r3
                  have i0 : (0 : Int) ≤ (j : Int) := by omega
                  have i1 : (j : Int) < (n : Int) := by omega
                  have hq1 : (fe z la != fe z la) = false := by simp
                  clear r2 r3 hbwr hzj hrx2
                  go_wp2_with fail
                  go_region_with (first
                    | (go_at_call 13; (with_reducible refine R2.out.mono ?_); rintro e w11 ⟨G1, C1, rfl, ⟨hc11, hg11⟩, hb11⟩)
                    | (go_at_call 14; (with_reducible refine (R3.out w11 hb11).mono ?_); rintro e w12 ⟨rfl, hb12⟩; have k12 := (hb12.cell (p := ⟨G1, j, none⟩) hg11).trans hc11))
                  all_goals
                    have hbn : Below wa.heap.size wa w12 := hbl.out.drew.trans ((hb11.trans (hb12.mono hb11.size)).mono hzl)
                    have Hbn := Lib.hid hbn
                    clear hb11 hb12 hbn R2 R3 hc11 k12 hcx hbl hq1
                    go_wp2_with fail
                    go_roundw
                    case rel => exact ⟨j + 1, by go_num, by omega, Hbn⟩
                    case measure => simp [intOf]; omega
                · go_wp2
                  go_ret
                  exact ⟨rfl, hbwr⟩
end Go.Proofs.Ythfpdiaobkccbaa
