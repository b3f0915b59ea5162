/- The contract of the reference's Next. -/
import Derived.Test.YtnedboomhbdecaaHufA
namespace Go.Proofs.Ytnedboomhbdecaa
open Go.RowKit
attribute [local go_sem ↓] Go.wp_at_zero Go.wp_at_succ

/-- A result of three cells, stored. -/
theorem res3 {w wr : World} {R : Nat} {t : TypeId} {u0 z0 y0 : Value} (hb : Bk wr R t #[u0, z0, y0]) {C : Nat} (hbw : Below C w wr) (hC : C ≤ R) (u z y : Value) :
    (((wr.setCell ⟨R, 0, none⟩ u).setCell ⟨R, 1, none⟩ z).setCell ⟨R, 2, none⟩ y).cell? ⟨R, 0, none⟩ = some u ∧ (((wr.setCell ⟨R, 0, none⟩ u).setCell ⟨R, 1, none⟩ z).setCell ⟨R, 2, none⟩ y).cell? ⟨R, 1, none⟩ = some z ∧
    (((wr.setCell ⟨R, 0, none⟩ u).setCell ⟨R, 1, none⟩ z).setCell ⟨R, 2, none⟩ y).cell? ⟨R, 2, none⟩ = some y ∧ Below C w (((wr.setCell ⟨R, 0, none⟩ u).setCell ⟨R, 1, none⟩ z).setCell ⟨R, 2, none⟩ y) := by
  have hs := ((hb.set 0 u).set 1 z).set 2 y
  simp only [List.setIfInBounds_toArray, List.set_cons_zero, List.set_cons_succ] at hs
  exact ⟨hs.cell 0, hs.cell 1, hs.cell 2, ((hbw.setCell (p := ⟨R, 0, none⟩) hC u).setCell (p := ⟨R, 1, none⟩) hC z).setCell (p := ⟨R, 2, none⟩) hC y⟩
/-- The state of the loop: no symbol below j is met; e tells whether one of them is opened. -/
def RNx (l bits : List Int) (j e : Nat) : Prop := (∀ t m, t < j → ¬ Met l bits t m) ∧ (e = 3 ∧ Opens l bits ∨ e = 12 ∧ ∀ t m : Nat, t < j → l[t]? = some (m : Int) → bits.length < m → ¬ bitsV bits = ((codeS l t m / 2 ^ (m - bits.length) : Nat) : Int))
set_option maxHeartbeats 4000000 in
set_option maxRecDepth 100000 in
theorem refhnext_any (A : Option Addr) (n c : Nat) (F : Int) (A2 : Option Addr) (n2 c2 : Nat) (l bits : List Int) (w : World) (hn : n = l.length) (hl : l.length ≤ 320) (hall : ∀ x ∈ l, 0 ≤ x ∧ x ≤ 15) (hov : overTo l 15 = false) (h01 : ∀ b ∈ bits, b = 0 ∨ b = 1)
    (hr : RdRI w w.heap.size A n (rowC l)) (hr2 : Rd w w.heap.size 1 A2 n2 (its bits)) (hn2 : n2 ≤ 1099511627776) :
    Calls Try.prog 45 #[.agg #[.slice A n c, .int .i64 F], .slice A2 n2 c2] w fun e w' => ∃ E s N : Nat, NX l bits E s N ∧ N ≤ 15 ∧ e = .returned (.agg #[.int .i64 s, .int .i64 N, .int .i64 E]) ∧ Below w.heap.size w w' := by
  have Hn := Lib.hid hn
  have Hall := Lib.hid hall
  have Hov := Lib.hid hov
  have H01 := Lib.hid h01
  have Hbl := Lib.hid hr2.ilen
  have hb0 : Below w.heap.size w ((w.alloc (.cells #[.slice A n c, .int .i64 F] 40)).alloc (.cells #[.int .i64 0, .int .i64 0, .int .i64 0] 66)) := ((Below.refl _ _).alloc (Nat.le_refl _) _).alloc (by simp) _
  have hbc := (Bk.new w 40 #[.slice A n c, .int .i64 F]).alloc (.cells #[.int .i64 0, .int .i64 0, .int .i64 0] 66)
  have hbr := Bk.new' (w.alloc (.cells #[.slice A n c, .int .i64 F] 40)) 66 #[.int .i64 0, .int .i64 0, .int .i64 0] (g := w.heap.size + 1) (by simp)
  have hst := Lib.hid (And.intro hb0 (And.intro hbc hbr))
  clear hn hall hov h01 hb0 hbc hbr
  go_enter Try.func45, Try.ntmps45
  go_wp2_with fail
  generalize hW0 : ((w.alloc (.cells #[.slice A n c, .int .i64 F] 40)).alloc (.cells #[.int .i64 0, .int .i64 0, .int .i64 0] 66)) = W0 at *
  clear hW0
  go_loopw [5, 6] (fun ee ss wr => ∃ j e : Nat, j ≤ n ∧ ss = .int .i64 j ∧ ee = .int .i64 e ∧ Hid (RNx l bits j e) ∧ ∃ q, wr = W0.drewN q) (fun _ ss _ => n - (intOf ss).toNat)
  case atStart => exact ⟨0, 12, Nat.zero_le _, rfl, rfl, Lib.hid ⟨fun t m h => by omega, .inr ⟨rfl, fun t m h => by omega⟩⟩, 0, rfl⟩
  case round =>
    obtain ⟨j, e, hj, rfl, rfl, hrn, q, rfl⟩ := hrel
    have c0 : W0.cell? ⟨w.heap.size, 0, none⟩ = some (.slice A n c) := hst.out.2.1.cell 0
    by_cases hlt : j < n
    · have hjl : j < l.length := by rw [← Hn.out]; exact hlt
      have hx : l[j]? = some l[j] := List.getElem?_eq_getElem hjl
      have hxb := Hall.out _ (List.getElem_mem hjl)
      generalize l[j] = x at hx hxb
      obtain ⟨b, o, Ak, mk, dk, rfl, hbb, hck, hrk, hdk⟩ := hr.at_ hlt
      have c1 : W0.cell? ⟨b, o + j, none⟩ = some (.slice Ak mk dk) := (hst.out.1.cell (p := ⟨b, o + j, none⟩) hbb).trans hck
      have e1 : (j : Int) < (n : Int) := by omega
      have e2 : (0 : Int) ≤ (j : Int) := by omega
      have hkl := hrk.ilen
      by_cases hx0 : x = 0
      · subst hx0
        rw [rowC_zero hx] at hkl
        obtain rfl : mk = 0 := hkl.symm
        have hrn' : RNx l bits (j + 1) e := by
          obtain ⟨h1, h2⟩ := hrn.out
          refine ⟨fun t m ht hM => ?_, h2.imp id (fun ⟨h3, h4⟩ => ⟨h3, fun t m ht htm hlm => ?_⟩)⟩
          · by_cases e : t = j
            · subst e; obtain ⟨h5, h6, _⟩ := hM; rw [hx] at h5; injection h5 with h5; omega
            · exact h1 t m (by omega) hM
          · by_cases e : t = j
            · subst e; rw [hx] at htm; injection htm with htm; omega
            · exact h4 t m (by omega) htm hlm
        have Hrn' := Lib.hid hrn'
        clear hrn' hrn hx hck hrk hkl hxb
        go_wp2_with fail
        go_roundw
        case rel => exact ⟨j + 1, e, by omega, by go_num, rfl, Hrn', q, rfl⟩
        case measure => simp only [intOf]; omega
      · obtain ⟨m, rfl⟩ : ∃ m : Nat, x = m := ⟨x.toNat, by omega⟩
        obtain ⟨hA, hB⟩ := row_met H01.out hx (by omega) (by omega) Hov.out
        obtain ⟨hrow, _⟩ := rowC_code hx (by omega) (by omega) Hov.out
        rw [hrow, bitsL_len] at hkl
        subst hkl
        have hbl := Hbl.out
        have e3 : ((m : Int) == 0) = false := by rw [beq_eq_false_iff_ne]; exact hx0
        have hm15 : m ≤ 15 := by omega
        have hm1 : 1 ≤ m := by omega
        have hbg := fun q => begins_any A2 n2 c2 Ak m dk bits (rowC l j) (W0.drewN q) ((hr2.below (below_drewN hst.out.1 q) (Nat.le_refl _)).more (below_drewN hst.out.1 q).size) ((hrk.below (below_drewN hst.out.1 q) (Nat.le_refl _)).more (below_drewN hst.out.1 q).size) hn2 (by omega)
        have HA := Lib.hid hA
        have HB := Lib.hid hB
        have Hx := Lib.hid hx
        cases hb : begB bits (rowC l j) with
        | false =>
          have hrn' : RNx l bits (j + 1) e := by
            obtain ⟨h1, h2⟩ := hrn.out
            refine ⟨fun t m' ht hM => ?_, h2.imp id (fun ⟨h3, h4⟩ => ⟨h3, fun t m' ht htm hlm hv => ?_⟩)⟩
            · by_cases e : t = j
              · subst e
                have h5 := hM.1
                rw [hx] at h5
                injection h5 with h5
                obtain rfl : m = m' := by omega
                have := (hA hM.2.2.1).2 hM
                rw [hb] at this; cases this
              · exact h1 t m' (by omega) hM
            · by_cases e : t = j
              · subst e
                rw [hx] at htm
                injection htm with htm
                obtain rfl : m = m' := by omega
                have := (hB hlm).2 hv
                rw [hb] at this; cases this
              · exact h4 t m' (by omega) htm hlm hv
          have Hrn' := Lib.hid hrn'
          rw [hb] at hbg
          have Hbg := Lib.hid hbg
          clear hrn' hrn hx hck hrk hxb hA hB hrow hbl hbg hb hx0 HA HB
          go_wp2_with fail
          refine (Hbg.out q).mono ?_
          rintro e' w6 ⟨rfl, q6, rfl⟩
          go_wp2_with fail
          go_roundw
          case rel => exact ⟨j + 1, e, by omega, by go_num, rfl, Hrn', _, rfl⟩
          case measure => simp only [intOf]; omega
        | true =>
          rw [hb] at hbg
          have Hbg := Lib.hid hbg
          by_cases hml : m ≤ n2
          · have hM : Met l bits j m := (hA (by rw [Hbl.out]; exact hml)).1 hb
            have HM := Lib.hid hM
            have hmi : (m : Int) ≤ (n2 : Int) := by omega
            clear hrn hx hck hrk hxb hA hB hrow hbl hbg hb hx0 HA HB hM
            go_wp2_with fail
            refine (Hbg.out q).mono ?_
            rintro e' w6 ⟨rfl, q6, rfl⟩
            clear Hbg
            have hres := res3 (hst.out.2.2.drewN (q + q6)) (below_drewN hst.out.1 (q + q6)) (Nat.le_succ _) (.int .i64 (j : Int)) (.int .i64 (m : Int)) (.int .i64 0)
            have Hres := Lib.hid hres
            have r0 : W0.cell? ⟨w.heap.size + 1, 0, none⟩ = some (.int .i64 0) := hst.out.2.2.cell 0
            have r1 : W0.cell? ⟨w.heap.size + 1, 1, none⟩ = some (.int .i64 0) := hst.out.2.2.cell 1
            have r2 : W0.cell? ⟨w.heap.size + 1, 2, none⟩ = some (.int .i64 0) := hst.out.2.2.cell 2
            have f0 := hst.out.2.2.free 0
            have f1 := hst.out.2.2.free 1
            have f2 := hst.out.2.2.free 2
            clear hres
            go_wp2_with fail
            clear r0 r1 r2 f0 f1 f2
            obtain ⟨s0, s1, s2, hbs⟩ := Hres.out
            generalize ((((W0.drewN (q + q6)).setCell ⟨w.heap.size + 1, 0, none⟩ (.int .i64 (j : Int))).setCell ⟨w.heap.size + 1, 1, none⟩ (.int .i64 (m : Int))).setCell ⟨w.heap.size + 1, 2, none⟩ (.int .i64 0)) = W' at *
            change bodyPost _ _ _ _ _ _
            exact bodyPost_ret (v := .agg #[.int .i64 (j : Int), .int .i64 (m : Int), .int .i64 0]) (by simp [results, Try.results45, go_sem, s0, s1, s2]) rfl ⟨0, j, m, .inl ⟨rfl, HM.out⟩, hm15, rfl, hbs⟩
          · have hop : Opens l bits := ⟨j, m, hx, by rw [Hbl.out]; omega, (hB (by rw [Hbl.out]; omega)).1 hb⟩
            have hrn' : RNx l bits (j + 1) 3 := by
              obtain ⟨h1, _⟩ := hrn.out
              refine ⟨fun t m' ht hM => ?_, .inl ⟨rfl, hop⟩⟩
              by_cases e : t = j
              · subst e
                have h5 := hM.1
                rw [hx] at h5
                injection h5 with h5
                have h6 := hM.2.2.1
                rw [Hbl.out] at h6
                omega
              · exact h1 t m' (by omega) hM
            have Hrn' := Lib.hid hrn'
            have hmi : ¬ (m : Int) ≤ (n2 : Int) := by omega
            clear hrn hx hck hrk hxb hA hB hrow hbl hbg hb hx0 HA HB hop hrn'
            go_wp2_with fail
            refine (Hbg.out q).mono ?_
            rintro e' w6 ⟨rfl, q6, rfl⟩
            clear Hbg
            go_wp2_with fail
            go_roundw
            case rel => exact ⟨j + 1, 3, by omega, by go_num, rfl, Hrn', _, rfl⟩
            case measure => simp only [intOf]; omega
    · obtain rfl : j = n := by omega
      have hnx : NX l bits e 0 0 := by
        obtain ⟨h1, h2⟩ := hrn.out
        have out : ∀ t (m : Nat), l[t]? = some (m : Int) → t < j := fun t m ht => by
          rw [Hn.out]
          rcases Nat.lt_or_ge t l.length with h | h
          · exact h
          · rw [List.getElem?_eq_none h] at ht; cases ht
        have hm : ∀ t m, ¬ Met l bits t m := fun t m hM => h1 t m (out t m hM.1) hM
        rcases h2 with ⟨rfl, h⟩ | ⟨rfl, h⟩
        · exact .inr (.inl ⟨rfl, rfl, hm, h⟩)
        · exact .inr (.inr ⟨rfl, rfl, hm, fun ⟨t, m, a, b, c⟩ => h t m (out t m a) a b c⟩)
      have Hnx := Lib.hid hnx
      clear hnx hrn
      have hres := res3 (hst.out.2.2.drewN q) (below_drewN hst.out.1 q) (Nat.le_succ _) (.int .i64 0) (.int .i64 0) (.int .i64 (e : Int))
      have Hres := Lib.hid hres
      have r0 : W0.cell? ⟨w.heap.size + 1, 0, none⟩ = some (.int .i64 0) := hst.out.2.2.cell 0
      have r1 : W0.cell? ⟨w.heap.size + 1, 1, none⟩ = some (.int .i64 0) := hst.out.2.2.cell 1
      have r2 : W0.cell? ⟨w.heap.size + 1, 2, none⟩ = some (.int .i64 0) := hst.out.2.2.cell 2
      have f0 := hst.out.2.2.free 0
      have f1 := hst.out.2.2.free 1
      have f2 := hst.out.2.2.free 2
      clear hres
      go_wp2_with fail
      clear r0 r1 r2 f0 f1 f2
      obtain ⟨s0, s1, s2, hbs⟩ := Hres.out
      generalize ((((W0.drewN q).setCell ⟨w.heap.size + 1, 0, none⟩ (.int .i64 0)).setCell ⟨w.heap.size + 1, 1, none⟩ (.int .i64 0)).setCell ⟨w.heap.size + 1, 2, none⟩ (.int .i64 (e : Int))) = W' at *
      change bodyPost _ _ _ _ _ _
      exact bodyPost_ret (v := .agg #[.int .i64 0, .int .i64 0, .int .i64 (e : Int)]) (by simp [results, Try.results45, go_sem, s0, s1, s2]) rfl ⟨e, 0, 0, Hnx.out, by omega, rfl, hbs⟩
end Go.Proofs.Ytnedboomhbdecaa
