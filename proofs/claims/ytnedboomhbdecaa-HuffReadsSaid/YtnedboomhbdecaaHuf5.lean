/- The contract of the reference's New of codes. -/
import Derived.Test.YtnedboomhbdecaaHuf4
namespace Go.Proofs.Ytnedboomhbdecaa
open Go.RowKit
attribute [local go_sem ↓] Go.wp_at_zero Go.wp_at_succ

theorem infoR : (Try.prog.info? 32).map (fun i => (i.zero, i.size, i.bytes)) = some (some (.slice none 0 0), 1, 24) := by kernel_rfl
/-- make([][]int, n). -/
theorem mk_rows (n : Nat) (x y : Int) (hx : x = n) (hy : y = n) (hn : n ≤ 1000000) (w : World) :
    (Instr.makeSlice 38 (.int .i64 x) (.int .i64 y)).run Try.prog w = .ok (.slice (some ⟨w.heap.size, 0, none⟩) n n) (w.alloc (.cells (Array.replicate n (Value.slice none 0 0)) 32)) := by
  subst hx hy
  have : madeCells #[Value.slice none 0 0] n = Array.replicate n (Value.slice none 0 0) := by
    apply Array.ext'
    rw [toList_madeCells_one]
    simp
  rw [← this]
  exact run_make_row' (P := Try.prog) 38 32 (.slice none 0 0) 24 Try.underlying38 infoR rfl .i64 .i64 n (by omega) (by omega) w
/-- A value that is a slice of these ints. -/
def RdI (w : World) (B : Nat) (v : Value) (l : List Int) : Prop := ∃ A n c, v = .slice A n c ∧ Rd w B 1 A n (its l) ∧ n ≤ c
theorem RdI.below {w w' : World} {B C : Nat} {v : Value} {l : List Int} (h : RdI w B v l) (hb : Below C w w') (hC : B ≤ C) : RdI w' B v l := by
  obtain ⟨A, n, c, e, h1, h2⟩ := h; exact ⟨A, n, c, e, h1.below hb hC, h2⟩
theorem RdI.more {w : World} {B B' : Nat} {v : Value} {l : List Int} (h : RdI w B v l) (hB : B ≤ B') : RdI w B' v l := by
  obtain ⟨A, n, c, e, h1, h2⟩ := h; exact ⟨A, n, c, e, h1.more hB, h2⟩
/-- The slice reads as the rows f 0, f 1, .. -/
def RdRI (w : World) (B : Nat) (A : Option Addr) (n : Nat) (f : Nat → List Int) : Prop := ∃ vs : List Value, Rd w B 1 A n vs ∧ ∀ i v, vs[i]? = some v → RdI w B v (f i)
theorem RdRI.below {w w' : World} {B C n : Nat} {A : Option Addr} {f : Nat → List Int} (h : RdRI w B A n f) (hb : Below C w w') (hC : B ≤ C) : RdRI w' B A n f := by
  obtain ⟨vs, h1, h2⟩ := h; exact ⟨vs, h1.below hb hC, fun i v hv => (h2 i v hv).below hb hC⟩
theorem RdRI.more {w : World} {B B' n : Nat} {A : Option Addr} {f : Nat → List Int} (h : RdRI w B A n f) (hB : B ≤ B') : RdRI w B' A n f := by
  obtain ⟨vs, h1, h2⟩ := h; exact ⟨vs, h1.more hB, fun i v hv => (h2 i v hv).more hB⟩
theorem RdRI.at_ {w : World} {B n : Nat} {A : Option Addr} {f : Nat → List Int} (h : RdRI w B A n f) {k : Nat} (hk : k < n) : ∃ b o Ak m d, A = some ⟨b, o, none⟩ ∧ b < B ∧ w.cell? ⟨b, o + k, none⟩ = some (.slice Ak m d) ∧ Rd w B 1 Ak m (its (f k)) ∧ m ≤ d := by
  obtain ⟨vs, h1, h2⟩ := h
  obtain ⟨b, o, u, hA, hb, hx, hc⟩ := h1.at_ hk
  obtain ⟨Ak, m, d, rfl, hr, hd⟩ := h2 k u hx
  exact ⟨b, o, Ak, m, d, hA, hb, hc, hr, hd⟩
/-- The loops' state. -/
def RS (w : World) (l : List Int) (R LB G n q s : Nat) (wr : World) : Prop :=
  ∃ vs : List Value, vs.length = n ∧ Bk wr LB 32 vs.toArray ∧ (∀ i v, vs[i]? = some v → wr.ownsRow (G + 1) 3 1 v (doneRow l q s i).length (its (doneRow l q s i))) ∧ Bk wr G 40 #[.slice (some ⟨LB, 0, none⟩) n n, .int .i64 1] ∧
    Bk wr R 40 #[.slice none 0 0, .int .i64 0] ∧ Below R w wr ∧ R < LB ∧ LB < G
theorem RS.step_no {w wr : World} {l : List Int} {R LB G n q s : Nat} (h : RS w l R LB G n q s wr) (hx : l[s]? ≠ some (q : Int)) : RS w l R LB G n q (s + 1) wr := by
  obtain ⟨vs, h1, h2, h3, h4⟩ := h
  exact ⟨vs, h1, h2, fun i v hv => by rw [doneRow_far l q s i ((Decidable.em (i = s)).elim (fun e => .inr (by rw [e]; exact hx)) .inl)]; exact h3 i v hv, h4⟩
theorem RS.step_yes {w wr w3 : World} {l : List Int} {R LB G n q s : Nat} {v3 : Value} (h : RS w l R LB G n q s wr) (hq : 1 ≤ q) (hx : l[s]? = some (q : Int)) (hs : s < n) (hb3 : Below wr.heap.size wr w3)
    (ho : w3.ownsRow wr.heap.size 3 1 v3 q (its (bitsL q ((codeS l s q : Int) % 32768)))) : RS w l R LB G n q (s + 1) (w3.setCell ⟨LB, s, none⟩ v3) := by
  obtain ⟨vs, h1, h2, h3, h4, h5, h6, h7, h8⟩ := h
  have hG := h4.lt
  have hset := (h2.below hb3 h2.lt).set s v3
  simp only [List.setIfInBounds_toArray] at hset
  refine ⟨vs.set s v3, by rw [List.length_set]; exact h1, hset, fun i v hv => ?_, (h4.below hb3 h4.lt).far (p := ⟨LB, s, none⟩) (by simp; omega) _, (h5.below hb3 h5.lt).far (p := ⟨LB, s, none⟩) (by simp; omega) _,
    (h6.trans (hb3.mono (by omega))).setCell (p := ⟨LB, s, none⟩) (by simp; omega) _, h7, h8⟩
  have hgb := gb_set (World.grownBy.refl w3 (some LB)) s v3
  by_cases e : i = s
  · subst e
    rw [List.getElem?_set_self (by omega)] at hv
    injection hv with hv
    subst hv
    rw [doneRow_here l q i hq hx, bitsL_len]
    exact own_apart (own_base ho (by omega)) hgb (fun k hk => by injection hk with hk; omega)
  · rw [List.getElem?_set_ne (fun e2 => e e2.symm)] at hv
    rw [doneRow_far l q s i (.inl e)]
    exact own_apart (own_below (h3 i v hv) hb3 (Nat.le_refl _)) hgb (fun k hk => by injection hk with hk; omega)
theorem RS.drew {w wr : World} {l : List Int} {R LB G n q s : Nat} (h : RS w l R LB G n q s wr) : RS w l R LB G n q s wr.drew := by
  obtain ⟨vs, h1, h2, h3, h4, h5, h6, h7⟩ := h
  exact ⟨vs, h1, h2.drew, fun i v hv => own_drewN (h3 i v hv) 1, h4.drew, h5.drew, h6.drew, h7⟩
theorem RS.next {w wr : World} {l : List Int} {R LB G n q : Nat} (h : RS w l R LB G n q n wr) (hn : n = l.length) : RS w l R LB G n (q + 1) 0 wr := by
  obtain ⟨vs, h1, h2, h3, h4⟩ := h
  exact ⟨vs, h1, h2, fun i v hv => by rw [doneRow_next, ← hn]; exact h3 i v hv, h4⟩
/-- What the reference's New returns. -/
def RNew (l : List Int) (e : Ending) (w' : World) : Prop :=
  (overTo l 15 = true ∧ ∃ v, e = .returned (.agg #[v, .int .i64 2]) ∧ ∃ A n c, v = .slice A n c) ∨ (overTo l 15 = false ∧ ∃ A n c, e = .returned (.agg #[.slice A n c, .int .i64 (fillN l)]) ∧ n = l.length ∧ n ≤ c ∧ RdRI w' w'.heap.size A n (rowC l))
/-- A result of two cells, stored. -/
theorem res2 {w wr : World} {R : Nat} {t : TypeId} {u0 z0 : Value} (hb : Bk wr R t #[u0, z0]) (hbw : Below R w wr) (u z : Value) :
    ((wr.setCell ⟨R, 0, none⟩ u).setCell ⟨R, 1, none⟩ z).cell? ⟨R, 0, none⟩ = some u ∧ ((wr.setCell ⟨R, 0, none⟩ u).setCell ⟨R, 1, none⟩ z).cell? ⟨R, 1, none⟩ = some z ∧
    Below R w ((wr.setCell ⟨R, 0, none⟩ u).setCell ⟨R, 1, none⟩ z) := by
  have hs := (hb.set 0 u).set 1 z
  simp only [List.setIfInBounds_toArray, List.set_cons_zero, List.set_cons_succ] at hs
  exact ⟨hs.cell 0, hs.cell 1, (hbw.setCell (p := ⟨R, 0, none⟩) (Nat.le_refl _) u).setCell (p := ⟨R, 1, none⟩) (Nat.le_refl _) z⟩
set_option maxHeartbeats 4000000 in
set_option maxRecDepth 100000 in
theorem refhnew_any (A : Option Addr) (n c : Nat) (l : List Int) (w : World) (hr : Rd w w.heap.size 1 A n (its l)) (hn : n ≤ 320) :
    Calls Try.prog 25 #[.slice A n c] w fun e w' => RNew l e w' ∧ Below w.heap.size w w' := by
  have Hl := Lib.hid hr.ilen
  have hmk := mk_rows n n n rfl rfl (by omega)
  have hst : RS w l w.heap.size (w.heap.size + 1) (w.heap.size + 2) n 1 0 (((w.alloc (.cells #[.slice none 0 0, .int .i64 0] 40)).alloc (.cells (Array.replicate n (Value.slice none 0 0)) 32)).alloc (.cells #[.slice (some ⟨w.heap.size + 1, 0, none⟩) n n, .int .i64 1] 40)) := by
    refine ⟨List.replicate n (.slice none 0 0), by simp, (by rw [List.toArray_replicate]; exact (Bk.new' _ _ _ (by simp)).alloc _), fun i v hv => ?_, Bk.new' _ _ _ (by simp), ((Bk.new w _ _).alloc _).alloc _, (((Below.refl _ _).alloc (Nat.le_refl _) _).alloc (by simp) _).alloc (by simp; omega) _, by omega, by omega⟩
    have : v = .slice none 0 0 := by
      have := List.mem_of_getElem? hv
      exact (List.mem_replicate.1 this).2
    rw [this, doneRow_start]
    exact World.ownsRow_nil _ _ _ _
  have Hst := Lib.hid hst
  clear hst
  go_enter Try.func25, Try.ntmps25
  go_wp2_with fail
  clear hmk
  generalize hW0 : (((w.alloc (.cells #[.slice none 0 0, .int .i64 0] 40)).alloc (.cells (Array.replicate n (Value.slice none 0 0)) 32)).alloc (.cells #[.slice (some ⟨w.heap.size + 1, 0, none⟩) n n, .int .i64 1] 40)) = W0 at *
  clear hW0
  generalize hR : w.heap.size = R at *
  have HR := Lib.hid hR
  clear hR
  go_loopw [4, 5] (fun ne qq wr => ∃ q e : Nat, 1 ≤ q ∧ q ≤ 16 ∧ qq = .int .i64 q ∧ ne = .int .i64 e ∧ e ≤ 32768 ∧ Hid (e = endC l (q - 1)) ∧ Hid (overTo l (q - 1) = false) ∧ RS w l R (R + 1) (R + 2) n q 0 wr) (fun _ qq _ => 16 - (intOf qq).toNat)
  case atStart => exact ⟨1, 0, by omega, by omega, rfl, rfl, by omega, rfl, rfl, Hst.out⟩
  case round =>
    obtain ⟨q, e, hq1, hq16, rfl, rfl, hee, he, hov, hrs⟩ := hrel
    clear Hst
    by_cases hlt : q < 16
    · have hfq : firstC l q = 2 * endC l (q - 1) := by
        obtain ⟨p, rfl⟩ : ∃ p, q = p + 1 := ⟨q - 1, by omega⟩
        rfl
      have heq : endC l q = 2 * endC l (q - 1) + cnt l (q : Int) := by
        obtain ⟨p, rfl⟩ : ∃ p, q = p + 1 := ⟨q - 1, by omega⟩
        have := endC_first l p
        rw [show ((p + 1 : Nat) : Int) = (p : Int) + 1 by omega]
        exact this
      have hovq : overTo l q = (overTo l (q - 1) || decide (2 ^ q < endC l q)) := by
        obtain ⟨p, rfl⟩ : ∃ p, q = p + 1 := ⟨q - 1, by omega⟩
        rfl
      rw [← he.out] at hfq heq
      rw [hov.out, Bool.false_or, heq] at hovq
      have Hfq := Lib.hid hfq
      have Heq := Lib.hid heq
      have Hov := Lib.hid hovq
      have Hrs := Lib.hid hrs
      have e3 : (q : Int) ≤ 15 := by omega
      clear hfq heq hovq hrs
      go_wp2_with fail
      obtain ⟨wo, rfl⟩ : ∃ wo : World, wo = wr := ⟨_, rfl⟩
      go_loopw [4, 6] (fun ne ss wr => ∃ s d : Nat, s ≤ n ∧ ss = .int .i64 s ∧ ne = .int .i64 d ∧ d ≤ 66000 ∧ Hid (d = 2 * e + cntTo l (q : Int) s) ∧ RS w l R (R + 1) (R + 2) n q s wr) (fun _ ss _ => n - (intOf ss).toNat)
      case atStart => exact ⟨0, 2 * e, Nat.zero_le _, rfl, by go_num, by omega, Lib.hid rfl, Hrs.out⟩
      case round =>
        obtain ⟨s, d, hs, rfl, rfl, hdd, hd, hrs⟩ := hrel
        clear Hrs
        by_cases hsn : s < n
        · have hbw : Below R w wr := by obtain ⟨_, _, _, _, _, _, h, _⟩ := hrs; exact h
          obtain ⟨b, o, x, rfl, hbb, hx, hcx⟩ := (hr.below hbw (Nat.le_refl _)).num hsn
          by_cases hxq : x = (q : Int)
          · subst hxq
            have hcode : (d : Int) = (codeS l s q : Int) := by unfold codeS; rw [Hfq.out, hd.out]
            have hcn := cntTo_yes hx
            have hrs0 := hrs
            obtain ⟨vs, hv1, hv2, hv3, hv4, _⟩ := hrs0
            have c0 : wr.cell? ⟨R + 2, 0, none⟩ = some (.slice (some ⟨R + 1, 0, none⟩) n n) := hv4.cell 0
            have hF : ∀ w3, Below wr.heap.size wr.drew w3 → w3.cell? ⟨R + 2, 0, none⟩ = some (.slice (some ⟨R + 1, 0, none⟩) n n) ∧ (∃ u, w3.cell? ⟨R + 1, s, none⟩ = some u) ∧ w3.frozen? ⟨R + 1, s, none⟩ = false ∧ ∀ u, (w3.setCell ⟨R + 1, s, none⟩ u).cell? ⟨R + 2, 0, none⟩ = some (.slice (some ⟨R + 1, 0, none⟩) n n) := by
              intro w3 hb
              have h4 := hv4.drew.below hb hv4.lt
              have h2 := hv2.drew.below hb hv2.lt
              exact ⟨h4.cell 0, ⟨vs[s]'(by omega), by rw [h2.cell]; simp⟩, h2.free s, fun u => (h4.far (p := ⟨R + 1, s, none⟩) (by simp) u).cell 0⟩
            have hG : ∀ w3 A3 c3, Below wr.heap.size wr.drew w3 → w3.ownsRow wr.heap.size 3 1 (.slice A3 q c3) q (its (bitsL q ((d : Int) % 32768))) → RS w l R (R + 1) (R + 2) n q (s + 1) (w3.setCell ⟨R + 1, s, none⟩ (.slice A3 q c3)) := by
              intro w3 A3 c3 hb ho
              rw [hcode] at ho
              exact RS.step_yes (wr := wr.drew) hrs.drew hq1 hx hsn hb ho
            have hd' : d + 1 = 2 * e + cntTo l (q : Int) (s + 1) := by rw [hcn, hd.out]; omega
            have hdle : d + 1 ≤ 66000 := by rw [hd']; have := cntTo_le l (q : Int) (s + 1); omega
            have HF := Lib.hid hF
            have HGG := Lib.hid hG
            have Hd' := Lib.hid hd'
            have hqq : ((q : Int) == (q : Int)) = true := by simp
            have a0 : (0 : Int) ≤ (d : Int) := by omega
            have a1 : ((d : Int)).tmod 32768 = (d : Int) % 32768 := Int.tmod_eq_emod_of_nonneg (by omega)
            have a2 : IntKind.i64.wrap ((d : Int) % 32768) = (d : Int) % 32768 := IntWalk.i64_in _ (by omega)
            have a3 : (0 : Int) ≤ (s : Int) := by omega
            have a4 : (s : Int) < (n : Int) := by omega
            clear hx hcn hv1 hv2 hv3 hv4 hF hG hd' hcode hd
            go_wp2_with fail
            go_region_held3 (fun w' => w'.cell? ⟨R + 2, 0, none⟩ = some (.slice (some ⟨R + 1, 0, none⟩) n n)) (first | (exact c0) | (exact k4 _) | (exact k1) | go_keep)
              (first
                | ((go_at_call 56; (with_reducible refine (bitsOf_any q ((d : Int) % 32768) wr.drew (by omega) (by omega) (by omega)).mono ?_); rintro e w3 ⟨v3, rfl, hown3, hb3⟩; obtain ⟨k1, ⟨u3, k2⟩, k3, k4⟩ := HF.out w3 hb3; obtain ⟨A3, c3, rfl, _, _⟩ := own_form hown3)))
            have hrs' := HGG.out w3 A3 c3 hb3 hown3
            clear HF HGG hown3 hb3 k1 k2 k3 k4 c0 a0 a1 a2 a3 a4
            go_wp2_with fail
            go_roundw
            case rel => exact ⟨s + 1, d + 1, by omega, by go_num, by go_num, hdle, Hd', hrs'⟩
            case measure => simp [intOf]; omega
          · have hne : (x == (q : Int)) = false := by rw [beq_eq_false_iff_ne]; exact hxq
            have hxn : l[s]? ≠ some (q : Int) := by rw [hx]; intro h; injection h with h; exact hxq h
            have hcn := cntTo_no hxn
            have hrs' := hrs.step_no hxn
            have hd' := hd.out
            rw [← hcn] at hd'
            have Hrs' := Lib.hid hrs'
            have Hd' := Lib.hid hd'
            clear hx hxn hcn hrs' hrs hd' hxq
            go_wp2_with fail
            go_roundw
            case rel => exact ⟨s + 1, d, by omega, by go_num, rfl, hdd, Hd', Hrs'.out⟩
            case measure => simp [intOf]; omega
        · have : s = n := by omega
          subst this
          have hrs2 := hrs.next Hl.out.symm
          have hbw : Below R w wr := by obtain ⟨_, _, _, _, _, _, h, _⟩ := hrs; exact h
          have hd2 : d = endC l q := by rw [hd.out, Heq.out]; unfold cnt; rw [Hl.out]
          have hov2 : overTo l q = decide (2 ^ q < d) := by rw [Hov.out, hd.out]; unfold cnt; rw [Hl.out]
          have hpb : 2 ^ q ≤ 32768 := Nat.pow_le_pow_right (show 0 < 2 by omega) (show q ≤ 15 by omega)
          have Hd2 := Lib.hid hd2
          have Hov2 := Lib.hid hov2
          have Hrs2 := Lib.hid hrs2
          have hpw := pow_any q wr (by omega)
          obtain ⟨vs, hv1, hv2, hv3, hv4, hv5, _⟩ := hrs
          clear hd2 hov2 hrs2 hv1 hv2 hv3 hd
          by_cases hgt : 2 ^ q < d
          · generalize 2 ^ q = P at *
            have hov3 : overTo l q = true := by rw [Hov2.out]; exact decide_eq_true hgt
            have Hov3 := Lib.hid (over_up (show q ≤ 15 by omega) hov3)
            have hgi : (P : Int) < (d : Int) := by omega
            have f1 := hv4.free 1
            have c1 : wr.cell? ⟨R + 2, 1, none⟩ = some (.int .i64 1) := hv4.cell 1
            have hG := hv4.set 1 (.int .i64 2)
            simp only [List.setIfInBounds_toArray, List.set_cons_zero, List.set_cons_succ] at hG
            have hR := hv5.far (p := ⟨R + 2, 1, none⟩) (by simp) (.int .i64 2)
            have hbe := hbw.setCell (p := ⟨R + 2, 1, none⟩) (by simp) (.int .i64 2)
            have hres := res2 hR hbe (.slice (some ⟨R + 1, 0, none⟩) s s) (.int .i64 2)
            have Hres := Lib.hid hres
            have c0 : wr.cell? ⟨R + 2, 0, none⟩ = some (.slice (some ⟨R + 1, 0, none⟩) s s) := hv4.cell 0
            have r0 : wr.cell? ⟨R, 0, none⟩ = some (.slice none 0 0) := hv5.cell 0
            have r1 : wr.cell? ⟨R, 1, none⟩ = some (.int .i64 0) := hv5.cell 1
            have f2 := hv5.free 0
            have f3 := hv5.free 1
            clear hov3 hG hR hbe hres hv4 hv5
            go_wp2_with fail
            refine hpw.mono ?_
            rintro e w5 ⟨rfl, rfl⟩
            go_wp2_with fail
            clear f1 c1 c0 r0 r1 f2 f3
            obtain ⟨s0, s1, hbs⟩ := Hres.out
            generalize (((w5.setCell ⟨R + 2, 1, none⟩ (.int .i64 2)).setCell ⟨R, 0, none⟩ (.slice (some ⟨R + 1, 0, none⟩) s s)).setCell ⟨R, 1, none⟩ (.int .i64 2)) = W' at *
            change bodyPost _ _ _ _ _ _
            exact bodyPost_ret (v := .agg #[.slice (some ⟨R + 1, 0, none⟩) s s, .int .i64 2]) (by simp [results, Try.results25, go_sem, s0, s1]) rfl ⟨.inl ⟨Hov3.out, _, rfl, _, _, _, rfl⟩, by rw [HR.out]; exact hbs⟩
          · generalize 2 ^ q = P at *
            have hov3 : overTo l q = false := by rw [Hov2.out]; exact decide_eq_false hgt
            have Hov3 := Lib.hid hov3
            have hgi : ¬ (P : Int) < (d : Int) := by omega
            clear hov3 hv4 hv5
            go_wp2_with fail
            refine hpw.mono ?_
            rintro e w5 ⟨rfl, rfl⟩
            go_wp2_with fail
            go_roundw
            case rel => exact ⟨q + 1, d, by omega, by omega, by go_num, rfl, by omega, Hd2, Hov3, Hrs2.out⟩
            case measure => simp [intOf]; omega
    · have : q = 16 := by omega
      subst this
      have hov15 : overTo l 15 = false := hov.out
      have he15 : e = endC l 15 := he.out
      have hbw : Below R w wr := by obtain ⟨_, _, _, _, _, _, h, _⟩ := hrs; exact h
      obtain ⟨vs, hv1, hv2, hv3, hv4, hv5, _, hRL, hLG⟩ := hrs
      have hread : ∀ W : World, Below R w W → (∀ k, k < wr.heap.size → k ≠ R → k ≠ R + 2 → W.heap[k]? = wr.heap[k]?) → wr.heap.size ≤ W.heap.size → RdRI W W.heap.size (some ⟨R + 1, 0, none⟩) n (rowC l) := by
        intro W hbW hsame hsz
        have hbk2 : Bk W (R + 1) 32 vs.toArray := (hsame _ hv2.lt (by omega) (by omega)).trans hv2
        refine ⟨vs, ⟨by rw [hv1]; omega, fun _ => ⟨R + 1, 0, rfl, hbk2.lt, fun j u hj => ?_⟩⟩, fun i v hv => ?_⟩
        · rw [Nat.zero_add, hbk2.cell]
          simpa using hj
        · have ho := hv3 i v hv
          obtain ⟨A', c', rfl, hc', _⟩ := own_form ho
          refine ⟨A', _, c', rfl, ?_, hc'⟩
          have hrd := Rd.of_own ho
          refine ⟨hrd.1, fun hp => ?_⟩
          obtain ⟨g', cc, hv', hb', hlt', _⟩ := own_pos ho hp
          injection hv' with hA'
          subst hA'
          obtain ⟨b2, o2, hA2, hb2, hc2⟩ := hrd.2 hp
          injection hA2 with hA2
          injection hA2 with h1 h2
          subst h1 h2
          refine ⟨_, _, rfl, by omega, fun j u hj => ?_⟩
          rw [← hc2 j u hj]
          exact World.cell?_of_block (hsame g' hlt' (by omega) (by omega))
      have Hread := Lib.hid hread
      have Hov15 := Lib.hid hov15
      have He15 := Lib.hid he15
      clear hread hov15 he15 hv1 hv2 hv3 he hov
      by_cases hw : e = 32768
      · have hwb : ((e : Int) == 32768) = true := by rw [hw]; rfl
        have hfill : fillN l = 0 := by unfold fillN; rw [if_pos (by rw [← He15.out]; exact hw)]
        have f1 := hv4.free 1
        have c1 : wr.cell? ⟨R + 2, 1, none⟩ = some (.int .i64 1) := hv4.cell 1
        have hR := hv5.far (p := ⟨R + 2, 1, none⟩) (by simp) (.int .i64 0)
        have hbe := hbw.setCell (p := ⟨R + 2, 1, none⟩) (by simp) (.int .i64 0)
        have c0 : wr.cell? ⟨R + 2, 0, none⟩ = some (.slice (some ⟨R + 1, 0, none⟩) n n) := hv4.cell 0
        have r0 : wr.cell? ⟨R, 0, none⟩ = some (.slice none 0 0) := hv5.cell 0
        have r1 : wr.cell? ⟨R, 1, none⟩ = some (.int .i64 0) := hv5.cell 1
        have f2 := hv5.free 0
        have f3 := hv5.free 1
        have hres := res2 hR hbe (.slice (some ⟨R + 1, 0, none⟩) n n) (.int .i64 0)
        have hrd := Hread.out _ hres.2.2 (fun k hk h1 h2 => by
          rw [Below.heap_setCell _ _ _ _ (by simpa using h1), Below.heap_setCell _ _ _ _ (by simpa using h1)]
          exact Below.heap_setCell _ _ _ _ (by simpa using h2)) (by simp [World.setCell])
        have Hrd := Lib.hid hrd
        have Hres := Lib.hid hres
        have Hfill := Lib.hid hfill
        clear hR hbe hres hv4 hv5 hrd hfill hw
        go_wp2_with fail
        clear c1 c0 r0 r1 f2 f3
        obtain ⟨s0, s1, hbs⟩ := Hres.out
        generalize (((wr.setCell ⟨R + 2, 1, none⟩ (.int .i64 0)).setCell ⟨R, 0, none⟩ (.slice (some ⟨R + 1, 0, none⟩) n n)).setCell ⟨R, 1, none⟩ (.int .i64 0)) = W' at *
        change bodyPost _ _ _ _ _ _
        exact bodyPost_ret (v := .agg #[.slice (some ⟨R + 1, 0, none⟩) n n, .int .i64 0]) (by simp [results, Try.results25, go_sem, s0, s1]) rfl ⟨.inr ⟨Hov15.out, _, _, _, by rw [Hfill.out], Hl.out.symm, Nat.le_refl _, Hrd.out⟩, by rw [HR.out]; exact hbs⟩
      · have hwb : ((e : Int) == 32768) = false := by rw [beq_eq_false_iff_ne]; omega
        have hfill : fillN l = 1 := by unfold fillN; rw [if_neg (by rw [← He15.out]; exact hw)]
        have c1 : wr.cell? ⟨R + 2, 1, none⟩ = some (.int .i64 1) := hv4.cell 1
        have hR := hv5
        have hbe := hbw
        have c0 : wr.cell? ⟨R + 2, 0, none⟩ = some (.slice (some ⟨R + 1, 0, none⟩) n n) := hv4.cell 0
        have r0 : wr.cell? ⟨R, 0, none⟩ = some (.slice none 0 0) := hv5.cell 0
        have r1 : wr.cell? ⟨R, 1, none⟩ = some (.int .i64 0) := hv5.cell 1
        have f2 := hv5.free 0
        have f3 := hv5.free 1
        have hres := res2 hR hbe (.slice (some ⟨R + 1, 0, none⟩) n n) (.int .i64 1)
        have hrd := Hread.out _ hres.2.2 (fun k hk h1 h2 => by
          rw [Below.heap_setCell _ _ _ _ (by simpa using h1), Below.heap_setCell _ _ _ _ (by simpa using h1)]) (by simp [World.setCell])
        have Hrd := Lib.hid hrd
        have Hres := Lib.hid hres
        have Hfill := Lib.hid hfill
        clear hR hbe hres hv4 hv5 hrd hfill hw
        go_wp2_with fail
        clear c1 c0 r0 r1 f2 f3
        obtain ⟨s0, s1, hbs⟩ := Hres.out
        generalize ((wr.setCell ⟨R, 0, none⟩ (.slice (some ⟨R + 1, 0, none⟩) n n)).setCell ⟨R, 1, none⟩ (.int .i64 1)) = W' at *
        change bodyPost _ _ _ _ _ _
        exact bodyPost_ret (v := .agg #[.slice (some ⟨R + 1, 0, none⟩) n n, .int .i64 1]) (by simp [results, Try.results25, go_sem, s0, s1]) rfl ⟨.inr ⟨Hov15.out, _, _, _, by rw [Hfill.out], Hl.out.symm, Nat.le_refl _, Hrd.out⟩, by rw [HR.out]; exact hbs⟩
end Go.Proofs.Ytnedboomhbdecaa
