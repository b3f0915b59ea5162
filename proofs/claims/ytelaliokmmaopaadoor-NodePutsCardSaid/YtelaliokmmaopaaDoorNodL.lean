/- Contracts of package node: the reader's cut and cell. -/
import Derived.Test.YtelaliokmmaopaaDoorNodA
import Derived.Test.YtelaliokmmaopaaDoorNodK
namespace Go.Proofs.YtelaliokmmaopaaDoor
open Go.RowKit
attribute [local go_sem ↓] Go.wp_at_zero Go.wp_at_succ

theorem own_far {w : World} {base s n : Nat} {e : TypeId} {v : Value} {xs : List Value} (h : w.ownsRow base e s v n xs) {g : Nat} (hg : g < base) (i : Nat) (u : Value) : (w.setCell ⟨g, i, none⟩ u).ownsRow base e s v n xs :=
  own_apart h (gb_set (World.grownBy.refl _ _) i u) (fun k hk => by injection hk with hk; omega)
set_option maxHeartbeats 2000000 in
theorem ncut_any (g : Nat) (A : Option Addr) (n c p x : Nat) (wl : Bool) (L : List UInt8) (w : World) (h : NR w g A n c p wl) (hr : Rd w w.heap.size 1 A n (bys L)) (hnc : n ≤ c) (hn : n ≤ 1000000) (hp : p ≤ 100000000) (hx : x ≤ 100000000) :
    Calls Tryd.prog 23 #[.pointer (some ⟨g, 0, none⟩), .int .i64 x] w fun e' w' => ∃ (v : Value) (l : List UInt8) (wl' : Bool), e' = .returned v ∧ w'.ownsRow w.heap.size 5 1 v l.length (bys l) ∧
      (wl' = true → wl = true ∧ p + x ≤ n ∧ l = (L.drop p).take x) ∧ (wl' = false → wl = false ∨ n < p + x) ∧ NR w' g A n c (p + x) wl' ∧ Ch (fun i => i = g) w w' := by
  have c0 : w.cell? ⟨g, 0, none⟩ = some (.slice A n c) := Bk.cell h 0
  have c1 : w.cell? ⟨g, 1, none⟩ = some (.int .i64 (p : Int)) := Bk.cell h 1
  have hS : ∀ w1, Below w.heap.size w.drew w1 → (w1.cell? ⟨g, 0, none⟩ = some (.slice A n c) ∧ w1.cell? ⟨g, 1, none⟩ = some (.int .i64 (p : Int)) ∧ w1.cell? ⟨g, 2, none⟩ = some (.bool wl)) ∧ w1.frozen? ⟨g, 1, none⟩ = false ∧ w1.frozen? ⟨g, 2, none⟩ = false := by
    intro w1 hb
    have h1 : NR w1 g A n c p wl := Bk.below (Bk.drew h) hb (Bk.lt h)
    exact ⟨⟨Bk.cell h1 0, Bk.cell h1 1, Bk.cell h1 2⟩, Bk.free h1 1, Bk.free h1 2⟩
  have HS := Lib.hid hS
  have hlt := Bk.lt h
  by_cases hk : p + x ≤ n
  · have hlen : ((L.drop p).take x).length = x := by rw [List.length_take, List.length_drop, hr.blen]; omega
    have hg := cut_ok A n c p x L w.drew hr.drew hnc hk (by omega)
    have Hg := Lib.hid hg
    have H := Lib.hid h
    clear hg h hS hr
    generalize (L.drop p).take x = l at *
    subst hlen
    have HO := Lib.hid (show ∀ (w1 : World) (v : Value), w1.ownsRow w.heap.size 5 1 v l.length (bys l) → ∀ a b, ((w1.setCell ⟨g, 1, none⟩ a).setCell ⟨g, 2, none⟩ b).ownsRow w.heap.size 5 1 v l.length (bys l) from fun w1 v ho a b => own_far (own_far ho hlt 1 a) hlt 2 b)
    cases wl
    · go_enter Tryd.func23, Tryd.ntmps23
      go_wp2_with fail
      go_region_held3 (fun w' => w'.cell? ⟨g, 0, none⟩ = some (.slice A n c) ∧ w'.cell? ⟨g, 1, none⟩ = some (.int .i64 (p : Int))) (first | (exact ⟨c0, c1⟩) | (exact ⟨k0, k1⟩))
        (first | ((go_at_call 43; (with_reducible refine Hg.out.mono ?_); rintro e w1 ⟨v1, rfl, hown1, hb1⟩; obtain ⟨⟨k0, k1, k2⟩, f1, f2⟩ := HS.out w1 hb1)))
      have hfin := Lib.hid (nr_next (x := l.length) (b := false) H.out hb1)
      have Ho := Lib.hid (HO.out w1 v1 hown1)
      clear c0 c1 HS Hg hown1 HO
      go_wp2
      go_ret
      exact ⟨v1, l, false, rfl, Ho.out _ _, (fun h => by cases h), (fun _ => by simp), hfin.out.1, hfin.out.2⟩
    · go_enter Tryd.func23, Tryd.ntmps23
      go_wp2_with fail
      go_region_held3 (fun w' => w'.cell? ⟨g, 0, none⟩ = some (.slice A n c) ∧ w'.cell? ⟨g, 1, none⟩ = some (.int .i64 (p : Int))) (first | (exact ⟨c0, c1⟩) | (exact ⟨k0, k1⟩))
        (first | ((go_at_call 43; (with_reducible refine Hg.out.mono ?_); rintro e w1 ⟨v1, rfl, hown1, hb1⟩; obtain ⟨⟨k0, k1, k2⟩, f1, f2⟩ := HS.out w1 hb1)))
      have hfin := Lib.hid (nr_next (x := l.length) (b := true) H.out hb1)
      have Ho := Lib.hid (HO.out w1 v1 hown1)
      clear c0 c1 HS Hg hown1 HO
      go_wp2
      go_ret
      exact ⟨v1, l, true, rfl, Ho.out _ _, (fun _ => ⟨by simp, hk, rfl⟩), (fun h => by cases h), hfin.out.1, hfin.out.2⟩
  · have hg := cut_end A n c (p : Int) (x : Int) w.drew (by omega) (by omega) (by omega) (by omega)
    have Hg := Lib.hid hg
    have H := Lib.hid h
    have f1 : w.frozen? ⟨g, 1, none⟩ = false := Bk.free h 1
    have f2 : w.frozen? ⟨g, 2, none⟩ = false := Bk.free h 2
    have c2 : w.cell? ⟨g, 2, none⟩ = some (.bool wl) := Bk.cell h 2
    clear hg h hS hr
    cases wl
    all_goals
      go_enter Tryd.func23, Tryd.ntmps23
      go_wp2_with fail
      go_region_held3 (fun w' => w'.cell? ⟨g, 0, none⟩ = some (.slice A n c) ∧ w'.cell? ⟨g, 1, none⟩ = some (.int .i64 (p : Int))) (first | (exact ⟨c0, c1⟩) | (exact ⟨c0, c1⟩))
        (first | ((go_at_call 43; (with_reducible refine Hg.out.mono ?_); rintro e w1 ⟨rfl, rfl⟩)))
      have hfin := Lib.hid (nr_next (x := x) (b := false) H.out (Below.refl w.drew.heap.size w.drew))
      clear HS Hg
      go_wp2
      go_ret
      exact ⟨.slice none 0 0, [], false, rfl, own_nilB _ _ _, (fun h => by cases h), (fun _ => .inr (by omega)), hfin.out.1, hfin.out.2⟩
set_option maxHeartbeats 2000000 in
set_option maxRecDepth 100000 in
theorem ncell_any (g h B : Nat) (A : Option Addr) (n c p : Nat) (wl : Bool) (L : List UInt8) (vk : Value) (w : World) (hn : NR w g A n c p wl) (hc : Bk w h 42 #[vk, .slice none 0 0, .int .i64 0, .int .i64 0]) (hr : Rd w B 1 A n (bys L)) (hB : B ≤ w.heap.size) (hBg : B ≤ g) (hnc : n ≤ c) (hnb : n ≤ 1000000) (hp : p ≤ 10000000) :
    Calls Tryd.prog 24 #[.pointer (some ⟨g, 0, none⟩), .pointer (some ⟨h, 0, none⟩)] w fun e' w' => ∃ (vv : Value) (l : List UInt8) (over long : Int) (q : Nat) (wl' : Bool), e' = .returned (.tuple #[]) ∧ Bk w' h 42 #[vk, vv, .int .i64 over, .int .i64 long] ∧
      w'.ownsRow w.heap.size 5 1 vv l.length (bys l) ∧ (wl' = true → wl = true ∧ valC L p = some (l, over, long, q)) ∧ (wl' = false → wl = false ∨ valC L p = none) ∧ NR w' g A n c q wl' ∧ Ch (fun i => i = g ∨ i = h) w w' := by
  have hgh : g ≠ h := fun e => by subst e; exact Bk.ne hn hc (by decide) rfl
  have HL := Lib.hid hr.blen
  have Hn1 := Lib.hid (nnum_any g A n c p 2 wl L w hn (hr.more hB) hnc hnb (by omega) (by omega))
  have Hc := Lib.hid hc
  have Hr := Lib.hid hr
  have hhl := hc.lt
  clear hn hr hc
  go_enter Tryd.func24, Tryd.ntmps24
  go_wp2_with fail
  refine Hn1.out.mono ?_
  rintro e w1 ⟨v, wl1, rfl, hv0, hv1, ht1, hf1, hn1, hc1⟩
  have K1 := Lib.hid (Hc.out.ch hc1 (fun e => hgh e.symm))
  have R1 := Lib.hid (Hr.out.ch hc1 hB (fun i hi => by omega))
  have C1 := Lib.hid hc1
  have N1 := Lib.hid hn1
  have T1 := Lib.hid ht1
  have F1 := Lib.hid hf1
  have hz1 := hc1.size
  have hv1' : v < 65536 := by have : (256 : Int) ^ 2 = 65536 := by decide
                              omega
  clear hc1 hn1 ht1 hf1 Hn1 hv1
  by_cases hv : 64 < v
  · have Hn2 := Lib.hid (nnum_any g A n c (p + 2) 3 wl1 L w1 N1.out (R1.out.more (by omega)) hnc hnb (by omega) (by omega))
    go_wp2_with fail
    refine Hn2.out.mono ?_
    rintro e w2 ⟨o, wl2, rfl, _, _, ht2, hf2, hn2, hc2⟩
    have k2 := K1.out.ch hc2 (fun e => hgh e.symm)
    have f3 : w2.frozen? ⟨h, 3, none⟩ = false := k2.free 3
    have f2 : w2.frozen? ⟨h, 2, none⟩ = false := k2.free 2
    have p3 : w2.cell? ⟨h, 3, none⟩ = some (.int .i64 0) := k2.cell 3
    have p2 : w2.cell? ⟨h, 2, none⟩ = some (.int .i64 0) := k2.cell 2
    have k3 := (k2.set 3 (.int .i64 v)).set 2 (.int .i64 o)
    simp only [List.setIfInBounds_toArray, List.set_cons_zero, List.set_cons_succ] at k3
    have HF := Lib.hid (show NR ((w2.setCell ⟨h, 3, none⟩ (.int .i64 v)).setCell ⟨h, 2, none⟩ (.int .i64 o)) g A n c (p + 5) wl2 ∧ Ch (fun i => i = g ∨ i = h) w ((w2.setCell ⟨h, 3, none⟩ (.int .i64 v)).setCell ⟨h, 2, none⟩ (.int .i64 o)) from by
      refine ⟨Bk.far (p := ⟨h, 2, none⟩) (Bk.far (p := ⟨h, 3, none⟩) (by rw [show p + 5 = p + 2 + 3 by omega]; exact hn2) hgh _) hgh _, ?_⟩
      refine ((Ch.set ?_ (p := ⟨h, 3, none⟩) (.inl (.inr rfl)) _).set (p := ⟨h, 2, none⟩) (.inl (.inr rfl)) _)
      exact (C1.out.mono (fun i hi => .inl hi)).trans hc2 (fun i hi => .inl (.inl hi)))
    have K3 := Lib.hid k3
    have T2 := Lib.hid ht2
    have F2 := Lib.hid hf2
    clear k2 k3 hn2 hc2 Hn2 ht2 hf2
    go_wp2_with fail
    go_end0
    refine ⟨.slice none 0 0, [], o, v, p + 5, wl2, rfl, K3.out, own_nilB _ _ _, fun h2 => ?_, fun h2 => ?_, HF.out.1, HF.out.2⟩
    · obtain ⟨a1, a2, a3⟩ := T2.out h2
      obtain ⟨b1, b2, b3⟩ := T1.out a1
      refine ⟨b1, ?_⟩
      have := HL.out
      unfold valC
      rw [← b3, if_pos (by omega), if_pos hv, if_pos (by omega), ← a3]
    · rcases F2.out h2 with h3 | h3
      · rcases F1.out h3 with h4 | h4
        · exact .inl h4
        · right; have := HL.out; unfold valC; rw [if_neg (by omega)]
      · have := HL.out
        by_cases hw1 : wl1 = true
        · obtain ⟨b1, b2, b3⟩ := T1.out hw1
          right; unfold valC; rw [← b3, if_pos (by omega), if_pos hv, if_neg (by omega)]
        · rcases F1.out (by simpa using hw1) with h4 | h4
          · exact .inl h4
          · right; unfold valC; rw [if_neg (by omega)]
  · obtain ⟨x, hx⟩ : ∃ x : Nat, (x : Int) = v := ⟨v.toNat, by omega⟩
    have hn2 := ncut_any g A n c (p + 2) x wl1 L w1 N1.out (R1.out.more (by omega)) hnc hnb (by omega) (by omega)
    rw [hx] at hn2
    have Hn2 := Lib.hid hn2
    have HX := Lib.hid hx
    clear hn2 hx
    go_wp2_with fail
    refine Hn2.out.mono ?_
    rintro e w2 ⟨vv, l, wl2, rfl, hown2, ht2, hf2, hn2, hc2⟩
    have k2 := K1.out.ch hc2 (fun e => hgh e.symm)
    have f1 : w2.frozen? ⟨h, 1, none⟩ = false := k2.free 1
    have p1 : w2.cell? ⟨h, 1, none⟩ = some (.slice none 0 0) := k2.cell 1
    have k3 := k2.set 1 vv
    simp only [List.setIfInBounds_toArray, List.set_cons_zero, List.set_cons_succ] at k3
    have HF := Lib.hid (show NR (w2.setCell ⟨h, 1, none⟩ vv) g A n c (p + 2 + x) wl2 ∧ Ch (fun i => i = g ∨ i = h) w (w2.setCell ⟨h, 1, none⟩ vv) ∧ (w2.setCell ⟨h, 1, none⟩ vv).ownsRow w.heap.size 5 1 vv l.length (bys l) from by
      refine ⟨Bk.far (p := ⟨h, 1, none⟩) hn2 hgh _, ?_, own_far (own_base hown2 hz1) hhl 1 _⟩
      refine Ch.set ?_ (p := ⟨h, 1, none⟩) (.inl (.inr rfl)) _
      exact (C1.out.mono (fun i hi => .inl hi)).trans hc2 (fun i hi => .inl (.inl hi)))
    have K3 := Lib.hid k3
    have T2 := Lib.hid ht2
    have F2 := Lib.hid hf2
    obtain ⟨A2, c2, rfl, _, _⟩ := own_form hown2
    clear k2 k3 hn2 hc2 Hn2 ht2 hf2 hown2
    go_wp2_with fail
    go_end0
    refine ⟨.slice A2 l.length c2, l, 0, 0, p + 2 + x, wl2, rfl, K3.out, HF.out.2.2, fun h2 => ?_, fun h2 => ?_, HF.out.1, HF.out.2.1⟩
    · obtain ⟨a1, a2, a3⟩ := T2.out h2
      obtain ⟨b1, b2, b3⟩ := T1.out a1
      have := HX.out
      refine ⟨b1, ?_⟩
      have := HL.out
      unfold valC
      rw [← b3, if_pos (by omega), if_neg (Int.not_lt.2 hv), ← HX.out, Int.toNat_natCast, if_pos (by omega), ← a3]
    · rcases F2.out h2 with h3 | h3
      · rcases F1.out h3 with h4 | h4
        · exact .inl h4
        · right; have := HL.out; unfold valC; rw [if_neg (by omega)]
      · have := HL.out
        by_cases hw1 : wl1 = true
        · obtain ⟨b1, b2, b3⟩ := T1.out hw1
          have := HX.out
          right; unfold valC; rw [← b3, if_pos (by omega), if_neg (Int.not_lt.2 hv), ← HX.out, Int.toNat_natCast, if_neg (by omega)]
        · rcases F1.out (by simpa using hw1) with h4 | h4
          · exact .inl h4
          · right; unfold valC; rw [if_neg (by omega)]
end Go.Proofs.YtelaliokmmaopaaDoor
