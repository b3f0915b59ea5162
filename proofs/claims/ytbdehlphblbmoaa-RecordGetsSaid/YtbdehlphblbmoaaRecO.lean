/- The document's answer for record: widen. -/
import Derived.Test.YtbdehlphblbmoaaRecN
namespace Go.Proofs.Ytbdehlphblbmoaa
open Go.RowKit
attribute [local go_sem ↓] Go.wp_at_zero Go.wp_at_succ

theorem Bk.ne {w : World} {g g' : Nat} {t t' : TypeId} {cs cs' : Array Value} (h : Bk w g t cs) (h' : Bk w g' t' cs') (hne : t ≠ t') : g ≠ g' := by
  rintro rfl
  unfold Bk at h h'
  rw [h] at h'
  injection h' with h'
  injection h' with _ ht
  exact hne ht
theorem own_ne {w : World} {base s n : Nat} {e t : TypeId} {v : Value} {xs : List Value} {g : Nat} {cs : Array Value} (h : w.ownsRow base e s v n xs) (hg : Bk w g t cs) (hne : e ≠ t) : v.ownBlock ≠ some g := by
  rcases h.2 with ⟨rfl, _⟩ | ⟨g', cap, cur, rfl, _, hh, _⟩
  · simp [Value.ownBlock]
  · intro he
    have : g' = g := by simpa [Value.ownBlock] using he
    subst this
    exact Bk.ne (t := e) hh hg hne rfl
def wdI (b : Bool) : Int := if b then 1 else 0
def WrI (l : List UInt8) (lv ys : List Int) (j P : Nat) (wd : Bool) : Prop := ys.length = j ∧ wdG l lv 0 false = (wdG l (lv.drop j) P wd).map fun z => (ys ++ z.1, z.2)
theorem WrI.no {l : List UInt8} {lv ys : List Int} {j P : Nat} {wd : Bool} {x : Int} (h : WrI l lv ys j P wd) (hj : lv[j]? = some x) (hx : ¬ x = 4294967295) : WrI l lv (ys ++ [x]) (j + 1) P wd := by
  obtain ⟨hlt, rfl⟩ := List.getElem?_eq_some_iff.1 hj
  refine ⟨by simp [h.1], ?_⟩
  rw [h.2, List.drop_eq_getElem_cons hlt, wdG_no hx, Option.map_map]
  congr 1
  funext z
  simp
theorem WrI.yes {l : List UInt8} {lv ys : List Int} {j P : Nat} {wd : Bool} (h : WrI l lv ys j P wd) (hj : lv[j]? = some 4294967295) (hP : P + 8 ≤ l.length) (h8 : ¬ long8 l P < 0) : WrI l lv (ys ++ [long8 l P]) (j + 1) (P + 8) true := by
  obtain ⟨hlt, hx⟩ := List.getElem?_eq_some_iff.1 hj
  refine ⟨by simp [h.1], ?_⟩
  rw [h.2, List.drop_eq_getElem_cons hlt, hx, wdG_yes hP h8, Option.map_map]
  congr 1
  funext z
  simp
theorem WrI.bad {l : List UInt8} {lv ys : List Int} {j P : Nat} {wd : Bool} (h : WrI l lv ys j P wd) (hj : lv[j]? = some 4294967295) (h8 : l.length < P + 8 ∨ long8 l P < 0) : wdG l lv 0 false = none := by
  obtain ⟨hlt, hx⟩ := List.getElem?_eq_some_iff.1 hj
  rw [h.2, List.drop_eq_getElem_cons hlt, hx, wdG_bad h8]; rfl
theorem WrI.fin {l : List UInt8} {lv ys : List Int} {j P : Nat} {wd : Bool} (h : WrI l lv ys j P wd) (hj : lv.length ≤ j) : wdG l lv 0 false = some (ys, wd) := by
  rw [h.2, List.drop_of_length_le hj]
  simp [wdG]
/-- What the document's widen says. -/
def RwQ (L : List UInt8) (lv : List Int) (base : Nat) (w' : World) (v : Value) : Prop :=
  (∃ ys wd, widG L lv = some (ys, wd) ∧ ys.length = lv.length ∧ w'.ownsRow base 3 1 v (lv.length + 1) (its (ys ++ [wdI wd]))) ∨ (v = .slice none 0 0 ∧ widG L lv = none)
set_option maxHeartbeats 2000000 in
theorem rwiden_any (A : Option Addr) (n c : Nat) (L : List UInt8) (Al : Option Addr) (k cl : Nat) (lv : List Int) (w : World) (hr : Rd w w.heap.size 1 A n (bys L)) (hrl : Rd w w.heap.size 1 Al k (its lv)) (hnc : n ≤ c) (hn : n ≤ 1000000000) (hk : k ≤ 10) :
    Calls Try.prog 28 #[.slice A n c, .slice Al k cl] w fun e w' => (∃ v, e = .returned v ∧ RwQ L lv w.heap.size w' v) ∧ Below w.heap.size w w' := by
  have hlen := hrl.ilen
  have Hlen := Lib.hid hlen
  have Hit := Lib.hid (ritem_any A n c L w hr hnc hn)
  have Hrl := Lib.hid hrl
  clear hr hrl hlen
  go_enter Try.func28, Try.ntmps28
  go_wp2_with fail
  refine Hit.out.mono ?_
  rintro e w1 ⟨⟨A1, m1, c1, is, well, rfl, hmc, hcase⟩, hb1⟩
  have hz1 := hb1.size
  have bl2 := Lib.hid (hb1.alloc hz1 (.cells #[.slice A1 m1 c1, .bool is, .bool well] 82))
  have bk2 := Lib.hid (Bk.new w1 82 #[.slice A1 m1 c1, .bool is, .bool well])
  clear Hit hb1
  rcases hcase with ⟨rfl, o, ho, hrd⟩ | ⟨rfl, ho⟩
  · have hll := hrd.blen
    have Hll := Lib.hid hll
    have Ho := Lib.hid (widG_some (l := lv) ho)
    have Hrd := Lib.hid hrd
    have Hw0 := Lib.hid (show WrI (o.getD []) lv [] 0 0 false from ⟨rfl, by simp⟩)
    generalize o.getD [] = l at *
    clear hll ho hrd
    go_wp2_with fail
    go_loopw [6, 7, 8, 9] (fun p wi out kk wr => ∃ (j P : Nat) (wd : Bool) (ys : List Int), p = .int .i64 P ∧ wi = .int .i64 (wdI wd) ∧ kk = .int .i64 j ∧ j ≤ k ∧ P ≤ 8 * j ∧ Hid (WrI l lv ys j P wd ∧ wr.ownsRow w.heap.size 3 1 out ys.length (its ys) ∧ Bk wr w1.heap.size 82 #[.slice A1 m1 c1, .bool is, .bool true] ∧ Below w.heap.size w wr)) (fun _ _ _ kk _ => k - (intOf kk).toNat)
    case atStart => exact ⟨0, 0, false, [], rfl, rfl, rfl, Nat.zero_le _, by omega, Lib.hid ⟨Hw0.out, own_nilI _ _ _, bk2.out, bl2.out⟩⟩
    case round =>
      obtain ⟨j, P, wd, ys, rfl, rfl, rfl, hj, hP, HI⟩ := hrel
      obtain ⟨hwi, hown, hbk, hbw⟩ := HI.out
      clear HI bl2 bk2 Hw0
      have hsz := hbw.size
      have hjl := hwi.1
      by_cases hlt : j < k
      · obtain ⟨b, oo, u, rfl, hb, hu, hcu⟩ := Hrl.out.num hlt
        have hcw := (hbw.cell (p := ⟨b, oo + j, none⟩) (by show b < _; omega)).trans hcu
        have fin : ∀ (x : Int) (wd2 : Bool) (P2 : Nat), P2 ≤ 8 * (j + 1) → WrI l lv (ys ++ [x]) (j + 1) P2 wd2 → ∀ v' w', w'.ownsRow w.heap.size 3 1 v' (ys.length + 1) (its (ys ++ [x])) → Below w.heap.size w w' → (wr.alloc (.cells #[.int .i64 x] 3)).grownBy w' _ → (WrI l lv (ys ++ [x]) (j + 1) P2 wd2 ∧ w'.ownsRow w.heap.size 3 1 v' (ys ++ [x]).length (its (ys ++ [x])) ∧ Bk w' w1.heap.size 82 #[.slice A1 m1 c1, .bool is, .bool true] ∧ Below w.heap.size w w') :=
          fun x wd2 P2 _ h1 v' w' h2 h3 h4 => ⟨h1, by rw [List.length_append]; exact h2, (hbk.alloc _).grown h4 (fun e => own_ne hown hbk (by decide) e.symm), h3⟩
        have Hfin := Lib.hid fin
        have hwi2 := hwi
        have Hown := Lib.hid hown
        have Hbw := Lib.hid hbw
        have e0 : wr.cell? ⟨w1.heap.size, 0, none⟩ = some (.slice A1 m1 c1) := hbk.cell 0
        by_cases hu1 : u = 4294967295
        · subst hu1
          by_cases hP8 : P + 8 ≤ m1
          · have Hlo := Lib.hid (at_longI A1 m1 c1 P (P : Int) l wr ((Hrd.out.below hbw (Nat.le_refl _)).more hsz) hmc.1 (by omega) hP8 rfl)
            have hlb := long8_bd l P
            by_cases hneg : long8 l P < 0
            · have Hbad := Lib.hid (hwi.bad hu (.inr hneg))
              clear hwi hwi2 hown hbw hbk fin hu hcu
              generalize long8 l P = x at *
              go_wp2_with fail
              refine Hlo.out.mono ?_
              rintro e w2 ⟨rfl, rfl⟩
              go_wp2
              go_ret
              exact ⟨⟨_, rfl, .inr ⟨rfl, by rw [Ho.out, Hbad.out]⟩⟩, Hbw.out⟩
            · have Hyes := Lib.hid (hwi.yes hu (by rw [Hll.out]; exact hP8) hneg)
              clear hwi hwi2 hown hbw hbk fin hu hcu
              generalize long8 l P = x at *
              go_wp2_with fail
              refine Hlo.out.mono ?_
              rintro e w2 ⟨rfl, rfl⟩
              go_wp2_with (at_builtin; refine ap_its (Hown.out.alloc _) (Rd.oneI wr _ x) (Hbw.out.alloc hsz _) (by simp; omega) (by omega) rfl rfl rfl ?_; intro v' w' hown' hb' hg' _)
              have Hn := Lib.hid (Hfin.out x true (P + 8) (by omega) Hyes.out v' w' hown' hb' hg')
              clear hown' hb' hg'
              go_roundw
              case rel => exact ⟨j + 1, P + 8, true, _, by go_num, rfl, by go_num, by omega, by omega, Hn⟩
              case measure => simp [intOf]; omega
          · have Hbad := Lib.hid (hwi.bad hu (.inl (by rw [Hll.out]; omega)))
            clear hwi hwi2 hown hbw hbk fin hu hcu
            go_wp2
            go_ret
            exact ⟨⟨_, rfl, .inr ⟨rfl, by rw [Ho.out, Hbad.out]⟩⟩, Hbw.out⟩
        · have hub : (u == 4294967295) = false := by simpa using hu1
          have Hno := Lib.hid (hwi.no hu hu1)
          clear hwi hwi2 hown hbw hbk fin hu hcu hu1
          go_wp2_with (at_builtin; refine ap_its (Hown.out.alloc _) (Rd.oneI wr _ u) (Hbw.out.alloc hsz _) (by simp; omega) (by omega) rfl rfl rfl ?_; intro v' w' hown' hb' hg' _)
          have Hn := Lib.hid (Hfin.out u wd P (by omega) Hno.out v' w' hown' hb' hg')
          clear hown' hb' hg'
          go_roundw
          case rel => exact ⟨j + 1, P, wd, _, rfl, rfl, by go_num, by omega, by omega, Hn⟩
          case measure => simp [intOf]; omega
      · obtain rfl : k = j := by omega
        have Hfin := Lib.hid (hwi.fin (by rw [Hlen.out]; exact Nat.le_refl _))
        have Hown := Lib.hid hown
        have Hbw := Lib.hid hbw
        clear hwi hown hbw hbk
        go_wp2_with (at_builtin; refine ap_its (Hown.out.alloc _) (Rd.oneI wr _ (wdI wd)) (Hbw.out.alloc hsz _) (by simp; omega) (by omega) rfl rfl rfl ?_; intro v' w' hown' hb' hg' _)
        go_ret
        refine ⟨⟨_, rfl, .inl ⟨ys, wd, by rw [Ho.out, Hfin.out], by rw [Hlen.out]; exact hjl, ?_⟩⟩, hb'⟩
        rw [Hlen.out, ← hjl]
        exact hown'
  · have Ho := Lib.hid (widG_none_it (l := lv) ho)
    clear ho
    go_wp2
    go_ret
    exact ⟨⟨_, rfl, .inr ⟨rfl, Ho.out⟩⟩, bl2.out⟩
end Go.Proofs.Ytbdehlphblbmoaa
