/- Contracts of package record: widen. -/
import Derived.Test.YtbdehlphblbmoaaRecJ
namespace Go.Proofs.Ytbdehlphblbmoaa
open Go.RowKit
attribute [local go_sem ↓] Go.wp_at_zero Go.wp_at_succ

theorem RQ.rr {F : Int} {w : World} {g : Nat} {A : Option Addr} {n c P : Nat} (h : RQ F w g A n c P 0) : RR w g A n c P 0 := by
  obtain ⟨p, h, h1 | h1 | h1⟩ := h
  · obtain ⟨_, _, rfl, _⟩ := h1; exact h
  · omega
  · omega
set_option maxHeartbeats 1000000 in
/-- A long number that isn't there. -/
theorem long_end (g : Nat) (A : Option Addr) (n c P B : Nat) (L : List UInt8) (w : World) (h : RQ 0 w g A n c P 0) (hr : Rd w B 1 A n (bys L)) (hB : B ≤ g) (hnc : n ≤ c) (hn : n ≤ 1000000000) (hk : n < P + 8) :
    Calls Try.prog 37 #[.pointer (some ⟨g, 0, none⟩)] w fun e' w' => ∃ v : Int, e' = .returned (.int .i64 v) ∧ 0 ≤ v ∧ v ≤ 4294967295 ∧ w'.cell? ⟨g, 2, none⟩ = some (.int .i64 3) ∧ Ch (fun i => i = g) w w' := by
  have hg := h.lt
  have hn1 := num_q 0 g A n c P 4 0 L w h (hr.more (by omega)) hnc hn (by omega)
  have hr2 : ∀ W : World, Ch (fun i => i = g) w W → Rd W W.heap.size 1 A n (bys L) := fun W hc => (hr.ch hc (by omega) (fun i hi => by have : i = g := hi; omega)).more (by have := hc.size; omega)
  have p4 : (256 : Int) ^ 4 = 4294967296 := by decide
  have Hr2 := Lib.hid hr2
  have Hn1 := Lib.hid hn1
  clear hr2 h hr hn1
  go_enter Try.func37, Try.ntmps37
  go_wp2_with fail
  refine Hn1.out.mono ?_
  rintro e w1 ⟨v1, e1, rfl, a1, b1, i1, _, q1, c1⟩
  have Hn2 := Lib.hid (num_q 0 g A n c (P + 4) 4 e1 L w1 q1 (Hr2.out w1 c1) hnc hn (by omega))
  have I1 := Lib.hid i1
  have C1 := Lib.hid c1
  rw [p4] at b1
  clear Hn1 q1 c1 i1
  go_wp2_with fail
  refine Hn2.out.mono ?_
  rintro e w2 ⟨v2, e2, rfl, a2, b2, i2, x2, q2, c2⟩
  have he2 : e2 ≠ 0 := fun h => by have := (i2 h).2.1; omega
  obtain rfl : v2 = 0 := x2 he2
  have h3 : e2 = 3 := by rcases q2.er he2 with h | h <;> omega
  subst h3
  have C2 := Lib.hid (C1.out.trans c2 (fun i h => .inl h))
  have Hcc := Lib.hid q2.c2
  have hor := or_i64_add 32 (0 : Int) v1 (by omega) (by omega) (by omega) (by omega) (by omega) (by omega)
  clear Hn2 q2 c2 i2 x2 he2 b2 a2 p4 C1
  go_wp2
  go_ret
  exact ⟨v1, rfl, a1, by omega, Hcc.out, C2.out⟩

theorem Rd.less {w : World} {B B' s n : Nat} {A : Option Addr} {xs : List Value} (h : Rd w B s A n xs) (hb : ∀ b o, A = some ⟨b, o, none⟩ → b < B') : Rd w B' s A n xs :=
  ⟨h.1, fun hn => by obtain ⟨b, o, e, _, hc⟩ := h.2 hn; exact ⟨b, o, e, hb b o e, hc⟩⟩
def fi : Nat → Nat
  | 0 => 5
  | 1 => 4
  | _ => 6
def updI (V : Nat → Int) (j : Nat) (x : Int) : Nat → Int := fun i => if i = j then x else V i
/-- Pointers to a head's sizes, and place. -/
def ptC (m h : Nat) : Array Value := ((List.range m).map fun j => Value.pointer (some ⟨h, fi j, none⟩)).toArray
theorem ptC_at {m h j : Nat} (hj : j < m) : (ptC m h)[j]? = some (.pointer (some ⟨h, fi j, none⟩)) := by simp [ptC, hj]
def hdV (f0 f1 f2 f3 : Int) (V : Nat → Int) (nm : Value) (wd : Bool) : Array Value := hdC f0 f1 f2 f3 (V 1) (V 0) (V 2) nm wd
theorem hdV_at (f0 f1 f2 f3 : Int) (V : Nat → Int) (nm : Value) (wd : Bool) : ∀ {j : Nat}, j < 3 → (hdV f0 f1 f2 f3 V nm wd)[fi j]? = some (.int .i64 (V j))
  | 0, _ => rfl
  | 1, _ => rfl
  | 2, _ => rfl
  | j + 3, h => by omega
theorem hdV_set (f0 f1 f2 f3 : Int) (V : Nat → Int) (nm : Value) (wd : Bool) (x : Int) : ∀ {j : Nat}, j < 3 → (hdV f0 f1 f2 f3 V nm wd).setIfInBounds (fi j) (.int .i64 x) = hdV f0 f1 f2 f3 (updI V j x) nm wd
  | 0, _ => rfl
  | 1, _ => rfl
  | 2, _ => rfl
  | j + 3, h => by omega
theorem wdG_no {L : List UInt8} {x : Int} {r : List Int} {p : Nat} {w : Bool} (h : ¬ x = 4294967295) : wdG L (x :: r) p w = (wdG L r p w).map fun y => (x :: y.1, y.2) := by rw [wdG, if_neg h]
theorem wdG_yes {L : List UInt8} {r : List Int} {p : Nat} {w : Bool} (h : p + 8 ≤ L.length) (h2 : ¬ long8 L p < 0) : wdG L (4294967295 :: r) p w = (wdG L r (p + 8) true).map fun y => (long8 L p :: y.1, y.2) := by rw [wdG, if_pos rfl, if_neg (by omega), if_neg h2]
theorem wdG_bad {L : List UInt8} {r : List Int} {p : Nat} {w : Bool} (h : L.length < p + 8 ∨ long8 L p < 0) : wdG L (4294967295 :: r) p w = none := by
  rw [wdG, if_pos rfl]
  by_cases h8 : L.length < p + 8
  · rw [if_pos h8]
  · rw [if_neg h8, if_pos (by omega)]
theorem range_drop {m j : Nat} (h : j < m) (V : Nat → Int) : ((List.range m).drop j).map V = V j :: ((List.range m).drop (j + 1)).map V := by
  rw [List.drop_eq_getElem_cons (by simpa using h)]
  simp
theorem range_snoc (j : Nat) (V : Nat → Int) (x : Int) (z : List Int) : (List.range j).map V ++ x :: z = (List.range (j + 1)).map (updI V j x) ++ z := by
  rw [List.range_succ, List.map_append, List.append_assoc]
  congr 1
  · apply List.map_congr_left
    intro i hi
    have : i < j := List.mem_range.1 hi
    unfold updI; rw [if_neg (by omega)]
  · simp [updI]
/-- Between the rounds. -/
def WiI (l : List UInt8) (m : Nat) (V : Nat → Int) (V' : Nat → Int) (j P : Nat) (wd : Bool) : Prop :=
  (∀ i, j ≤ i → V' i = V i) ∧ wdG l ((List.range m).map V) 0 false = (wdG l (((List.range m).drop j).map V) P wd).map fun z => ((List.range j).map V' ++ z.1, z.2)
theorem WiI.no {l : List UInt8} {m : Nat} {V V' : Nat → Int} {j P : Nat} {wd : Bool} (h : WiI l m V V' j P wd) (hj : j < m) (hx : ¬ V j = 4294967295) : WiI l m V V' (j + 1) P wd := by
  refine ⟨fun i hi => h.1 i (by omega), ?_⟩
  rw [h.2, range_drop hj, wdG_no hx, Option.map_map]
  congr 1
  funext z
  have e : updI V' j (V j) = V' := by
    funext i
    unfold updI
    split
    · rename_i h1; subst h1; exact (h.1 _ (Nat.le_refl _)).symm
    · rfl
  simp only [Function.comp, range_snoc, e]
theorem WiI.yes {l : List UInt8} {m : Nat} {V V' : Nat → Int} {j P : Nat} {wd : Bool} (h : WiI l m V V' j P wd) (hj : j < m) (hx : V j = 4294967295) (hP : P + 8 ≤ l.length) (h8 : ¬ long8 l P < 0) : WiI l m V (updI V' j (long8 l P)) (j + 1) (P + 8) true := by
  refine ⟨fun i hi => by unfold updI; rw [if_neg (by omega)]; exact h.1 i (by omega), ?_⟩
  rw [h.2, range_drop hj, hx, wdG_yes hP h8, Option.map_map]
  congr 1
  funext z
  simp only [Function.comp, range_snoc]
theorem WiI.bad {l : List UInt8} {m : Nat} {V V' : Nat → Int} {j P : Nat} {wd : Bool} (h : WiI l m V V' j P wd) (hj : j < m) (hx : V j = 4294967295) (h8 : l.length < P + 8 ∨ long8 l P < 0) : wdG l ((List.range m).map V) 0 false = none := by
  rw [h.2, range_drop hj, hx, wdG_bad h8]; rfl
theorem WiI.fin {l : List UInt8} {m : Nat} {V V' : Nat → Int} {P : Nat} {wd : Bool} (h : WiI l m V V' m P wd) : wdG l ((List.range m).map V) 0 false = some ((List.range m).map V', wd) := by
  rw [h.2, List.drop_of_length_le (by simp)]
  simp [wdG]
/-- What widen tells. -/
def WiQ (L : List UInt8) (m : Nat) (V V' : Nat → Int) (b1 b2 : Bool) : Prop :=
  (b2 = true ∧ widG L ((List.range m).map V) = some ((List.range m).map V', b1) ∧ ∀ i, m ≤ i → V' i = V i) ∨ (b2 = false ∧ widG L ((List.range m).map V) = none)
theorem widG_none_it {L : List UInt8} {l : List Int} (h : itG L 0 none = none) : widG L l = none := by unfold widG; rw [h]
theorem widG_some {L : List UInt8} {l : List Int} {o : Option (List UInt8)} (h : itG L 0 none = some o) : widG L l = wdG (o.getD []) l 0 false := by unfold widG; rw [h]
theorem itq_bad {L l : List UInt8} {l' : List Int} {b : Bool} (h : (b = true ∧ ∃ o, itG L 0 none = some o ∧ l = o.getD []) ∨ (b = false ∧ itG L 0 none = none)) (h2 : wdG l l' 0 false = none) : widG L l' = none := by
  rcases h with ⟨_, o, h, rfl⟩ | ⟨_, h⟩
  · rw [widG_some h, h2]
  · exact widG_none_it h
set_option maxHeartbeats 4000000 in
theorem widen_any (A : Option Addr) (n c : Nat) (L : List UInt8) (gp m cp h : Nat) (T : TypeId) (f0 f1 f2 f3 : Int) (V : Nat → Int) (nm : Value) (wd : Bool) (w : World) (hr : Rd w w.heap.size 1 A n (bys L)) (hnc : n ≤ c) (hn : n ≤ 1000000000) (hm : m ≤ 3) (hmc : m ≤ cp)
    (hp : Bk w gp T (ptC m h)) (hb : Bk w h 35 (hdV f0 f1 f2 f3 V nm wd)) (hne : ¬ gp = h) :
    Calls Try.prog 25 #[.slice A n c, .slice (some ⟨gp, 0, none⟩) m cp] w fun e w' => ∃ V' b1 b2, e = .returned (.tuple #[.bool b1, .bool b2]) ∧ WiQ L m V V' b1 b2 ∧ Bk w' h 35 (hdV f0 f1 f2 f3 V' nm wd) ∧ Ch (fun i => i = h) w w' := by
  have Hit := Lib.hid (item_any A n c L w hr hnc hn)
  have hlt := hb.lt
  have hlt2 := hp.lt
  have Hp := Lib.hid hp
  have Hb := Lib.hid hb
  clear hr hp hb
  go_enter Try.func25, Try.ntmps25
  go_wp2_with fail
  refine Hit.out.mono ?_
  rintro e w1 ⟨A1, m1, c1, b, rfl, ⟨l, hown, ⟨hmc1, hm65⟩, hcase⟩, hb1⟩
  have hz1 := hb1.size
  have hll := (Rd.of_own hown).blen
  have Hcase := Lib.hid hcase
  have Hll := Lib.hid hll
  have Hlow := Lib.hid (show ∀ b o, A1 = some ⟨b, o, none⟩ → b < w1.heap.size from fun b o e => (hown.lt b (by rw [e]; rfl)).2)
  have Hlow2 := Lib.hid (show ∀ k, (Value.slice A1 m1 c1).ownBlock = some k → w.heap.size ≤ k ∧ k < w1.heap.size from fun k hk => hown.lt k hk)
  have hown2 := hown.alloc (.cells #[.slice A1 m1 c1, .int .i64 0, .int .i64 0] 48)
  have Hown := Lib.hid hown2
  have hch : Ch (fun i => i = h) w (w1.alloc (.cells #[.slice A1 m1 c1, .int .i64 0, .int .i64 0] 48)) := (Ch.of_below hb1 (Nat.le_refl _)).alloc _
  have Hch := Lib.hid hch
  have Hq := Lib.hid (show RQ 0 (w1.alloc (.cells #[.slice A1 m1 c1, .int .i64 0, .int .i64 0] 48)) w1.heap.size A1 m1 c1 0 0 from ⟨_, Bk.new _ _ _, .inl ⟨rfl, rfl, rfl, Nat.zero_le _⟩⟩)
  have Hp1 := Lib.hid ((Hp.out.below hb1 hlt2).alloc (.cells #[.slice A1 m1 c1, .int .i64 0, .int .i64 0] 48))
  have Hb1 := Lib.hid ((Hb.out.below hb1 hlt).alloc (.cells #[.slice A1 m1 c1, .int .i64 0, .int .i64 0] 48))
  have Hw0 := Lib.hid (show WiI l m V V 0 0 false from ⟨fun _ _ => rfl, by simp⟩)
  have hm1n : m1 ≤ 1000000000 := by omega
  clear hb1 hll hown hown2 hcase hch Hit Hp Hb
  go_wp2_with fail
  go_loopw [9, 22] (fun s9 i wr => ∃ (j : Nat) (wd' : Bool), s9 = .bool wd' ∧ i = .int .i64 j ∧ j ≤ m ∧ Hid (∃ V' P, RQ 0 wr w1.heap.size A1 m1 c1 P 0 ∧ wr.ownsRow w.heap.size 5 1 (.slice A1 m1 c1) m1 (bys l) ∧ Bk wr gp T (ptC m h) ∧ Bk wr h 35 (hdV f0 f1 f2 f3 V' nm wd) ∧ WiI l m V V' j P wd' ∧ Ch (fun i => i = h) w wr)) (fun _ i _ => m - (intOf i).toNat)
  case atStart => exact ⟨0, false, rfl, rfl, Nat.zero_le _, Lib.hid ⟨V, 0, Hq.out, Hown.out, Hp1.out, Hb1.out, Hw0.out, Hch.out⟩⟩
  case round =>
    obtain ⟨j, wd', rfl, rfl, hj, HI⟩ := hrel
    obtain ⟨V', P, hq, hown, hp, hb, hwi, hch⟩ := HI.out
    clear Hq Hown Hp1 Hb1 Hw0 Hch HI
    by_cases hlt : j < m
    · have cp0 : wr.cell? ⟨gp, j, none⟩ = some (.pointer (some ⟨h, fi j, none⟩)) := (hp.cell j).trans (ptC_at hlt)
      have ch0 : wr.cell? ⟨h, fi j, none⟩ = some (.int .i64 (V j)) := by rw [← hwi.1 j (Nat.le_refl _)]; exact (hb.cell (fi j)).trans (hdV_at _ _ _ _ _ _ _ (by omega))
      have fr0 : wr.frozen? ⟨h, fi j, none⟩ = false := hb.free (fi j)
      by_cases hx : V j = 4294967295
      · have ch1 : wr.cell? ⟨h, fi j, none⟩ = some (.int .i64 4294967295) := by rw [ch0, hx]
        have hrO := (Rd.of_own hown).less Hlow.out
        have hlg := hq.lt
        have hhw : h < wr.heap.size := hb.lt
        have hgh : ¬ h = w1.heap.size := by omega
        have hgh2 : ¬ w1.heap.size = h := by omega
        have hgp : ¬ gp = w1.heap.size := by omega
        have step : ∀ (w2 : World) (x : Int), Ch (fun i => i = w1.heap.size) wr w2 → w2.cell? ⟨h, fi j, none⟩ = some (.int .i64 4294967295) ∧ w2.frozen? ⟨h, fi j, none⟩ = false ∧ h < w2.heap.size ∧
            (w2.setCell ⟨h, fi j, none⟩ (.int .i64 x)).ownsRow w.heap.size 5 1 (.slice A1 m1 c1) m1 (bys l) ∧ Bk (w2.setCell ⟨h, fi j, none⟩ (.int .i64 x)) gp T (ptC m h) ∧ Bk (w2.setCell ⟨h, fi j, none⟩ (.int .i64 x)) h 35 (hdV f0 f1 f2 f3 (updI V' j x) nm wd) ∧
            Ch (fun i => i = h) w (w2.setCell ⟨h, fi j, none⟩ (.int .i64 x)) ∧ Ch (fun i => i = h) w2 (w2.setCell ⟨h, fi j, none⟩ (.int .i64 x)) := by
          intro w2 x hc2
          have hb2 := hb.ch hc2 hgh
          have hset : Ch (fun i => i = h) w2 (w2.setCell ⟨h, fi j, none⟩ (.int .i64 x)) := (Ch.refl (fun i => i = h) w2).set (p := ⟨h, fi j, none⟩) (.inl rfl) _
          have hb3 := hb2.set (fi j) (.int .i64 x)
          rw [hdV_set _ _ _ _ _ _ _ _ (by omega)] at hb3
          refine ⟨?_, hb2.free (fi j), hb2.lt, own_ch (own_ch hown hc2 (fun i hi => by have := (Hlow2.out i hi).2; omega)) hset (fun i hi => by have := (Hlow2.out i hi).1; omega), (hp.ch hc2 hgp).ch hset hne, hb3, ?_, hset⟩
          · rw [← hx, ← hwi.1 j (Nat.le_refl _)]; exact (hb2.cell (fi j)).trans (hdV_at _ _ _ _ _ _ _ (by omega))
          · exact (hch.trans hc2 (fun i hi => by have : i = w1.heap.size := hi; omega)).trans hset (fun i hi => .inl hi)
        have Hstep := Lib.hid step
        have hx1 : ((4294967295 : Int) != 4294967295) = false := by simp
        by_cases h8 : P + 8 ≤ m1
        · have Hlo := Lib.hid (long_ok w1.heap.size A1 m1 c1 P w1.heap.size l wr hq.rr hrO (Nat.le_refl _) hmc1 hm1n h8)
          have hlb := long8_bd l P
          have Hwi := Lib.hid hwi
          have Hx := Lib.hid hx
          clear hq hown hp hb hwi hch hrO ch0 step hx
          go_wp2_with fail
          refine Hlo.out.mono ?_
          rintro e w2 ⟨rfl, hrr, hc2⟩
          obtain ⟨s1, s2, s3, s4, s5, s6, s7, s8⟩ := Hstep.out w2 (long8 l P) hc2
          have E2 : w2.cell? ⟨w1.heap.size, 2, none⟩ = some (.int .i64 0) := Bk.cell hrr 2
          have Hq3 := Lib.hid (RQ.ch (show RQ 0 w2 w1.heap.size A1 m1 c1 (P + 8) 0 from ⟨_, hrr, .inl ⟨rfl, rfl, rfl, h8⟩⟩) s8 hgh2)
          have S4 := Lib.hid s4
          have S5 := Lib.hid s5
          have S6 := Lib.hid s6
          have S7 := Lib.hid s7
          clear s4 s5 s6 s7 s8 hrr hc2 Hlo Hstep ch1 fr0 cp0
          by_cases hneg : long8 l P < 0
          · have Hbad := Lib.hid (itq_bad Hcase.out (Hwi.out.bad hlt Hx.out (.inr hneg)))
            generalize long8 l P = x at *
            go_wp2_with fail
            go_ret2
            exact ⟨_, false, false, rfl, .inr ⟨rfl, Hbad.out⟩, S6.out, S7.out⟩
          · have Hwy := Lib.hid (Hwi.out.yes hlt Hx.out (by rw [Hll.out]; exact h8) hneg)
            generalize long8 l P = x at *
            go_wp2_with fail
            go_roundw
            case rel => exact ⟨j + 1, true, rfl, by go_num, by omega, Lib.hid ⟨_, _, Hq3.out, S4.out, S5.out, S6.out, Hwy.out, S7.out⟩⟩
            case measure => simp [intOf]; omega
        · have Hlo := Lib.hid (long_end w1.heap.size A1 m1 c1 P w1.heap.size l wr hq hrO (Nat.le_refl _) hmc1 hm1n (by omega))
          have Hbad := Lib.hid (itq_bad Hcase.out (hwi.bad hlt hx (.inl (by rw [Hll.out]; omega))))
          clear hq hown hp hb hwi hch hrO ch0 step hx
          go_wp2_with fail
          refine Hlo.out.mono ?_
          rintro e w2 ⟨v, rfl, hv0, hv1, E2, hc2⟩
          obtain ⟨s1, s2, s3, s4, s5, s6, s7, s8⟩ := Hstep.out w2 v hc2
          have S6 := Lib.hid s6
          have S7 := Lib.hid s7
          clear s4 s5 s6 s7 s8 hc2 Hlo Hstep ch1 fr0 cp0
          go_wp2_with fail
          go_ret2
          exact ⟨_, false, false, rfl, .inr ⟨rfl, Hbad.out⟩, S6.out, S7.out⟩
      · have hx1 : (V j != 4294967295) = true := by simpa using hx
        have Hrel := Lib.hid (show ∃ V' P, RQ 0 wr w1.heap.size A1 m1 c1 P 0 ∧ wr.ownsRow w.heap.size 5 1 (.slice A1 m1 c1) m1 (bys l) ∧ Bk wr gp T (ptC m h) ∧ Bk wr h 35 (hdV f0 f1 f2 f3 V' nm wd) ∧ WiI l m V V' (j + 1) P wd' ∧ Ch (fun i => i = h) w wr from ⟨V', P, hq, hown, hp, hb, hwi.no hlt hx, hch⟩)
        clear hq hown hp hb hwi hch hx
        go_wp2_with fail
        go_roundw
        case rel => exact ⟨j + 1, wd', rfl, by go_num, by omega, Hrel⟩
        case measure => simp [intOf]; omega
    · obtain rfl : m = j := by omega
      have hfin := hwi.fin
      have Hfin := Lib.hid hfin
      have Hkeep := Lib.hid hwi.1
      have Hb := Lib.hid hb
      have Hch := Lib.hid hch
      clear hfin hq hown hp hb hwi hch
      go_wp2_with fail
      go_ret2
      refine ⟨V', wd', b, rfl, ?_, Hb.out, Hch.out⟩
      rcases Hcase.out with ⟨rfl, o, ho, rfl⟩ | ⟨rfl, ho⟩
      · exact .inl ⟨rfl, by rw [widG_some ho, Hfin.out], Hkeep.out⟩
      · exact .inr ⟨rfl, widG_none_it ho⟩
end Go.Proofs.Ytbdehlphblbmoaa
