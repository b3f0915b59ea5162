/- Contracts of package record: item. -/
import Derived.Test.YtbdehlphblbmoaaRecI
import Derived.Lib.SliceRun
namespace Go.Proofs.Ytbdehlphblbmoaa
open Go.RowKit
attribute [local go_sem ↓] Go.wp_at_zero Go.wp_at_succ

/-- The item 1, as it is kept. -/
def OwnO (base : Nat) (w : World) (v : Value) (o : Option (List UInt8)) : Prop :=
  (o = none ∧ v = .slice none 0 0) ∨ ∃ l g m c, o = some l ∧ v = .slice (some ⟨g, 0, none⟩) m c ∧ (m ≤ c ∧ m ≤ 65535) ∧ w.ownsRow base 5 1 (.slice (some ⟨g, 0, none⟩) m c) m (bys l)
theorem OwnO.ch {base g : Nat} {w w' : World} {v : Value} {o : Option (List UInt8)} (h : OwnO base w v o) (hc : Ch (fun i => i = g) w w') (hg : g < base) : OwnO base w' v o := by
  rcases h with h | ⟨l, g1, m, c, h1, h2, h3, h4⟩
  · exact .inl h
  · exact .inr ⟨l, g1, m, c, h1, h2, h3, own_ch h4 hc (fun i hi => by have := (h4.lt i hi).1; omega)⟩
/-- What item tells. -/
def ItQ (base : Nat) (L : List UInt8) (w' : World) (A : Option Addr) (m c : Nat) (b : Bool) : Prop :=
  ∃ l, w'.ownsRow base 5 1 (.slice A m c) m (bys l) ∧ (m ≤ c ∧ m ≤ 65535) ∧ ((b = true ∧ ∃ o, itG L 0 none = some o ∧ l = o.getD []) ∨ (b = false ∧ itG L 0 none = none))
/-- Between the rounds. -/
def ItI (L : List UInt8) (A : Option Addr) (n c : Nat) (w0 : World) (v : Value) (w : World) : Prop :=
  ∃ P o, RQ 0 w w0.heap.size A n c P 0 ∧ OwnO (w0.heap.size + 1) w v o ∧ itG L 0 none = itG L P o ∧ Below w0.heap.size w0 w
def posW (w : World) (g : Nat) : Nat := (intOf ((w.cell? ⟨g, 1, none⟩).getD (.int .i64 0))).toNat
theorem posW_of {w : World} {g P : Nat} (h : w.cell? ⟨g, 1, none⟩ = some (.int .i64 (P : Int))) : posW w g = P := by
  unfold posW; rw [h]; simp [intOf]
/-- append to nothing that is there stays there. -/
theorem own_some {w : World} {base m : Nat} {v : Value} {l : List UInt8} (h : w.ownsRow base 5 1 v m (bys l)) {k : Nat} (hk : v.ownBlock = some k) : ∃ c, v = .slice (some ⟨k, 0, none⟩) m c ∧ m ≤ c := by
  rcases h.2 with h2 | ⟨g, cap, cur, rfl, hg, hh, r⟩
  · obtain ⟨rfl, _⟩ := h2
    simp [Value.ownBlock] at hk
  · simp only [Value.ownBlock] at hk
    injection hk with hk
    subst hk
    exact ⟨_, rfl, by first | exact r.1 | omega⟩
set_option maxHeartbeats 4000000 in
theorem item_any (A : Option Addr) (n c : Nat) (L : List UInt8) (w : World) (hr : Rd w w.heap.size 1 A n (bys L)) (hnc : n ≤ c) (hn : n ≤ 1000000000) :
    Calls Try.prog 40 #[.slice A n c] w fun e w' => ∃ A1 m1 c1 b, e = .returned (.tuple #[.slice A1 m1 c1, .bool b]) ∧ ItQ w.heap.size L w' A1 m1 c1 b ∧ Below w.heap.size w w' := by
  have hll := hr.blen
  have Hr := Lib.hid hr
  have Hll := Lib.hid hll
  have h0 : ItI L A n c w (.slice none 0 0) (w.alloc (.cells #[.slice A n c, .int .i64 0, .int .i64 0] 48)) :=
    ⟨0, none, ⟨_, Bk.new _ _ _, .inl ⟨rfl, rfl, rfl, Nat.zero_le _⟩⟩, .inl ⟨rfl, rfl⟩, rfl, (Below.refl _ _).alloc (Nat.le_refl _) _⟩
  have H0 := Lib.hid h0
  clear hr hll h0
  have hnil := fun W => Lib.run_eql_slice_nil (P := Try.prog) W 22 5 none 0 0 0 0 Try.underlying22
  simp only [Option.isNone_none] at hnil
  have hsm := fun W g m c => Lib.run_eql_slice_nil (P := Try.prog) W 22 5 (some g) m c 0 0 Try.underlying22
  simp only [Option.isNone_some] at hsm
  go_enter Try.func40, Try.ntmps40
  go_wp2_with fail
  go_loopw [5] (fun v wr => Hid (ItI L A n c w v wr)) (fun _ wr => n - posW wr w.heap.size)
  case atStart => exact H0
  case round =>
    obtain ⟨P, o, hq, ho, hit, hbw⟩ := hrel.out
    have c1 := hq.c1
    have hz := hbw.size
    have hg := hq.lt
    by_cases hlt : P < n
    · have Hn1 := Lib.hid (num_q 0 w.heap.size A n c P 2 0 L wr hq ((Hr.out.below hbw (Nat.le_refl _)).more hz) hnc hn (by omega))
      have Ho := Lib.hid ho
      have Hit := Lib.hid hit
      have Hbw := Lib.hid hbw
      have Hc1 := Lib.hid c1
      clear ho hit hbw hq hrel
      go_wp2_with fail
      refine Hn1.out.mono ?_
      rintro e' w1 ⟨id_, e1, rfl, a1, b1, i1, _, q1, k1⟩
      have Hb1 := Lib.hid (Hbw.out.trans (k1.below hz (fun i hi => by have : i = w.heap.size := hi; omega)))
      have Hn2 := Lib.hid (num_q 0 w.heap.size A n c (P + 2) 2 e1 L w1 q1 ((Hr.out.below Hb1.out (Nat.le_refl _)).more Hb1.out.size) hnc hn (by omega))
      have Ho1 := Lib.hid (Ho.out.ch k1 (by omega))
      have I1 := Lib.hid i1
      clear q1 k1 i1 Hn1 Ho c1
      go_wp2_with fail
      refine Hn2.out.mono ?_
      rintro e' w2 ⟨m, e2, rfl, a2, b2, i2, x2, q2, k2⟩
      obtain ⟨m, rfl⟩ : ∃ k : Nat, m = k := ⟨m.toNat, by omega⟩
      have hz1 := Hb1.out.size
      have Hb2 := Lib.hid (Hb1.out.trans (k2.below hz1 (fun i hi => by have : i = w.heap.size := hi; omega)))
      have Hn3 := Lib.hid (cut_q 0 w.heap.size A n c (P + 2 + 2) m e2 L w2 q2 ((Hr.out.below Hb2.out (Nat.le_refl _)).more Hb2.out.size) hnc hn)
      have Ho2 := Lib.hid (Ho1.out.ch k2 (by omega))
      have I2 := Lib.hid i2
      have X2 := Lib.hid x2
      have b2' : (m : Int) ≤ 65535 := by have : (256 : Int) ^ 2 = 65536 := by decide
                                         omega
      have b1' : id_ ≤ 65535 := by have : (256 : Int) ^ 2 = 65536 := by decide
                                   omega
      clear q2 k2 i2 x2 Hn2 Ho1 b1 b2 Hb1
      go_wp2_with fail
      refine Hn3.out.mono ?_
      rintro e' w3 ⟨A3, m3, c3, l3, e3, rfl, hm3, i3, ho3, hmn3, q3, k3⟩
      have hz2 := Hb2.out.size
      have Hb3 := Lib.hid (Hb2.out.trans (k3.below hz2 (fun i hi => by have : i = w.heap.size := hi; omega)))
      have ho3' := Ho2.out.ch k3 (by omega)
      have d2 := q3.c2
      have hz3 := Hb3.out.size
      have Ho3 := Lib.hid ho3
      have I3 := Lib.hid i3
      have Q3 := Lib.hid q3
      clear Hn3 Ho2 i3 ho3 q3 k3 Hb2
      by_cases he : e3 = 0
      · subst he
        obtain ⟨h2, hle, hm, hl3⟩ := I3.out rfl
        obtain ⟨h1, hle2, hmv⟩ := I2.out h2
        obtain ⟨_, hle1, hiv⟩ := I1.out h1
        have hpos : P + 2 + 2 + m = P + 4 + (nAt L (P + 2) 2).toNat := by omega
        have hgo := itG_go (L := L) (p := P) (o := o) (by have := Hll.out; omega) (by have := Hll.out; omega)
        have hl3' : l3 = (L.drop (P + 4)).take (nAt L (P + 2) 2).toNat := by rw [hl3]; congr 1; omega
        have Hgo := Lib.hid (Hit.out.trans hgo)
        have Hl3 := Lib.hid hl3'
        have Hpos := Lib.hid hpos
        have Hiv := Lib.hid hiv
        have q1' := Q3.out.c1
        have Hc3 := Lib.hid q1'
        have Q4 : Hid (RQ 0 w3 w.heap.size A n c (P + 4 + (nAt L (P + 2) 2).toNat) 0) := Lib.hid (by rw [← Hpos.out]; exact Q3.out)
        subst hm
        clear h2 hmv h1 hiv hpos hgo hl3 hl3' hle2 hle1 I1 I2 I3 X2 q1' Q3 Hit
        rcases ho3' with ⟨rfl, rfl⟩ | ⟨lo, go, mo, co, rfl, rfl, hmo, hoo⟩
        · by_cases hid1 : id_ = 1
          · have Hif : Hid ((if nAt L P 2 = 1 ∧ (none : Option (List UInt8)) = none then some ((L.drop (P + 4)).take (nAt L (P + 2) 2).toNat) else none) = some l3) := Lib.hid (by rw [if_pos ⟨by rw [← Hiv.out]; exact hid1, rfl⟩, Hl3.out])
            subst hid1
            go_wp2_with (
              at_builtin
              refine ap_bys (own_lit0 w3 _) ((Rd.of_own Ho3.out).alloc (Nat.le_refl _) _) ((Below.refl w3.heap.size w3).alloc (Nat.le_refl _) _) (by simp) (by omega) rfl rfl rfl ?_
              intro v4 w4 hown4 hb4 hg4 ha4)
            have hsome : ∃ k, v4.ownBlock = some k := by rcases ha4 with h | h <;> exact ⟨_, h⟩
            obtain ⟨k, hk⟩ := hsome
            rw [List.nil_append, Nat.zero_add] at hown4
            obtain ⟨c4, rfl, hc4⟩ := own_some hown4 hk
            have q4 := Q4.out.below hb4 Q4.out.lt
            have hb04 := Hb3.out.trans (hb4.mono hz3)
            have c4' := q4.c1
            have Hrel := Lib.hid (show ItI L A n c w (.slice (some ⟨k, 0, none⟩) m3 c4) w4 from ⟨_, some l3, q4, (.inr ⟨l3, k, m3, c4, rfl, rfl, ⟨hc4, by omega⟩, own_base hown4 (by have := Q4.out.lt; omega)⟩), by rw [Hgo.out, Hif.out], hb04⟩)
            have Hme := Lib.hid (show n - posW w4 w.heap.size < n - posW wr w.heap.size by rw [posW_of c4', posW_of Hc1.out]; omega)
            clear hg4 ha4 hown4 hk hb4 q4 hb04 c4' d2
            go_roundw
            case rel => exact Hrel
            case measure => exact Hme.out
          · have Hif : Hid ((if nAt L P 2 = 1 ∧ (none : Option (List UInt8)) = none then some ((L.drop (P + 4)).take (nAt L (P + 2) 2).toNat) else none) = none) := Lib.hid (by rw [if_neg (fun h => hid1 (by rw [Hiv.out]; exact h.1))])
            have hb1 : (id_ == 1) = false := by simpa using hid1
            have Hrel := Lib.hid (show ItI L A n c w (.slice none 0 0) w3 from ⟨_, none, Q4.out, .inl ⟨rfl, rfl⟩, by rw [Hgo.out, Hif.out], Hb3.out⟩)
            have Hme := Lib.hid (show n - posW w3 w.heap.size < n - posW wr w.heap.size by rw [posW_of Hc3.out, posW_of Hc1.out]; omega)
            clear hid1
            go_wp2_with fail
            go_roundw
            case rel => exact Hrel
            case measure => exact Hme.out
        · have Hif : Hid ((if nAt L P 2 = 1 ∧ some lo = none then some ((L.drop (P + 4)).take (nAt L (P + 2) 2).toNat) else some lo) = some lo) := Lib.hid (by rw [if_neg (fun h => by cases h.2)])
          have Hrel := Lib.hid (show ItI L A n c w (.slice (some ⟨go, 0, none⟩) mo co) w3 from ⟨_, some lo, Q4.out, .inr ⟨lo, go, mo, co, rfl, rfl, hmo, hoo⟩, by rw [Hgo.out, Hif.out], Hb3.out⟩)
          have Hme := Lib.hid (show n - posW w3 w.heap.size < n - posW wr w.heap.size by rw [posW_of Hc3.out, posW_of Hc1.out]; omega)
          clear hoo
          by_cases hid1 : id_ = 1
          · subst hid1
            go_wp2_with fail
            go_roundw
            case rel => exact Hrel
            case measure => exact Hme.out
          · have hb1 : (id_ == 1) = false := by simpa using hid1
            clear hid1
            go_wp2_with fail
            go_roundw
            case rel => exact Hrel
            case measure => exact Hme.out
      · have hb3 : (e3 != 0) = true := by simpa using he
        have Hno := Lib.hid (show itG L 0 none = none by
          rw [Hit.out]
          refine itG_no (by have := Hll.out; omega) ?_
          rcases Q3.out.er he with ⟨_, _, h⟩ | ⟨h, _⟩
          · by_cases h2 : e2 = 0
            · obtain ⟨_, _, hv⟩ := I2.out h2
              right; rw [Hll.out, ← hv]; simp; omega
            · have := X2.out h2
              left; rw [Hll.out]; omega
          · exact absurd rfl h)
        clear he ho3'
        go_wp2_with fail
        go_ret2
        exact ⟨none, 0, 0, false, rfl, ⟨[], own_nilB _ _ _, ⟨Nat.le_refl _, by omega⟩, .inr ⟨rfl, Hno.out⟩⟩, Hb3.out⟩
    · have Hend := Lib.hid (hit.trans (itG_end (L := L) (p := P) (o := o) (by have := Hll.out; omega)))
      have Hbw := Lib.hid hbw
      clear hit hbw hq hrel
      rcases ho with ⟨rfl, rfl⟩ | ⟨lo, go, mo, co, rfl, rfl, hmo, hoo⟩
      · go_wp2_with fail
        go_ret2
        exact ⟨none, 0, 0, true, rfl, ⟨[], own_nilB _ _ _, ⟨Nat.le_refl _, by omega⟩, .inl ⟨rfl, none, Hend.out, rfl⟩⟩, Hbw.out⟩
      · go_wp2_with fail
        go_ret2
        exact ⟨_, mo, co, true, rfl, ⟨lo, own_base hoo (Nat.le_succ _), hmo, .inl ⟨rfl, some lo, Hend.out, rfl⟩⟩, Hbw.out⟩
end Go.Proofs.Ytbdehlphblbmoaa
