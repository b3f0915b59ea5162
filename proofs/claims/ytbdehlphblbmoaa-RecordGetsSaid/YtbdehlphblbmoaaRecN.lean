/- The document's answer for record: item, widen. -/
import Derived.Test.YtbdehlphblbmoaaRec7
import Derived.Test.YtbdehlphblbmoaaInts
import Derived.Test.YtbdehlphblbmoaaRecK
namespace Go.Proofs.Ytbdehlphblbmoaa
open Go.RowKit
attribute [local go_sem ↓] Go.wp_at_zero Go.wp_at_succ

theorem at_numI (A : Option Addr) (n c p x : Nat) (z y : Int) (L : List UInt8) (w : World) (hr : Rd w w.heap.size 1 A n (bys L)) (hnc : n ≤ c) (hn : n ≤ 1000000000) (hp : p + x ≤ n) (hx : x ≤ 6) (hx0 : 0 < x) (hz : z = (p : Int)) (hy : y = (x : Int)) :
    Calls Try.prog 20 #[.slice A n c, .int .i64 z, .int .i64 y] w fun e w' => e = .returned (.int .i64 (nAt L p x)) ∧ w = w' := by
  subst hz hy; exact at_num A n c p x L w hr hnc hn hp hx hx0
theorem at_longI (A : Option Addr) (n c p : Nat) (z : Int) (L : List UInt8) (w : World) (hr : Rd w w.heap.size 1 A n (bys L)) (hnc : n ≤ c) (hn : n ≤ 1000000000) (hp : p + 8 ≤ n) (hz : z = (p : Int)) :
    Calls Try.prog 20 #[.slice A n c, .int .i64 z, .int .i64 8] w fun e w' => e = .returned (.int .i64 (long8 L p)) ∧ w = w' := by
  subst hz; exact at_long A n c p L w hr hnc hn hp
/-- What the document's item says. -/
def RIQ (L : List UInt8) (w : World) (A : Option Addr) (m c : Nat) (well : Bool) : Prop :=
  (m ≤ c ∧ m ≤ 65535) ∧ ((well = true ∧ ∃ o, itG L 0 none = some o ∧ Rd w w.heap.size 1 A m (bys (o.getD []))) ∨ (well = false ∧ itG L 0 none = none))
theorem Bk.set3 {w : World} {g : Nat} {T : TypeId} {c0 c1 c2 : Value} (h : Bk w g T #[c0, c1, c2]) (u0 u1 u2 : Value) : Bk (((w.setCell ⟨g, 0, none⟩ u0).setCell ⟨g, 1, none⟩ u1).setCell ⟨g, 2, none⟩ u2) g T #[u0, u1, u2] :=
  ((h.set 0 u0).set 1 u1).set 2 u2
theorem below_set3 {B : Nat} {a w : World} (h : Below B a w) {g : Nat} (hg : B ≤ g) (u0 u1 u2 : Value) : Below B a (((w.setCell ⟨g, 0, none⟩ u0).setCell ⟨g, 1, none⟩ u1).setCell ⟨g, 2, none⟩ u2) :=
  ((h.setCell (p := ⟨g, 0, none⟩) hg _).setCell (p := ⟨g, 1, none⟩) hg _).setCell (p := ⟨g, 2, none⟩) hg _
/-- Between the rounds. -/
structure RiI (L : List UInt8) (w0 wr : World) (P : Nat) (o : Option (List UInt8)) (A : Option Addr) (m c : Nat) : Prop where
  rs : Bk wr w0.heap.size 82 #[.slice none 0 0, .bool false, .bool false]
  ou : Bk wr (w0.heap.size + 1) 82 #[.slice A m c, .bool o.isSome, .bool true]
  mc : m ≤ c ∧ m ≤ 65535
  rd : Rd w0 w0.heap.size 1 A m (bys (o.getD []))
  it : itG L 0 none = itG L P o
  bl : Below w0.heap.size w0 wr
set_option maxHeartbeats 2000000 in
theorem ritem_any (A : Option Addr) (n c : Nat) (L : List UInt8) (w : World) (hr : Rd w w.heap.size 1 A n (bys L)) (hnc : n ≤ c) (hn : n ≤ 1000000000) :
    Calls Try.prog 41 #[.slice A n c] w fun e w' => (∃ A1 m1 c1 is well, e = .returned (.agg #[.slice A1 m1 c1, .bool is, .bool well]) ∧ RIQ L w A1 m1 c1 well) ∧ Below w.heap.size w w' := by
  have hll := hr.blen
  have Hr := Lib.hid hr
  have Hll := Lib.hid hll
  clear hr hll
  have H0 := Lib.hid (show RiI L w ((w.alloc (.cells #[.slice none 0 0, .bool false, .bool false] 82)).alloc (.cells #[.slice none 0 0, .bool false, .bool true] 82)) 0 none none 0 0 from
    ⟨Bk.alloc (Bk.new _ _ _) _, Bk.new' _ _ _ (by simp), by omega, Rd.nil_, rfl, ((Below.refl _ _).alloc (Nat.le_refl _) _).alloc (by simp) _⟩)
  go_enter Try.func41, Try.ntmps41
  go_wp2_with fail
  go_loopw [4] (fun v wr => ∃ P : Nat, v = .int .i64 P ∧ P ≤ n ∧ Hid (∃ o A1 m1 c1, RiI L w wr P o A1 m1 c1)) (fun v _ => n - (intOf v).toNat)
  case atStart => exact ⟨0, rfl, Nat.zero_le _, Lib.hid ⟨_, _, _, _, H0.out⟩⟩
  case round =>
    obtain ⟨P, rfl, hP, HI⟩ := hrel
    obtain ⟨o, A1, m1, c1, hi⟩ := HI.out
    obtain ⟨d0, d1, d2⟩ : wr.cell? ⟨w.heap.size, 0, none⟩ = some (.slice none 0 0) ∧ wr.cell? ⟨w.heap.size, 1, none⟩ = some (.bool false) ∧ wr.cell? ⟨w.heap.size, 2, none⟩ = some (.bool false) := ⟨hi.rs.cell 0, hi.rs.cell 1, hi.rs.cell 2⟩
    obtain ⟨z0, z1, z2⟩ : wr.frozen? ⟨w.heap.size, 0, none⟩ = false ∧ wr.frozen? ⟨w.heap.size, 1, none⟩ = false ∧ wr.frozen? ⟨w.heap.size, 2, none⟩ = false := ⟨hi.rs.free 0, hi.rs.free 1, hi.rs.free 2⟩
    obtain ⟨f0, f1, f2⟩ : wr.cell? ⟨w.heap.size + 1, 0, none⟩ = some (.slice A1 m1 c1) ∧ wr.cell? ⟨w.heap.size + 1, 1, none⟩ = some (.bool o.isSome) ∧ wr.cell? ⟨w.heap.size + 1, 2, none⟩ = some (.bool true) := ⟨hi.ou.cell 0, hi.ou.cell 1, hi.ou.cell 2⟩
    obtain ⟨y0, y1⟩ : wr.frozen? ⟨w.heap.size + 1, 0, none⟩ = false ∧ wr.frozen? ⟨w.heap.size + 1, 1, none⟩ = false := ⟨hi.ou.free 0, hi.ou.free 1⟩
    have hlt1 := hi.rs.lt
    have hlt2 := hi.ou.lt
    have Hi := Lib.hid hi
    have hrw := (Hr.out.below hi.bl (Nat.le_refl _)).more hi.bl.size
    have Hrw := Lib.hid hrw
    clear hi HI hrw H0
    by_cases hlt : P < n
    · by_cases h4 : P + 4 ≤ n
      · have b2 := nAt_2 L (P + 2)
        have Ha2 := Lib.hid (at_numI A n c (P + 2) 2 ((P : Int) + 2) 2 L wr Hrw.out hnc hn (by omega) (by omega) (by omega) (by omega) rfl)
        obtain ⟨m, hm⟩ : ∃ m : Nat, nAt L (P + 2) 2 = m := ⟨(nAt L (P + 2) 2).toNat, by omega⟩
        have Hm := Lib.hid hm
        have Ha1 := Lib.hid (at_numI A n c P 2 (P : Int) 2 L wr Hrw.out hnc hn (by omega) (by omega) (by omega) rfl rfl)
        rw [hm] at b2 Ha2
        clear hm
        go_wp2_with fail
        refine Ha2.out.mono ?_
        rintro e w1 ⟨rfl, rfl⟩
        clear Ha2
        by_cases h5 : P + 4 + m ≤ n
        · have Hgo := Lib.hid (Hi.out.it.trans (itG_go (L := L) (p := P) (o := o) (by have := Hll.out; omega) (by have := Hll.out; have := Hm.out; omega)))
          rw [Hm.out, Int.toNat_natCast] at Hgo
          go_wp2_with fail
          refine Ha1.out.mono ?_
          rintro e w1 ⟨rfl, rfl⟩
          clear Ha1
          have b1 := nAt_2 L P
          by_cases h1 : nAt L P 2 = 1
          · cases o with
            | none =>
              have hcu := Hr.out.bcut (k := P + 4) (m := m) (by omega) (A' := A.map (·.add (P + 4))) (fun _ => rfl)
              rw [if_pos ⟨h1, rfl⟩] at Hgo
              have Hgo' := Hgo
              rw [h1]
              clear h1 Hgo b1
              have Hcu := Lib.hid hcu
              clear hcu
              go_wp2_with ((with_reducible refine at_slice ?_); refine cut_bys ((Hr.out.below Hi.out.bl (Nat.le_refl _)).setCell (p := ⟨w.heap.size + 1, 1, none⟩) (by simp) (.bool true)) hnc (P + 4) m (by omega) rfl rfl rfl (by omega) (by omega) rfl ?_; intro A2 c2 hr2 hm2 hc2)
              go_roundw
              case rel =>
                refine ⟨P + 4 + m, by go_num, by omega, Lib.hid ⟨some ((L.drop (P + 4)).take m), A2, m, c2, ⟨(Hi.out.rs.far (p := ⟨w.heap.size + 1, 1, none⟩) (by simp) _).far (p := ⟨w.heap.size + 1, 0, none⟩) (by simp) _, (Hi.out.ou.set 1 (.bool true)).set 0 (.slice A2 m c2), ⟨hm2, by omega⟩, ?_, Hgo'.out, (Hi.out.bl.setCell (p := ⟨w.heap.size + 1, 1, none⟩) (by simp) _).setCell (p := ⟨w.heap.size + 1, 0, none⟩) (by simp) _⟩⟩⟩
                exact Rd.keep hr2 (fun q hq => ((Hi.out.bl.setCell (p := ⟨w.heap.size + 1, 1, none⟩) (by simp) (.bool true)).cell hq).symm)
              case measure => simp [intOf]; omega
            | some l =>
              rw [if_neg (fun h => by cases h.2)] at Hgo
              have Hi2 := Lib.hid (show RiI L w wr (P + 4 + m) (some l) A1 m1 c1 from ⟨Hi.out.rs, Hi.out.ou, Hi.out.mc, Hi.out.rd, Hgo.out, Hi.out.bl⟩)
              rw [h1]
              clear h1 Hgo Hi b1
              simp only [Option.isSome_some] at f1
              go_wp2_with fail
              go_roundw
              case rel => exact ⟨P + 4 + m, by go_num, by omega, Lib.hid ⟨_, _, _, _, Hi2.out⟩⟩
              case measure => simp [intOf]; omega
          · rw [if_neg (fun h => h1 h.1)] at Hgo
            have Hi2 := Lib.hid (show RiI L w wr (P + 4 + m) o A1 m1 c1 from ⟨Hi.out.rs, Hi.out.ou, Hi.out.mc, Hi.out.rd, Hgo.out, Hi.out.bl⟩)
            have hb1 : (nAt L P 2 == 1) = false := by simpa using h1
            clear h1 Hgo Hi
            generalize nAt L P 2 = x at *
            go_wp2_with fail
            go_roundw
            case rel => exact ⟨P + 4 + m, by go_num, by omega, Lib.hid ⟨_, _, _, _, Hi2.out⟩⟩
            case measure => simp [intOf]; omega
        · have Hno := Lib.hid (Hi.out.it.trans (itG_no (L := L) (p := P) (o := o) (by have := Hll.out; omega) (.inr (by have := Hll.out; have := Hm.out; omega))))
          go_wp2
          exact bodyPost_ret (v := .agg #[.slice none 0 0, .bool false, .bool false]) (by simp [results, Try.results41, go_sem, d0, d1, d2]) rfl ⟨⟨_, _, _, _, _, rfl, by omega, .inr ⟨rfl, Hno.out⟩⟩, below_set3 Hi.out.bl (Nat.le_refl _) _ _ _⟩
      · have Hno := Lib.hid (Hi.out.it.trans (itG_no (L := L) (p := P) (o := o) (by have := Hll.out; omega) (.inl (by have := Hll.out; omega))))
        go_wp2
        exact bodyPost_ret (v := .agg #[.slice none 0 0, .bool false, .bool false]) (by simp [results, Try.results41, go_sem, d0, d1, d2]) rfl ⟨⟨_, _, _, _, _, rfl, by omega, .inr ⟨rfl, Hno.out⟩⟩, below_set3 Hi.out.bl (Nat.le_refl _) _ _ _⟩
    · have Hend := Lib.hid (Hi.out.it.trans (itG_end (L := L) (p := P) (o := o) (by have := Hll.out; omega)))
      have Hq := Lib.hid (Hi.out.rs.set3 (.slice A1 m1 c1) (.bool o.isSome) (.bool true))
      go_wp2
      have q0 := Hq.out.cell 0
      have q1 := Hq.out.cell 1
      have q2 := Hq.out.cell 2
      exact bodyPost_ret (v := .agg #[.slice A1 m1 c1, .bool o.isSome, .bool true]) (by simp [results, Try.results41, go_sem, q0, q1, q2]) rfl ⟨⟨_, _, _, _, _, rfl, Hi.out.mc, .inl ⟨rfl, _, Hend.out, Hi.out.rd⟩⟩, below_set3 Hi.out.bl (Nat.le_refl _) _ _ _⟩
end Go.Proofs.Ytbdehlphblbmoaa
