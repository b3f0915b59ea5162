/- Contracts of package glob: class: its walk. -/
import Derived.Test.YtbdehlphblbmoaaDoorGlbI
namespace Go.Proofs.YtbdehlphblbmoaaDoor
open Go.RowKit
attribute [local go_sem ↓] Go.wp_at_zero Go.wp_at_succ

/-- What the loop holds. -/
def ClR (R0 : Option (List (Int × Int) × List Int)) (gp rb B : Nat) (w : World) (nt : Bool) (wr : World) : Prop :=
  ∃ (m : Nat) (rs : List (Int × Int)) (l' : List Int) (x1 x2 : Value), Hid (ClM wr gp rb B w nt x1 x2 rs.length rs.length (rs.map (·.1)) (rs.map (·.2)) l' ∧ Bk wr gp 102 #[.bool nt, x1, x2] ∧ clsR m rs l' = R0 ∧ l'.length < m ∧ rs.length + l'.length ≤ 100000)
/-- Behind a rune of a class: is a range told? -/
def ClU (l : List Int) (t : Bool) : Prop := (t = true → ∃ y m, l = 45 :: y :: m ∧ y ≠ 93) ∧ (t = false → ¬ (1 < l.length ∧ l.head? = some 45 ∧ l[1]? ≠ some 93))
set_option maxHeartbeats 4000000 in
set_option maxRecDepth 100000 in
theorem class_any (rb B N : Nat) (l : List Int) (w : World) (h : GRd w rb B l) (hB : B ≤ w.heap.size) (hb : B ≤ rb) (hN : (isR 33 l).2.length < N) :
    Calls Tryd.prog 33 #[.pointer (some ⟨rb, 0, none⟩)] w (ClE w rb B (isR 33 l).1 (clsR N [] (isR 33 l).2)) := by
  have hrl := h.lt
  have hlen := h.len
  have H1 := Lib.hid (gis_any rb B l 33 w h hb)
  have Hl2 := Lib.hid (show (isR 33 l).2.length ≤ 100000 from by
    have : (isR 33 l).2.length ≤ l.length := by cases l with
      | nil => exact Nat.le_refl _
      | cons x m => rw [isR]; split <;> simp
    omega)
  have HN := Lib.hid hN
  clear h hN hlen
  obtain ⟨nt, hnt⟩ : ∃ nt, (isR 33 l).1 = nt := ⟨_, rfl⟩
  obtain ⟨l0, hl0⟩ : ∃ l0, (isR 33 l).2 = l0 := ⟨_, rfl⟩
  rw [hnt, hl0] at H1 ⊢
  rw [hl0] at HN Hl2
  clear hnt hl0 l
  obtain ⟨R0, hR0⟩ : ∃ R0, clsR N [] l0 = R0 := ⟨_, rfl⟩
  rw [hR0]
  have HR0 := Lib.hid hR0
  clear hR0
  go_enter Tryd.func33, Tryd.ntmps33
  go_wp2_with fail
  with_reducible refine H1.out.mono ?_
  rintro e w1 ⟨rfl, h1, c1⟩
  have hz1 := c1.size
  have HB0 := Lib.hid (Bk.new w1 102 #[.bool nt, .slice none 0 0, .slice none 0 0])
  have HC0 := Lib.hid (c1.alloc (.cells #[.bool nt, .slice none 0 0, .slice none 0 0] 102))
  have HD0 := Lib.hid (h1.ch ((Ch.refl (fun _ => False) w1).alloc (.cells #[.bool nt, .slice none 0 0, .slice none 0 0] 102)) (by omega) (fun h => h) (fun _ h => h.elim))
  clear h1 c1 H1
  go_wp2_with fail
  obtain ⟨gp, hgp⟩ : ∃ gp, w1.heap.size = gp := ⟨_, rfl⟩
  rw [hgp] at HB0 hz1
  have HM0 := Lib.hid (show ClM (w1.alloc (.cells #[.bool nt, .slice none 0 0, .slice none 0 0] 102)) gp rb B w nt (.slice none 0 0) (.slice none 0 0) 0 0 [] [] l0 from
    ⟨World.ownsRow_nil _ _ _ _, World.ownsRow_nil _ _ _ _, (fun b hb => by simp [Value.ownBlock] at hb), HC0.out, HD0.out, hz1, by simp; omega, hrl, hB, hb⟩)
  clear HC0 HD0
  generalize hww : (w1.alloc (.cells #[.bool nt, .slice none 0 0, .slice none 0 0] 102)) = w2 at *
  clear hww
  simp only [hgp]
  clear hgp
  go_loopw [] (fun wr => ClR R0 gp rb B w nt wr) (fun wr => rdLen wr rb)
  case atStart => exact ⟨N, [], l0, .slice none 0 0, .slice none 0 0, Lib.hid ⟨HM0.out, HB0.out, HR0.out, HN.out, by simpa using Hl2.out⟩⟩
  case round =>
    obtain ⟨m, rs, l', x1, x2, HI⟩ := hrel
    obtain ⟨i1, i2, i3, i4, i5⟩ := HI.out
    obtain ⟨A1, c1, rfl, _, _⟩ := own_form i1.o1
    obtain ⟨A2, c2, rfl, _, _⟩ := own_form i1.o2
    have r1 : wr.cell? ⟨gp, 1, none⟩ = some (.slice A1 rs.length c1) := i2.cell 1
    have HM := Lib.hid i1
    have HK := Lib.hid i2
    have HR := Lib.hid i3
    have HmL := Lib.hid i4
    have HsL := Lib.hid i5
    have Hms := Lib.hid i1.rd.rdLen
    have Hgi := Lib.hid (gis_any rb B l' 93 wr i1.rd hb)
    clear i1 i2 i3 i4 i5 HI HM0 HB0 HR0 HN Hl2
    obtain ⟨k, hk⟩ : ∃ k, rs.length = k := ⟨_, rfl⟩
    have Hk := Lib.hid hk
    rw [hk] at r1
    clear hk
    go_upto_region 2 with (fail)
    go_cut [19] (fun v19 wx => ∃ (bb : Bool) (l2 : List Int), v19 = .bool bb ∧ ClT wx gp rb B w nt (.slice A1 rs.length c1) (.slice A2 rs.length c2) rs l' bb l2)
    case first =>
      cases k with
      | zero =>
        have hrs : rs = [] := List.eq_nil_of_length_eq_zero Hk.out
        have HF := Lib.hid (show ClT wr gp rb B w nt (.slice A1 rs.length c1) (.slice A2 rs.length c2) rs l' true l' from
          ⟨HM.out, HK.out, (fun _ => ⟨rfl, fun h => h.1 hrs⟩), (fun h => by cases h)⟩)
        clear hrs Hgi
        go_wp2_with fail
        go_meet
        exact ⟨true, l', rfl, HF.out⟩
      | succ k =>
        have hk1 : ((k : Int) + 1 == 0) = false := by simp; omega
        go_wp2_with fail
        with_reducible refine Hgi.out.mono ?_
        rintro e w3 ⟨rfl, h3, c3⟩
        have hrs : rs ≠ [] := fun e => by have := Hk.out; rw [e] at this; simp at this
        have HF := Lib.hid (HM.out.ch' c3 h3)
        have HK3 := Lib.hid (HK.out.ch c3 (fun e => by have := HM.out.gp_ge; have := HM.out.rb_lt; omega))
        obtain ⟨q, hq⟩ : ∃ q, (isR 93 l').1 = q := ⟨_, rfl⟩
        obtain ⟨l2, hl2⟩ : ∃ l2, (isR 93 l').2 = l2 := ⟨_, rfl⟩
        rw [hl2] at HF
        have HG := Lib.hid (show (q = false → l2 = l' ∧ ¬ (rs ≠ [] ∧ l'.head? = some 93)) ∧ (q = true → rs ≠ [] ∧ l' = 93 :: l2) from by
          have h := isR_two 93 l'
          rw [hq, hl2] at h
          exact ⟨fun e => ⟨(h.1 e).1, fun h2 => (h.1 e).2 h2.2⟩, fun e => ⟨hrs, h.2 e⟩⟩)
        rw [hq]
        clear h3 c3 Hgi hk1 hq hl2 hrs
        cases q
        · go_wp2_with fail
          go_meet
          exact ⟨true, l2, rfl, HF.out, HK3.out, (fun _ => HG.out.1 (by simp)), (fun h => by cases h)⟩
        · go_wp2_with fail
          go_meet
          exact ⟨false, l2, rfl, HF.out, HK3.out, (fun h => by cases h), fun _ => HG.out.2 (by simp)⟩
    case rest =>
      clear Hgi r1
      rename_i hcut
      obtain ⟨bb, l2, rfl, hct⟩ := hcut
      obtain ⟨j1, j2, j3, j4⟩ := hct
      cases bb
      · obtain ⟨hrs, hl'⟩ := j4 rfl
        have HE := Lib.hid (show ClE w rb B nt R0 (.returned (.tuple #[.iface 102 (.agg #[.bool nt, .slice A1 rs.length c1, .slice A2 rs.length c2]), .bool true])) wc from by
          have hm := HmL.out
          obtain ⟨q, rfl⟩ : ∃ q, m = q + 1 := ⟨m - 1, by omega⟩
          have hR := HR.out
          rw [hl', clsR_end hrs] at hR
          rw [← hR]
          refine ⟨j1.ch, _, rfl, ⟨A1, c1, A2, c2, rfl, own_base j1.o1 (by have := j1.gp_ge; omega), own_base j1.o2 (by have := j1.gp_ge; omega), by have := HsL.out; omega⟩, j1.rd⟩)
        have q0 : wc.cell? ⟨gp, 0, none⟩ = some (.bool nt) := j2.cell 0
        have q1 : wc.cell? ⟨gp, 1, none⟩ = some (.slice A1 rs.length c1) := j2.cell 1
        have q2 : wc.cell? ⟨gp, 2, none⟩ = some (.slice A2 rs.length c2) := j2.cell 2
        clear j1 j2 j4 hrs hl' j3 HM HK HR HmL HsL Hms
        go_wp2_with fail
        go_ret2
        exact HE.out
      · obtain ⟨rfl, hno⟩ := j3 rfl
        have Hp := Lib.hid (gplain_any rb B l2 wc j1.rd j1.bR (by have := j1.ch.size; have := j1.bB; omega))
        have J1 := Lib.hid j1
        have J2 := Lib.hid j2
        have Hno := Lib.hid hno
        clear j1 j2 j3 j4 hno HM HK
        go_wp2_with fail
        with_reducible refine Hp.out.mono ?_
        rintro e w4 ⟨a, bb, rfl, hp1, hp2, hp3, hp4⟩
        cases bb
        · have HE := Lib.hid (show ClE w rb B nt R0 (.returned (.tuple #[.nilIface, .bool false])) w4 from by
            have hm := HmL.out
            obtain ⟨q, rfl⟩ : ∃ q, m = q + 1 := ⟨m - 1, by omega⟩
            have hR := HR.out
            rw [clsR_none Hno.out (hp3 rfl)] at hR
            rw [← hR]
            exact ⟨J1.out.ch.trans hp4 (fun i hi => .inl hi), rfl⟩)
          clear hp1 hp2 hp3 hp4 J1 J2
          go_wp2_with fail
          go_ret2
          exact HE.out
        · obtain ⟨l3, hl3⟩ := hp2 rfl
          have J4 := Lib.hid (J1.out.ch' hp4 (hp1 l3 ⟨hl3, rfl⟩))
          have K4 := Lib.hid (J2.out.ch hp4 (fun e => by have := J1.out.gp_ge; have := J1.out.rb_lt; omega))
          have Hl3 := Lib.hid hl3
          clear hp1 hp2 hp3 hp4 J1 J2 hl3 Hp
          go_upto_region 7 with (fail)
          go_cut [51] (fun v51 wx => wx = w4 ∧ ∃ t : Bool, v51 = .bool t ∧ ClU l3 t)
          case first =>
            obtain ⟨A, n, c, r0, hlen, hnc, hn1, hat⟩ := J4.out.rd.open
            match l3, hlen, hat with
            | [], hlen, hat =>
              have hn : n = 0 := hlen.symm
              subst hn
              clear hat hlen hnc hn1
              go_wp2_with fail
              go_meet
              exact ⟨rfl, false, rfl, (fun h => by cases h), fun _ h => by simp at h⟩
            | [x], hlen, hat =>
              have hn : n = 1 := hlen.symm
              subst hn
              clear hat hlen hnc hn1
              go_wp2_with fail
              go_meet
              exact ⟨rfl, false, rfl, (fun h => by cases h), fun _ h => by simp at h⟩
            | x :: y :: m2, hlen, hat =>
              obtain ⟨b, o, rfl, k0⟩ := hat 0 x rfl
              obtain ⟨b', o', e, k1⟩ := hat 1 y rfl
              injection e with e
              injection e with e1 e2 _
              subst e1 e2
              rw [Nat.add_zero] at k0
              have h1 : (1 : Int) < (n : Int) := by simp at hlen; omega
              have h0 : (0 : Int) < (n : Int) := by omega
              have h2 : 1 < n := by omega
              have h3 : 0 < n := by omega
              clear hat hlen hnc hn1
              by_cases hx : x = 45
              · by_cases hy : y = 93
                · have hx' : (x == 45) = true := by simpa using hx
                  have hy' : (y != 93) = false := by simpa using hy
                  have HU := Lib.hid (show ClU (x :: y :: m2) false from ⟨(fun h => by cases h), fun _ h => h.2.2 (by rw [hy]; rfl)⟩)
                  clear hx hy
                  go_wp2_with fail
                  go_meet
                  exact ⟨rfl, false, rfl, HU.out⟩
                · have hx' : (x == 45) = true := by simpa using hx
                  have hy' : (y != 93) = true := by simpa using hy
                  have HU := Lib.hid (show ClU (x :: y :: m2) true from ⟨(fun _ => ⟨y, m2, by rw [hx], hy⟩), fun h => by cases h⟩)
                  clear hx hy
                  go_wp2_with fail
                  go_meet
                  exact ⟨rfl, true, rfl, HU.out⟩
              · have hx' : (x == 45) = false := by simpa using hx
                have HU := Lib.hid (show ClU (x :: y :: m2) false from ⟨(fun h => by cases h), fun _ h => hx (by simpa using h.2.1)⟩)
                clear hx
                go_wp2_with fail
                go_meet
                exact ⟨rfl, false, rfl, HU.out⟩
          case rest =>
            obtain ⟨rfl, t, rfl, hU⟩ := hcut
            go_upto_if 51 with (fail)
            go_cut [6, 7] (fun v6 v7 wx => ∃ (b : Int) (l4 : List Int) (m2 : Nat), v7 = .int .i32 b ∧ Hid (ClM wx gp rb B w nt (.slice A1 rs.length c1) (.slice A2 rs.length c2) rs.length rs.length (rs.map (·.1)) (rs.map (·.2)) l4 ∧ Bk wx gp 102 #[.bool nt, .slice A1 rs.length c1, .slice A2 rs.length c2] ∧ clsR m2 (rs ++ [(a, b)]) l4 = R0 ∧ l4.length < m2 ∧ l4.length < l2.length))
            case first =>
              obtain ⟨q, hq⟩ : ∃ q, m = q + 1 := ⟨m - 1, by have := HmL.out; omega⟩
              have hless := plainR_less Hl3.out
              have HmL2 := Lib.hid (show l3.length < q from by have := HmL.out; omega)
              cases t
              · have HX := Lib.hid (show clsR q (rs ++ [(a, a)]) l3 = R0 from by have hR := HR.out; rw [hq, clsR_one Hno.out Hl3.out (hU.2 rfl)] at hR; exact hR)
                have HL := Lib.hid hless
                clear hq hless hU
                go_wp2_with fail
                go_meet
                exact ⟨a, l3, q, rfl, Lib.hid ⟨J4.out, K4.out, HX.out, HmL2.out, HL.out⟩⟩
              · obtain ⟨y, m3, rfl, hy⟩ := hU.1 rfl
                have Hnx := Lib.hid (gnext_any rb B (45 :: y :: m3) _ J4.out.rd hb)
                have Hy := Lib.hid hy
                have HL := Lib.hid hless
                have Hq := Lib.hid hq
                clear hq hless hU hy
                go_wp2_with fail
                with_reducible refine Hnx.out.mono ?_
                rintro e w5 (⟨h, _⟩ | ⟨x, m4, hxm, rfl, h5, c5⟩)
                · cases h
                injection hxm with hx hm4
                subst hx hm4
                have J5 := Lib.hid (J4.out.ch' c5 h5)
                have K5 := Lib.hid (K4.out.ch c5 (fun e => by have := J4.out.gp_ge; have := J4.out.rb_lt; omega))
                clear h5 c5 Hnx J4 K4
                have Hp2 := Lib.hid (gplain_any rb B (y :: m3) _ J5.out.rd hb (by have := J5.out.ch.size; have := J5.out.bB; omega))
                go_wp2_with fail
                with_reducible refine Hp2.out.mono ?_
                rintro e w6 ⟨b, bb, rfl, hp1, hp2, hp3, hp4⟩
                cases bb
                · have HE := Lib.hid (show ClE w rb B nt R0 (.returned (.tuple #[.nilIface, .bool false])) w6 from by
                    have hR := HR.out
                    rw [Hq.out, clsR_bad Hno.out Hl3.out Hy.out (hp3 rfl)] at hR
                    rw [← hR]
                    exact ⟨J5.out.ch.trans hp4 (fun i hi => .inl hi), rfl⟩)
                  clear hp1 hp2 hp3 hp4 J5 K5
                  go_wp2_with fail
                  go_ret2
                  exact HE.out
                · obtain ⟨l4, hl4⟩ := hp2 rfl
                  have J6 := Lib.hid (J5.out.ch' hp4 (hp1 l4 ⟨hl4, rfl⟩))
                  have K6 := Lib.hid (K5.out.ch hp4 (fun e => by have := J5.out.gp_ge; have := J5.out.rb_lt; omega))
                  have hR := HR.out
                  rw [Hq.out, clsR_two Hno.out Hl3.out Hy.out hl4] at hR
                  have hless4 := plainR_less hl4
                  have HL4 := Lib.hid (show l4.length < q ∧ l4.length < l2.length from by have := HL.out; have := HmL2.out; simp at *; omega)
                  by_cases hba : b < a
                  · have HE := Lib.hid (show ClE w rb B nt R0 (.returned (.tuple #[.nilIface, .bool false])) w6 from by
                      rw [if_pos hba] at hR
                      rw [← hR]
                      exact ⟨J6.out.ch, rfl⟩)
                    clear hp1 hp2 hp3 hp4 J5 K5 J6 K6 hR hl4 hless4 Hp2
                    go_wp2_with fail
                    go_ret2
                    exact HE.out
                  · rw [if_neg hba] at hR
                    have HR6 := Lib.hid hR
                    clear hp1 hp2 hp3 hp4 J5 K5 hR hl4 hless4 Hp2
                    go_wp2_with fail
                    go_meet
                    exact ⟨b, l4, q, rfl, Lib.hid ⟨J6.out, K6.out, HR6.out, HL4.out.1, HL4.out.2⟩⟩
            case rest =>
              clear J4 K4 hU
              obtain ⟨b, l4, m2, rfl, HI⟩ := hcut
              obtain ⟨j1, j2, j3, j4, j5⟩ := HI.out
              clear HI
              have hk1 : rs.length ≤ 100000 := by have := HsL.out; omega
              generalize hk' : rs.length = k' at *
              go_wp2_with fail
              refine wp_region_u 11 (fun W => Bk W gp 102 #[.bool nt, .slice A1 k' c1, .slice A2 k' c2]) (by kernel_rfl) (fun hcl0 => ?_)
              have hR0 : Bk wc.drew gp 102 #[.bool nt, .slice A1 k' c1, .slice A2 k' c2] := j2.drew
              have hM0 := j1.drew
              clear j1 j2
              generalize wc.drew = w0 at hR0 hM0 ⊢
              refine wpAnyU_take0 (i := 0) (v := .pointer (some ⟨gp, 1, none⟩)) hcl0 rfl (by kernel_rfl) (by kernel_rfl) (by kernel_rfl) (by decide) (fun _ _ _ h => h) (.inl ⟨by rfl, fun w' _ => ?_⟩) (fun _ => hR0) (fun hcl1 => ?_)
              · go_simp
              clear hcl0
              try go_frame
              refine wpAnyU_take (i := 1) (v := .slice A1 k' c1) hcl1 rfl (by kernel_rfl) (by kernel_rfl) (by kernel_rfl) (by kernel_rfl) (by decide) (fun _ _ _ h => h) (.inl ⟨by rfl, fun w' hw' => ?_⟩) hR0 (fun hcl2 => ?_)
              · have e := hw'.cell 1
                simp only [List.getElem?_toArray, List.getElem?_cons_succ, List.getElem?_cons_zero] at e
                clear hcl1 hR0; go_simp
              clear hcl1
              try go_frame
              refine wpAnyU_take0 (i := 2) (v := .int .i32 a) hcl2 rfl (by kernel_rfl) (by kernel_rfl) (by kernel_rfl) (by decide) (fun _ _ _ h => h) (.inl ⟨by rfl, fun w' _ => ?_⟩) (fun _ => hR0) (fun hcl3 => ?_)
              · go_simp
              clear hcl2
              try go_frame
              refine wpAnyU_take0 (i := 5) (v := .pointer (some ⟨gp, 2, none⟩)) hcl3 rfl (by kernel_rfl) (by kernel_rfl) (by kernel_rfl) (by decide) (fun _ _ _ h => h) (.inl ⟨by rfl, fun w' _ => ?_⟩) (fun _ => hR0) (fun hcl4 => ?_)
              · go_simp
              clear hcl3
              try go_frame
              refine wpAnyU_take (i := 6) (v := .slice A2 k' c2) hcl4 rfl (by kernel_rfl) (by kernel_rfl) (by kernel_rfl) (by kernel_rfl) (by decide) (fun _ _ _ h => h) (.inl ⟨by rfl, fun w' hw' => ?_⟩) hR0 (fun hcl5 => ?_)
              · have e := hw'.cell 2
                simp only [List.getElem?_toArray, List.getElem?_cons_succ, List.getElem?_cons_zero] at e
                clear hcl4 hR0; go_simp
              clear hcl4
              try go_frame
              refine wpAnyU_take0 (i := 7) (v := .int .i32 b) hcl5 rfl (by kernel_rfl) (by kernel_rfl) (by kernel_rfl) (by decide) (fun _ _ _ h => h) (.inl ⟨by rfl, fun w' _ => ?_⟩) (fun _ => hR0) (fun hcl6 => ?_)
              · go_simp
              clear hcl5
              try go_frame
              clear hcl6
              have HFin : ∀ (W : World) (B1 : Option Addr) (d1 : Nat) (B2 : Option Addr) (d2 : Nat), ClM W gp rb B w nt (.slice B1 (k' + 1) d1) (.slice B2 (k' + 1) d2) (k' + 1) (k' + 1) (rs.map (·.1) ++ [a]) (rs.map (·.2) ++ [b]) l4 → Bk W gp 102 #[.bool nt, .slice B1 (k' + 1) d1, .slice B2 (k' + 1) d2] →
                  ClR R0 gp rb B w nt W ∧ rdLen W rb < rdLen wr rb := by
                intro W B1 d1 B2 d2 g1 g2
                have hls : (rs ++ [(a, b)]).length = k' + 1 := by rw [List.length_append, hk']; rfl
                refine ⟨⟨m2, rs ++ [(a, b)], l4, _, _, Lib.hid ⟨?_, g2, j3, j4, ?_⟩⟩, ?_⟩
                · rw [hls, List.map_append, List.map_append]; exact g1
                · rw [hls]; have := HsL.out; omega
                · rw [g1.rd.rdLen, Hms.out]; exact j5
              refine wpAnyU_two (i := 3) (k := 8) (by kernel_rfl) rfl rfl (fun K' hK => ?_) (fun K' hK => ?_)
              · go_simp
                refine hK _ _ (fun _ => hR0.alloc _) ?_
                clear hK K'
                have hLp := hM0.lit a
                have hR1 := hR0.alloc (.cells #[.int .i32 a] 21)
                have hM1 := hM0.alloc (.cells #[.int .i32 a] 21)
                clear hM0 hR0
                generalize w0.heap.size = p at hLp ⊢
                generalize w0.alloc (.cells #[.int .i32 a] 21) = w1 at hLp hR1 hM1 ⊢
                refine wpAnyU_two (i := 4) (k := 8) (by kernel_rfl) rfl rfl (fun K' hK => ?_) (fun K' hK => ?_)
                · obtain ⟨B1, d1, w2, hrun, hM2, hke, hbk⟩ := hM1.ap1 hLp 53 hk1
                  have hR2 := hbk _ hR1
                  refine ap_if32 rfl rfl hrun (hK _ _ (fun _ => hR2) ?_)
                  clear hK K' hrun hke hbk hM1 hR1 hLp
                  try go_frame
                  refine wpAnyU_pure (i := 10) (v := .pointer (some ⟨gp, 1, none⟩)) rfl (by kernel_rfl) (by kernel_rfl) (by kernel_rfl) (by decide) (fun _ _ _ h => h) (.inl ⟨by rfl, fun w' _ => ?_⟩) (fun _ => hR2) ?_
                  · go_simp
                  try go_frame
                  refine wpAnyU_one (i := 8) (by kernel_rfl) rfl (fun K' hK => ?_)
                  go_simp
                  refine hK _ _ (fun _ => hR2.alloc _) ?_
                  clear hK K'
                  have hLq := hM2.lit b
                  have hR3 := hR2.alloc (.cells #[.int .i32 b] 21)
                  have hM3 := hM2.alloc (.cells #[.int .i32 b] 21)
                  clear hM2 hR2
                  generalize w2.heap.size = q at hLq ⊢
                  generalize w2.alloc (.cells #[.int .i32 b] 21) = w3 at hLq hR3 hM3 ⊢
                  refine wpAnyU_one (i := 9) (by kernel_rfl) rfl (fun K' hK => ?_)
                  obtain ⟨B2, d2, w4, hrun, hM4, hke, hbk⟩ := hM3.ap2 hLq 53 hk1
                  have hR4 := hbk _ hR3
                  refine ap_if32 rfl rfl hrun (hK _ _ (fun _ => hR4) ?_)
                  clear hK K' hrun hke hbk hM3 hR3 hLq
                  try go_frame
                  have e1 : w4.cell? ⟨gp, 1, none⟩ = some (.slice A1 k' c1) := hR4.cell 1
                  have f1 : w4.frozen? ⟨gp, 1, none⟩ = false := hR4.free 1
                  refine wpAnyU_oneD (i := 11) (by kernel_rfl) (by kernel_rfl) rfl (fun K' hK => ?_)
                  go_simp
                  refine hK _ _ ?_
                  clear hK K' e1 f1
                  have hS := hR4.set 1 (.slice B1 (k' + 1) d1)
                  have hN := hM4.set 1 (.slice B1 (k' + 1) d1)
                  simp only [List.setIfInBounds_toArray, List.set_cons_succ, List.set_cons_zero] at hS
                  clear hR4 hM4
                  generalize w4.setCell ⟨gp, 1, none⟩ (.slice B1 (k' + 1) d1) = w7 at hS hN ⊢
                  refine wpAnyU_oneD (i := 12) (by kernel_rfl) (by kernel_rfl) rfl (fun K' hK => ?_)
                  go_simp
                  refine hK _ _ ?_
                  clear hK K'
                  have e2 : w7.cell? ⟨gp, 2, none⟩ = some (.slice A2 k' c2) := hS.cell 2
                  have f2 : w7.frozen? ⟨gp, 2, none⟩ = false := hS.free 2
                  refine wpAnyU_oneD (i := 13) (by kernel_rfl) (by kernel_rfl) rfl (fun K' hK => ?_)
                  go_simp
                  refine hK _ _ ?_
                  clear hK K' e2 f2
                  have hS2 := hS.set 2 (.slice B2 (k' + 1) d2)
                  have hN2 := hN.set 2 (.slice B2 (k' + 1) d2)
                  simp only [List.setIfInBounds_toArray, List.set_cons_succ, List.set_cons_zero] at hS2
                  generalize w7.setCell ⟨gp, 2, none⟩ (.slice B2 (k' + 1) d2) = w8 at hS2 hN2 ⊢
                  refine wpAnyU_done (by kernel_rfl) ?_ _
                  have HF := HFin w8 B1 d1 B2 d2 hN2 hS2
                  clear hS hN hS2 hN2 HFin
                  go_roundw
                  case rel => first | exact HF.1 | ((repeat apply Exists.intro); exact ⟨HF.1, rfl⟩)
                  case measure => exact HF.2
                · go_simp
                  refine hK _ _ (fun _ => hR1.alloc _) ?_
                  clear hK K'
                  have hLq := hM1.lit b
                  have hR2 := hR1.alloc (.cells #[.int .i32 b] 21)
                  have hM2 := hM1.alloc (.cells #[.int .i32 b] 21)
                  have hLp := hLp.alloc (.cells #[.int .i32 b] 21)
                  clear hM1 hR1
                  generalize w1.heap.size = q at hLp hLq ⊢
                  generalize w1.alloc (.cells #[.int .i32 b] 21) = w2 at hLp hLq hR2 hM2 ⊢
                  refine wpAnyU_one (i := 4) (by kernel_rfl) rfl (fun K' hK => ?_)
                  obtain ⟨B1, d1, w3, hrun, hM3, hke, hbk⟩ := hM2.ap1 hLp 53 hk1
                  have hR3 := hbk _ hR2
                  have hLq := hke _ _ hLq
                  refine ap_if32 rfl rfl hrun (hK _ _ (fun _ => hR3) ?_)
                  clear hK K' hrun hke hbk hM2 hR2 hLp
                  try go_frame
                  refine wpAnyU_pure (i := 10) (v := .pointer (some ⟨gp, 1, none⟩)) rfl (by kernel_rfl) (by kernel_rfl) (by kernel_rfl) (by decide) (fun _ _ _ h => h) (.inl ⟨by rfl, fun w' _ => ?_⟩) (fun _ => hR3) ?_
                  · go_simp
                  try go_frame
                  refine wpAnyU_one (i := 9) (by kernel_rfl) rfl (fun K' hK => ?_)
                  obtain ⟨B2, d2, w4, hrun, hM4, hke, hbk⟩ := hM3.ap2 hLq 53 hk1
                  have hR4 := hbk _ hR3
                  refine ap_if32 rfl rfl hrun (hK _ _ (fun _ => hR4) ?_)
                  clear hK K' hrun hke hbk hM3 hR3 hLq
                  try go_frame
                  have e1 : w4.cell? ⟨gp, 1, none⟩ = some (.slice A1 k' c1) := hR4.cell 1
                  have f1 : w4.frozen? ⟨gp, 1, none⟩ = false := hR4.free 1
                  refine wpAnyU_oneD (i := 11) (by kernel_rfl) (by kernel_rfl) rfl (fun K' hK => ?_)
                  go_simp
                  refine hK _ _ ?_
                  clear hK K' e1 f1
                  have hS := hR4.set 1 (.slice B1 (k' + 1) d1)
                  have hN := hM4.set 1 (.slice B1 (k' + 1) d1)
                  simp only [List.setIfInBounds_toArray, List.set_cons_succ, List.set_cons_zero] at hS
                  clear hR4 hM4
                  generalize w4.setCell ⟨gp, 1, none⟩ (.slice B1 (k' + 1) d1) = w7 at hS hN ⊢
                  refine wpAnyU_oneD (i := 12) (by kernel_rfl) (by kernel_rfl) rfl (fun K' hK => ?_)
                  go_simp
                  refine hK _ _ ?_
                  clear hK K'
                  have e2 : w7.cell? ⟨gp, 2, none⟩ = some (.slice A2 k' c2) := hS.cell 2
                  have f2 : w7.frozen? ⟨gp, 2, none⟩ = false := hS.free 2
                  refine wpAnyU_oneD (i := 13) (by kernel_rfl) (by kernel_rfl) rfl (fun K' hK => ?_)
                  go_simp
                  refine hK _ _ ?_
                  clear hK K' e2 f2
                  have hS2 := hS.set 2 (.slice B2 (k' + 1) d2)
                  have hN2 := hN.set 2 (.slice B2 (k' + 1) d2)
                  simp only [List.setIfInBounds_toArray, List.set_cons_succ, List.set_cons_zero] at hS2
                  generalize w7.setCell ⟨gp, 2, none⟩ (.slice B2 (k' + 1) d2) = w8 at hS2 hN2 ⊢
                  refine wpAnyU_done (by kernel_rfl) ?_ _
                  have HF := HFin w8 B1 d1 B2 d2 hN2 hS2
                  clear hS hN hS2 hN2 HFin
                  go_roundw
                  case rel => first | exact HF.1 | ((repeat apply Exists.intro); exact ⟨HF.1, rfl⟩)
                  case measure => exact HF.2
              · go_simp
                refine hK _ _ (fun _ => hR0.alloc _) ?_
                clear hK K'
                have hLq := hM0.lit b
                have hR1 := hR0.alloc (.cells #[.int .i32 b] 21)
                have hM1 := hM0.alloc (.cells #[.int .i32 b] 21)
                clear hM0 hR0
                generalize w0.heap.size = q at hLq ⊢
                generalize w0.alloc (.cells #[.int .i32 b] 21) = w1 at hLq hR1 hM1 ⊢
                refine wpAnyU_one (i := 3) (by kernel_rfl) rfl (fun K' hK => ?_)
                go_simp
                refine hK _ _ (fun _ => hR1.alloc _) ?_
                clear hK K'
                have hLp := hM1.lit a
                have hR2 := hR1.alloc (.cells #[.int .i32 a] 21)
                have hM2 := hM1.alloc (.cells #[.int .i32 a] 21)
                have hLq := hLq.alloc (.cells #[.int .i32 a] 21)
                clear hM1 hR1
                generalize w1.heap.size = p at hLq hLp ⊢
                generalize w1.alloc (.cells #[.int .i32 a] 21) = w2 at hLq hLp hR2 hM2 ⊢
                refine wpAnyU_one (i := 4) (by kernel_rfl) rfl (fun K' hK => ?_)
                obtain ⟨B1, d1, w3, hrun, hM3, hke, hbk⟩ := hM2.ap1 hLp 53 hk1
                have hR3 := hbk _ hR2
                have hLq := hke _ _ hLq
                refine ap_if32 rfl rfl hrun (hK _ _ (fun _ => hR3) ?_)
                clear hK K' hrun hke hbk hM2 hR2 hLp
                try go_frame
                refine wpAnyU_pure (i := 10) (v := .pointer (some ⟨gp, 1, none⟩)) rfl (by kernel_rfl) (by kernel_rfl) (by kernel_rfl) (by decide) (fun _ _ _ h => h) (.inl ⟨by rfl, fun w' _ => ?_⟩) (fun _ => hR3) ?_
                · go_simp
                try go_frame
                refine wpAnyU_one (i := 9) (by kernel_rfl) rfl (fun K' hK => ?_)
                obtain ⟨B2, d2, w4, hrun, hM4, hke, hbk⟩ := hM3.ap2 hLq 53 hk1
                have hR4 := hbk _ hR3
                refine ap_if32 rfl rfl hrun (hK _ _ (fun _ => hR4) ?_)
                clear hK K' hrun hke hbk hM3 hR3 hLq
                try go_frame
                have e1 : w4.cell? ⟨gp, 1, none⟩ = some (.slice A1 k' c1) := hR4.cell 1
                have f1 : w4.frozen? ⟨gp, 1, none⟩ = false := hR4.free 1
                refine wpAnyU_oneD (i := 11) (by kernel_rfl) (by kernel_rfl) rfl (fun K' hK => ?_)
                go_simp
                refine hK _ _ ?_
                clear hK K' e1 f1
                have hS := hR4.set 1 (.slice B1 (k' + 1) d1)
                have hN := hM4.set 1 (.slice B1 (k' + 1) d1)
                simp only [List.setIfInBounds_toArray, List.set_cons_succ, List.set_cons_zero] at hS
                clear hR4 hM4
                generalize w4.setCell ⟨gp, 1, none⟩ (.slice B1 (k' + 1) d1) = w7 at hS hN ⊢
                refine wpAnyU_oneD (i := 12) (by kernel_rfl) (by kernel_rfl) rfl (fun K' hK => ?_)
                go_simp
                refine hK _ _ ?_
                clear hK K'
                have e2 : w7.cell? ⟨gp, 2, none⟩ = some (.slice A2 k' c2) := hS.cell 2
                have f2 : w7.frozen? ⟨gp, 2, none⟩ = false := hS.free 2
                refine wpAnyU_oneD (i := 13) (by kernel_rfl) (by kernel_rfl) rfl (fun K' hK => ?_)
                go_simp
                refine hK _ _ ?_
                clear hK K' e2 f2
                have hS2 := hS.set 2 (.slice B2 (k' + 1) d2)
                have hN2 := hN.set 2 (.slice B2 (k' + 1) d2)
                simp only [List.setIfInBounds_toArray, List.set_cons_succ, List.set_cons_zero] at hS2
                generalize w7.setCell ⟨gp, 2, none⟩ (.slice B2 (k' + 1) d2) = w8 at hS2 hN2 ⊢
                refine wpAnyU_done (by kernel_rfl) ?_ _
                have HF := HFin w8 B1 d1 B2 d2 hN2 hS2
                clear hS hN hS2 hN2 HFin
                go_roundw
                case rel => first | exact HF.1 | ((repeat apply Exists.intro); exact ⟨HF.1, rfl⟩)
                case measure => exact HF.2
end Go.Proofs.YtbdehlphblbmoaaDoor
