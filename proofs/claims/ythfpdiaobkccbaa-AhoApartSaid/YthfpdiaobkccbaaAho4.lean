/- Contract of package aho: link. -/
import Derived.Test.YthfpdiaobkccbaaAhoS
import Derived.Test.YthfpdiaobkccbaaFrame
import Derived.StillTailTactics
import Derived.Deep.LoopGhost
namespace Go.Proofs.Ythfpdiaobkccbaa
open Go.RowKit
attribute [local go_sem ↓] Go.wp_at_zero Go.wp_at_succ

/-- What stands at each head of the loop over the children of h. -/
structure LkI (w : World) (base W0 : Nat) (many : Int) (T : Tt) (ws : List (List UInt8)) (P : List Nat) (h : Nat) (r : List Nat) (R nb : Nat) (D : DataW Unit) (B2 : Nat → Nat) (V2 : Nat → Value) (E2 : Nat → List Nat) (vs : List Nat) (v : Value) (left : Lit → Bool) (cnt : Nat) : Prop where
  at_ : AT w base W0 many { T with B := B2, V := V2, E := E2 }
  sv : SV T.S B2 E2 ws ((P ++ h :: r) ++ vs)
  qu : Qu w base v (r ++ vs)
  qd : ∀ i, i < T.S.length → ∀ b, (V2 i).ownBlock = some b → v.ownBlock ≠ some b
  rg : w.ranges Try.prog 5 (plainElem Try.prog 3) (T.M h) R nb D left cnt
  vn : vs.Nodup
  vm : ∀ x ∈ vs, ∃ c : UInt8, nx T.S h c = some x ∧ left (.int .u8 (c.toNat : Int)) = false
  vl : ∀ (c : UInt8) x, nx T.S h c = some x → left (.int .u8 (c.toNat : Int)) = false → x ∈ vs
  lh : ∀ z, left z = true → Maps.has D z = true
theorem key_same (c u : UInt8) : (Lit.int .u8 (c.toNat : Int)).sameKey (.int .u8 (u.toNat : Int)) = decide (c = u) := by
  rw [Bool.eq_iff_iff, decide_eq_true_eq]
  constructor
  · intro h
    have h2 := Go.WideAt.sameKey_eq h
    injection h2 with _ h2
    exact UInt8.toNat_inj.1 (by omega)
  · rintro rfl
    exact Go.WideAt.sameKey_self (lawU.key (Maps.keyOf_int_mk Try.underlying5 (wfU c)))
theorem LkI.next {w w5 : World} {base W0 : Nat} {many : Int} {T : Tt} {ws : List (List UInt8)} {P : List Nat} {h : Nat} {r : List Nat} {R nb : Nat} {D : DataW Unit} {B2 B5 : Nat → Nat} {V2 V5 : Nat → Value} {E2 E5 : Nat → List Nat} {vs : List Nat} {v v3 : Value} {left : Lit → Bool} {cnt cnt1 : Nat}
    (hI : LkI w base W0 many T ws P h r R nb D B2 V2 E2 vs v left cnt) {u : UInt8} {y : Nat} (hy : nx T.S h u = some y) (hyv : y ∉ vs) (a5 : AT w5 base W0 many { T with B := B5, V := V5, E := E5 }) (s5 : SV T.S B5 E5 ws ((P ++ h :: r) ++ vs ++ [y])) (q5 : Qu w5 base v3 (r ++ vs ++ [y]))
    (d5 : ∀ i, i < T.S.length → ∀ b, (V5 i).ownBlock = some b → v3.ownBlock ≠ some b)
    (r5 : w5.ranges Try.prog 5 (plainElem Try.prog 3) (T.M h) R nb D (fun z => left z && !z.sameKey (.int .u8 (u.toNat : Int))) cnt1) :
    LkI w5 base W0 many T ws P h r R nb D B5 V5 E5 (vs ++ [y]) v3 (fun z => left z && !z.sameKey (.int .u8 (u.toNat : Int))) cnt1 := by
  refine ⟨a5, by rw [← List.append_assoc]; exact s5, by rw [← List.append_assoc]; exact q5, d5, r5, ?_, fun x hx => ?_, fun c x hx hl => ?_, fun z hz => ?_⟩
  · rw [List.nodup_append]
    exact ⟨hI.vn, by simp, fun a ha b hb e => by simp at hb; subst hb; exact hyv (e ▸ ha)⟩
  · rcases List.mem_append.1 hx with h1 | h1
    · obtain ⟨c, h2, h3⟩ := hI.vm x h1
      exact ⟨c, h2, by rw [h3]; rfl⟩
    · simp only [List.mem_singleton] at h1
      subst h1
      exact ⟨u, hy, by rw [key_same]; simp⟩
  · rw [key_same] at hl
    by_cases e : c = u
    · subst e; rw [hy] at hx; injection hx with hx; subst hx; simp
    · rw [decide_eq_false e] at hl
      simp only [Bool.not_false, Bool.and_true] at hl
      exact List.mem_append_left _ (hI.vl c x hx hl)
  · rw [Bool.and_eq_true] at hz
    exact hI.lh z hz.1
/-- What the loads of a row's growth read. -/
def HS3 (W0 : Nat) (T : Tt) (y x : Nat) (v : Value) (w : World) : Prop :=
  w.cell? ⟨W0, 0, none⟩ = some (.slice (some ⟨T.gl, 0, none⟩) T.S.length T.cl) ∧ w.cell? ⟨T.gl, y * 3 + 1, none⟩ = some (.int .i64 (x : Int)) ∧ w.cell? ⟨T.gl, x * 3 + 2, none⟩ = some v
set_option maxHeartbeats 4000000 in
set_option maxRecDepth 100000 in
theorem link_any (base W0 : Nat) (many : Int) (T : Tt) (ws : List (List UInt8)) (w : World) (h : AT w base W0 many T) (ht : Trie T.S) (hle : ∀ s ∈ T.S, s.length ≤ 64) (hnn : T.S.length ≤ 513) (hwi : ∀ j, j < ws.length → (ws[j]?.getD []) ∈ T.S)
    (hsv : SV T.S T.B T.E ws ([] ++ [0])) (h0 : 0 < T.S.length) (hbase : base ≤ w.heap.size) :
    Calls Try.prog 20 #[.pointer (some ⟨W0, 0, none⟩)] w fun e w' => e = .returned (.tuple #[]) ∧ (∃ T' : Tt, T'.S = T.S ∧ AT w' base W0 many T' ∧ ∃ P, SV T.S T'.B T'.E ws P ∧ ∀ i, i < T.S.length → i ∈ P) ∧ Below base w w' := by
  have Hst : Hid (LkO (w.alloc (.cells #[.int .i64 0] 3)) base W0 many T ws [] [0] (.slice (some ⟨w.heap.size, 0, none⟩) 1 1)) := Lib.hid ⟨h.alloc _, hsv, SQ.start ht h0, Qu.start w hbase 0, fun i hi b hb e => by
    have := ((h.en i hi).lt b hb).2
    simp [Value.ownBlock] at e; omega, ht, hle, hnn, hwi⟩
  clear h hsv h0
  go_enter Try.func20, Try.ntmps20
  go_wp2_with fail
  go_loopg [2] (T.S.length + 1) (fun k v wr => ∃ (T' : Tt) (P q : List Nat), Hid (T'.S = T.S ∧ LkO wr base W0 many T' ws P q v ∧ k + P.length = T.S.length + 1) ∧ Below base w wr)
  case atStart => exact ⟨T, [], [0], Lib.hid ⟨rfl, Hst.out, by simp⟩, (Below.refl _ _).alloc hbase _⟩
  case round =>
    obtain ⟨T', P, q, hL, hbl⟩ := hrel
    clear Hst
    cases q with
    | nil =>
      obtain ⟨A, n, c, hv, _, hn0, _, _, _⟩ := hL.out.2.1.qu
      simp only [List.length_nil] at hn0
      subst hn0 hv
      go_wp2_with fail
      go_end0
      refine ⟨rfl, ⟨T', hL.out.1, hL.out.2.1.at_, P, ?_, fun i hi => ?_⟩, hbl⟩
      · have := hL.out.2.1.sv; rw [List.append_nil, hL.out.1] at this; exact this
      · exact SQ.all hL.out.2.1.tr hL.out.2.1.sq _ i (Nat.le_refl _) (by rw [hL.out.1]; exact hi)
    | cons hd r =>
      obtain ⟨g, o, c, hv, hrc, hcm, hgb, hcell, hqu⟩ := hL.out.2.1.qu.front
      subst hv
      obtain ⟨A', hA'⟩ : ∃ A' : Option Addr, (if c = 0 then some (⟨g, o, none⟩ : Addr) else some ⟨g, o + 1, none⟩) = A' := ⟨_, rfl⟩
      rw [hA'] at hqu
      have Hqu := Lib.hid hqu
      have hAT := hL.out.2.1.at_
      have hh : hd < T'.S.length := hL.out.2.1.sq.lt hd (by simp)
      obtain ⟨c0, _⟩ := hAT.head
      obtain ⟨d0, d1, d2⟩ := hAT.cells hh
      have i0 : (0 : Int) ≤ (hd : Int) := by omega
      have i1 : (hd : Int) < (T'.S.length : Int) := by omega
      obtain ⟨D, hmp, hhas, hatk⟩ := hAT.mp hd hh
      have Hmp := Lib.hid hmp
      have Hhas := Lib.hid hhas
      have Hatk := Lib.hid hatk
      clear hqu hAT hmp hhas hatk
      go_wp2_with (first
        | (at_range; refine wpList_range_own _ rfl _ _ rfl 5 3 lawU Try.underlying45 _ (T'.M hd) _ D (by rfl) Hmp.out ?_; intro w0 hrg0 hg0 hs0))
      go_frame
      obtain ⟨wo, rfl⟩ : ∃ wo : World, wo = wr := ⟨_, rfl⟩
      generalize hR : wo.heap.size = R at *
      have HR := Lib.hid hR
      have Hg0 := Lib.hid hg0
      have HA' := Lib.hid hA'
      have Hs0 := Lib.hid hs0
      clear hs0
      clear hR hg0 d0 d1 d2 c0 hcell hA' Hmp
      go_loopw [2] (fun s wr => ∃ (A2 : Option Addr) (n2 c2 : Nat) (B2 : Nat → Nat) (V2 : Nat → Value) (E2 : Nat → List Nat) (vs : List Nat) (left : Lit → Bool) (cnt : Nat), s = .slice A2 n2 c2 ∧ Hid (LkI wr base W0 many T' ws P hd r R T'.S.length D B2 V2 E2 vs (.slice A2 n2 c2) left cnt) ∧ Below base w wr) (fun _ wr => wr.rangeLeft (T'.M hd) R)
      case atStart =>
        have hL2 := hL.out.2.1
        refine ⟨_, _, _, T'.B, T'.V, T'.E, [], _, _, rfl, Lib.hid ⟨hL2.at_.kept Hg0.out (fun b hb => by cases hb), by rw [List.append_nil]; exact hL2.sv, by rw [List.append_nil]; exact Hqu.out.kept Hg0.out (fun b hb => by cases hb), fun i hi b hb => ?_, hrg0, List.nodup_nil, (fun x hx => by cases hx), fun u x hx hf => ?_, fun z hz => hz⟩, hbl.grown Hg0.out (by have := hbl.size; rw [HR.out] at this; have := HR.out; omega) (fun k hk => by cases hk)⟩
        · have := hL2.qd i hi b hb
          rw [← HA'.out]
          split <;> exact this
        · rw [Hhas.out u, hx] at hf; cases hf
      case round =>
        obtain ⟨A2, n2, c2, B2, V2, E2, vs, left, cnt, rfl, hI, hbl2⟩ := hrel
        have hrg := hI.out.rg
        go_wp2_with (first
          | (at_next; refine wpList_next_ranges_ii _ rfl _ rfl 5 3 .u8 .i64 lawU Try.underlying5 Try.underlying3 (T'.M hd) R T'.S.length _ _ _ (by rfl) hrg ?_ ?_))
        · intro hc0 hl0
          have hL2 := hL.out.2.1
          have e : P ++ [hd] ++ (r ++ vs) = P ++ hd :: r ++ vs := by simp
          have hsz := hL2.sq.size
          simp only [List.length_cons] at hsz
          have hkk := hL.out.2.2
          have heq := hL.out.1
          have hnew : Hid ({ T' with B := B2, V := V2, E := E2 }.S = T.S ∧ LkO wr base W0 many { T' with B := B2, V := V2, E := E2 } ws (P ++ [hd]) (r ++ vs) (.slice A2 n2 c2) ∧ (gk - 1) + (P ++ [hd]).length = T.S.length + 1) :=
            Lib.hid ⟨hL.out.1, ⟨hI.out.at_, by rw [e]; exact hI.out.sv, hL2.sq.pop hL2.tr hI.out.vn (fun x => ⟨fun hx => by obtain ⟨c, h1, _⟩ := hI.out.vm x hx; exact ⟨c, h1⟩, fun ⟨c, h1⟩ => hI.out.vl c x h1 (hl0 _)⟩), hI.out.qu, hI.out.qd, hL2.tr, hL2.le, hL2.nn, hL2.wi⟩, by
              rw [heq] at hsz; simp only [List.length_append, List.length_cons, List.length_nil]; omega⟩
          rw [heq] at hsz
          clear heq
          have hgk : gk - 1 < gk := by omega
          clear hkk hsz hL2 e hrg
          go_wp2_with fail
          go_roundg (gk - 1)
          case measure => exact hgk
          case rel => exact ⟨{ T' with B := B2, V := V2, E := E2 }, P ++ [hd], r ++ vs, hnew, hbl2⟩
        · intro x z w1 cnt1 hwx hwc hlx hat hrg1 hlt hg1 hs1 hen
          have hL2 := hL.out.2.1
          obtain ⟨u, rfl⟩ : ∃ u : UInt8, x = (u.toNat : Int) := by
            have hx := bounds_u8 hwx
            exact ⟨UInt8.ofNat x.toNat, by simp; omega⟩
          have hsome := hI.out.lh _ hlx
          rw [Hhas.out u] at hsome
          obtain ⟨y, hy⟩ := Option.isSome_iff_exists.1 hsome
          have hzy := hat (.lit (.int .i64 0))
          rw [Hatk.out u y hy] at hzy
          injection hzy with hzy
          injection hzy with _ hzy
          subst hzy
          obtain ⟨since, seen, q0, hit⟩ := ranges_iter hrg
          have at1 := hI.out.at_.kept_iter hg1 hit
          have qu1 := hI.out.qu.kept_iter hg1 hit
          have hyn := (nx_some hy).2.2.1
          have hLn : y ∉ (P ++ hd :: r) ++ vs := fun hm => by
            rcases List.mem_append.1 hm with h1 | h1
            · exact hL2.sq.new hL2.tr hy h1
            · obtain ⟨c', h2, h3⟩ := hI.out.vm y h1
              rw [nx_inj hy h2] at hlx
              rw [hlx] at h3; cases h3
          have hcl : ∀ i, i < T'.S.length → slen T'.S i ≤ slen T'.S hd → i ∈ (P ++ hd :: r) ++ vs := fun i hi hl => List.mem_append_left _ (hL2.sq.c1 hd r rfl i hi hl)
          have hstep := hI.out.sv.step hL2.tr hL2.wi hh hy hLn hcl
          have hvn := hI.out.vn
          have Hy0 := Lib.hid (show y ≠ 0 from fun e => by have := nx_len hy; have hz : slen T'.S 0 = 0 := by unfold slen; rw [str_zero hL2.tr]; rfl
                                                           rw [e, hz] at this; omega)
          have hyh : y ≠ hd := fun e => by have := nx_len hy; rw [e] at this; omega
          have hyv : y ∉ vs := fun h1 => hLn (List.mem_append_right _ h1)
          have hnn2 := hL2.nn
          have hqlen : (r ++ vs).length ≤ 1000000 := by
            have h1 := nodup_lt T'.S.length vs hvn (fun x hx => by obtain ⟨c', h2, _⟩ := hI.out.vm x hx; exact (nx_some h2).2.2.1)
            have h2 := hL2.sq.size
            rw [List.length_append]; simp only [List.length_cons] at h2; omega
          have hb1 : Below base w w1 := hbl2.grown hg1 (by have := hbl2.size; omega) (fun k hk => by injection hk with hk; have := HR.out; have := hbl.size; omega)
          have hz1 := hb1.size
          obtain ⟨c0, _⟩ := at1.head
          obtain ⟨d0, d1, d2⟩ := at1.cells (i := hd) hh
          have Hat1 := Lib.hid at1
          have Hqu1 := Lib.hid (qu1.alloc (.cells #[.int .i64 (y : Int)] 3))
          have Hb1 := Lib.hid (hb1.alloc (by omega) (.cells #[.int .i64 (y : Int)] 3))
          have Hstep := Lib.hid hstep
          have HyL := Lib.hid hLn
          have Hcl := Lib.hid hcl
          have Hy := Lib.hid hy
          have hnewc : (w1.alloc (.cells #[.int .i64 (y : Int)] 3)).cell? ((⟨w1.heap.size, 0, none⟩ : Addr).add 0) = some (.int .i64 (y : Int)) := (Bk.new w1 3 #[.int .i64 (y : Int)]).cell 0
          have Hnewc := Lib.hid hnewc
          have Hs1 := Lib.hid hs1
          clear hs1
          have hrow1 : ∀ (w2 : World) (v2 : Value), (∃ row, (w1.alloc (.cells #[.int .i64 (y : Int)] 3)).grownBy w2 row ∧ ∀ b, row = some b → (Value.slice A2 n2 c2).ownBlock = some b ∧ ∃ cs, Bk (w1.alloc (.cells #[.int .i64 (y : Int)] 3)) b 3 cs) →
              (v2.ownBlock = (Value.slice A2 n2 c2).ownBlock ∨ ∃ g, v2.ownBlock = some g ∧ (w1.alloc (.cells #[.int .i64 (y : Int)] 3)).heap.size ≤ g) →
              AT w2 base W0 many { T' with B := B2, V := V2, E := E2 } ∧ w2.ranges Try.prog 5 (plainElem Try.prog 3) (T'.M hd) R T'.S.length D (fun z => left z && !z.sameKey (.int .u8 (u.toNat : Int))) cnt1 ∧
                ∀ i, i < T'.S.length → ∀ b, (V2 i).ownBlock = some b → v2.ownBlock ≠ some b := by
            intro w2 v2 ⟨row, hgr, hrow⟩ hd2
            have a1 := Hat1.out.alloc (.cells #[.int .i64 (y : Int)] 3)
            have hqd := hI.out.qd
            refine ⟨a1.kept_int hgr hrow hqd, (hrg1.alloc _).kept hgr (fun e => ?_) (fun e => ?_), fun i hi b hb e => ?_⟩
            · obtain ⟨_, cs, hb⟩ := hrow _ e.symm
              exact (a1.mp hd hh).ne hb rfl
            · obtain ⟨_, cs, hb⟩ := hrow _ e.symm
              obtain ⟨s1, s2, s3, hit⟩ := ranges_iter (hrg1.alloc (.cells #[.int .i64 (y : Int)] 3))
              unfold Bk at hb; rw [hit] at hb; cases hb
            · rcases hd2 with h1 | ⟨g', h1, h2⟩
              · rw [h1] at e; exact hqd i hi b hb e
              · rw [h1] at e; injection e with e; have := ((Hat1.out.alloc (.cells #[.int .i64 (y : Int)] 3)).en i hi).lt b hb; omega
          have hmidL := Lib.hid hrow1
          clear hrow1
          have hhL : hd ∈ (P ++ hd :: r) ++ vs := by simp
          have HBh := Lib.hid (hI.out.sv.b1 hd hh hhL)
          have HBs := Lib.hid (show ∀ i, i < T'.S.length → i ≠ 0 → (str T'.S i).length ≤ slen T'.S hd → B2 i = bk T'.S i from fun i hi _ hl => hI.out.sv.b1 i hi (hcl i hi hl))
          have Hyb := Lib.hid (hI.out.sv.b0 y hyn hLn)
          clear at1 qu1 hb1 hstep hLn hcl hsome hat hy hit hnewc hyv hvn hwc hwx
          by_cases hd0 : hd = 0
          · have hne0 : ((hd : Int) != 0) = false := by simp [hd0]
            have Hd0 := Lib.hid hd0
            clear hd0
            go_wp2_with ((at_builtin; refine ap_qu (base := base) (w0 := w) Hqu1.out y ⟨w1.heap.size, 0, none⟩ 1 Hnewc.out (by simp <;> omega) hqlen Hb1.out (by rfl) (by rfl) (by rfl) ?_; intro v2 w2 hq2 hb2 hrow2 hd2; have hq2' := hq2; obtain ⟨A3, n3, c3, rfl, _⟩ := hq2'))
            have hmid := hmidL.out w2 (.slice (some A3) n3 c3) hrow2 hd2
            have eB : upd B2 y (bk T'.S y) = B2 := by
              funext i
              by_cases e : i = y
              · subst e; rw [upd_same, Hyb.out]
                exact bk_child0 hL2.tr (Hd0.out ▸ Hy.out)
              · rw [upd_ne _ e]
            have at4 : AT w2 base W0 many { T' with B := upd B2 y (bk T'.S y), V := V2, E := E2 } := by rw [eB]; exact hmid.1
            have hb3 := hb2
            have Hq3 := Lib.hid hq2
            have Hr3 := Lib.hid hmid.2.1
            have Hqd3 := Lib.hid hmid.2.2
            clear hmid hq2 hb2 hrow2 hd2 hmidL eB Hqu1 Hb1 Hnewc d0 d1 d2 c0
            obtain ⟨w3, rfl⟩ : ∃ w3 : World, w3 = w2 := ⟨_, rfl⟩
            have at4c := at4
            obtain ⟨q0, _⟩ := at4.head
            obtain ⟨_, q1, q2⟩ := at4.cells (i := y) hyn
            have hxn : bk T'.S y < T'.S.length := bk_lt hL2.tr y
            obtain ⟨_, _, q3⟩ := at4.cells (i := bk T'.S y) hxn
            have qf := at4.free (y * 3 + 2)
            have oy := at4.en y hyn
            have ox := at4.en (bk T'.S y) hxn
            dsimp only at q0 q1 q2 q3 qf oy ox
            rw [upd_same] at q1
            have hly := hI.out.sv.l0 y hyn HyL.out
            have hlx2 := hI.out.sv.l1 (bk T'.S y) hxn (Hcl.out _ hxn (by have := bk_len hL2.tr hyn Hy0.out; have := nx_len Hy.out; unfold slen at *; omega))
            have hlx3 : (E2 (bk T'.S y)).length ≤ 520 := by
              have := hL2.le _ (str_mem hxn)
              unfold slen at hlx2; omega
            obtain ⟨Ay, cy, hvy, hcy, _⟩ := own_form oy
            obtain ⟨Ax, cx, hvx, hcx, _⟩ := own_form ox
            have rx : Rd w3 w3.heap.size 1 Ax (E2 (bk T'.S y)).length (nIts (E2 (bk T'.S y))) := by rw [hvx] at ox; exact Rd.of_own ox
            rw [hvy] at q2 oy
            rw [hvx] at q3
            have hz3 := hb3.size
            have hF : ∀ w8, w3.drew.grownBy w8 (Value.slice Ay (E2 y).length cy).ownBlock → w8.cell? ⟨T'.gl, y * 3 + 2, none⟩ = some (.slice Ay (E2 y).length cy) ∧ w8.frozen? ⟨T'.gl, y * 3 + 2, none⟩ = false ∧ HS3 W0 T' y (bk T'.S y) (.slice Ax (E2 (bk T'.S y)).length cx) w8 ∧ ∀ u, HS3 W0 T' y (bk T'.S y) (.slice Ax (E2 (bk T'.S y)).length cx) (w8.setCell ⟨T'.gl, y * 3 + 2, none⟩ u) := by
              intro w8 hg
              obtain ⟨cs, k1, _⟩ := at4.st
              have hne := own_ne oy k1 (by decide)
              have k2 : Bk w8 T'.gl 47 cs := k1.heap (hg.block _ k1.lt (fun e => hne e.symm))
              have hne2 := own_ne oy at4.wd (by decide)
              have k3 := at4.wd.heap (w' := w8) (hg.block _ at4.wd.lt (fun e => hne2 e.symm))
              have hxy : ¬ bk T'.S y = y := fun e => by have := bk_len hL2.tr hyn Hy0.out; rw [e] at this; omega
              refine ⟨?_, k2.free _, ⟨k3.cell 0, ?_, ?_⟩, fun u => ⟨?_, ?_, ?_⟩⟩
              · rw [k2.cell, ← k1.cell]; exact q2
              · rw [k2.cell, ← k1.cell]; exact q1
              · rw [k2.cell, ← k1.cell]; exact q3
              · exact (k3.far (p := ⟨T'.gl, y * 3 + 2, none⟩) (k3.ne k2 (by decide)) u).cell 0
              · rw [(k2.set (y * 3 + 2) u).cell, Array.getElem?_setIfInBounds_ne (by omega), ← k1.cell]; exact q1
              · rw [(k2.set (y * 3 + 2) u).cell, Array.getElem?_setIfInBounds_ne (by omega), ← k1.cell]; exact q3
            have Hx3 := Lib.hid hlx3
            have HF := Lib.hid hF
            have Hoy := Lib.hid oy
            have Hrx := Lib.hid rx
            have Hb3 := Lib.hid hb3
            have At4 := Lib.hid at4
            have Hvy := Lib.hid hvy
            have Hvx := Lib.hid hvx
            have iy0 : (0 : Int) ≤ (y : Int) := by omega
            have iy1 : (y : Int) < (T'.S.length : Int) := by omega
            have ix0 : (0 : Int) ≤ ((bk T'.S y : Nat) : Int) := by omega
            have ix1 : ((bk T'.S y : Nat) : Int) < (T'.S.length : Int) := by omega
            have hbytes : (E2 y).length + (E2 (bk T'.S y)).length ≤ 100000 := by omega
            clear at4 at4c oy ox rx hvy hvx hF hb3 hlx2 hlx3 hly
            generalize bk T'.S y = x at *
            have Q1 := Lib.hid (And.intro q0 (And.intro q1 q3))
            have hS0 : HS3 W0 T' y x (.slice Ax (E2 x).length cx) w3.drew := ⟨q0, q1, q3⟩
            obtain ⟨v8, w8, hrun, hown8, hb8, hg8, hv8⟩ := run_append_its w3.drew base 33 (v := .slice Ay (E2 y).length cy) Hoy.out Hrx.out cx (Nat.le_trans hbase hz3) (by omega)
            obtain ⟨A8, c8, rfl, _, _⟩ := own_form hown8
            obtain ⟨s1, s2, s3⟩ := HF.out w8 hg8
            have Hrun := Lib.hid hrun
            have Hown8 := Lib.hid hown8
            have Hb8 := Lib.hid hb8
            have Hg8 := Lib.hid hg8
            have Hv8 := Lib.hid hv8
            have Q2 := Lib.hid q2
            have HS3' := Lib.hid s3
            have HL2 := Lib.hid hL2
            clear hrun hown8 hb8 hg8 hv8 q0 q1 q2 q3 hL2 hrg0 hen s3
            refine wp_region_held (S := HS3 W0 T' y x (.slice Ax (E2 x).length cx)) (by kernel_rfl) ?_
            change wpAnyH _ _ _ _ _ _ _ _ w3.drew
            refine wpAnyH_take (i := 0) (v := .pointer (some ⟨W0, 0, none⟩)) rfl (by kernel_rfl) (by kernel_rfl) (by kernel_rfl) (fun _ _ _ h => h) (.inl ⟨by rfl, fun w' hw' => ?_⟩) hS0 ?_
            · clear hw'
              go_simp
            try go_frame
            refine wpAnyH_take (i := 1) (v := .pointer (some ⟨W0, 0, none⟩)) rfl (by kernel_rfl) (by kernel_rfl) (by kernel_rfl) (fun _ _ _ h => h) (.inl ⟨by rfl, fun w' hw' => ?_⟩) hS0 ?_
            · clear hw'
              go_simp
            try go_frame
            refine wpAnyH_take (i := 2) (v := .pointer (some ⟨W0, 0, none⟩)) rfl (by kernel_rfl) (by kernel_rfl) (by kernel_rfl) (fun _ _ _ h => h) (.inl ⟨by rfl, fun w' hw' => ?_⟩) hS0 ?_
            · clear hw'
              go_simp
            try go_frame
            refine wpAnyH_take (i := 3) (v := .slice (some ⟨T'.gl, 0, none⟩) T'.S.length T'.cl) rfl (by kernel_rfl) (by kernel_rfl) (by kernel_rfl) (fun _ _ _ h => h) (.inl ⟨by rfl, fun w' hw' => ?_⟩) hS0 ?_
            · obtain ⟨q0', q1', q3'⟩ := hw'
              go_simp
            try go_frame
            refine wpAnyH_take (i := 4) (v := .int .i64 (y : Int)) rfl (by kernel_rfl) (by kernel_rfl) (by kernel_rfl) (fun _ _ _ h => h) (.inl ⟨by rfl, fun w' hw' => ?_⟩) hS0 ?_
            · clear hw'
              go_simp
            try go_frame
            refine wpAnyH_take (i := 5) (v := .pointer (some ⟨W0, 0, none⟩)) rfl (by kernel_rfl) (by kernel_rfl) (by kernel_rfl) (fun _ _ _ h => h) (.inl ⟨by rfl, fun w' hw' => ?_⟩) hS0 ?_
            · clear hw'
              go_simp
            try go_frame
            refine wpAnyH_take (i := 6) (v := .pointer (some ⟨W0, 0, none⟩)) rfl (by kernel_rfl) (by kernel_rfl) (by kernel_rfl) (fun _ _ _ h => h) (.inl ⟨by rfl, fun w' hw' => ?_⟩) hS0 ?_
            · clear hw'
              go_simp
            try go_frame
            refine wpAnyH_take (i := 7) (v := .pointer (some ⟨W0, 0, none⟩)) rfl (by kernel_rfl) (by kernel_rfl) (by kernel_rfl) (fun _ _ _ h => h) (.inl ⟨by rfl, fun w' hw' => ?_⟩) hS0 ?_
            · clear hw'
              go_simp
            try go_frame
            refine wpAnyH_take (i := 8) (v := .slice (some ⟨T'.gl, 0, none⟩) T'.S.length T'.cl) rfl (by kernel_rfl) (by kernel_rfl) (by kernel_rfl) (fun _ _ _ h => h) (.inl ⟨by rfl, fun w' hw' => ?_⟩) hS0 ?_
            · obtain ⟨q0', q1', q3'⟩ := hw'
              go_simp
            try go_frame
            refine wpAnyH_take (i := 9) (v := .int .i64 (y : Int)) rfl (by kernel_rfl) (by kernel_rfl) (by kernel_rfl) (fun _ _ _ h => h) (.inl ⟨by rfl, fun w' hw' => ?_⟩) hS0 ?_
            · clear hw'
              go_simp
            try go_frame
            refine wpAnyH_take (i := 10) (v := .pointer (some ⟨T'.gl, y * 3, none⟩)) rfl (by kernel_rfl) (by kernel_rfl) (by kernel_rfl) (fun _ _ _ h => h) (.inl ⟨by rfl, fun w' hw' => ?_⟩) hS0 ?_
            · clear hw'
              go_simp
            try go_frame
            refine wpAnyH_take (i := 11) (v := .pointer (some ⟨T'.gl, y * 3 + 2, none⟩)) rfl (by kernel_rfl) (by kernel_rfl) (by kernel_rfl) (fun _ _ _ h => h) (.inl ⟨by rfl, fun w' hw' => ?_⟩) hS0 ?_
            · clear hw'
              go_simp
            try go_frame
            refine wpAnyH_take (i := 13) (v := .pointer (some ⟨W0, 0, none⟩)) rfl (by kernel_rfl) (by kernel_rfl) (by kernel_rfl) (fun _ _ _ h => h) (.inl ⟨by rfl, fun w' hw' => ?_⟩) hS0 ?_
            · clear hw'
              go_simp
            try go_frame
            refine wpAnyH_take (i := 14) (v := .pointer (some ⟨W0, 0, none⟩)) rfl (by kernel_rfl) (by kernel_rfl) (by kernel_rfl) (fun _ _ _ h => h) (.inl ⟨by rfl, fun w' hw' => ?_⟩) hS0 ?_
            · clear hw'
              go_simp
            try go_frame
            refine wpAnyH_take (i := 15) (v := .pointer (some ⟨W0, 0, none⟩)) rfl (by kernel_rfl) (by kernel_rfl) (by kernel_rfl) (fun _ _ _ h => h) (.inl ⟨by rfl, fun w' hw' => ?_⟩) hS0 ?_
            · clear hw'
              go_simp
            try go_frame
            refine wpAnyH_take (i := 16) (v := .slice (some ⟨T'.gl, 0, none⟩) T'.S.length T'.cl) rfl (by kernel_rfl) (by kernel_rfl) (by kernel_rfl) (fun _ _ _ h => h) (.inl ⟨by rfl, fun w' hw' => ?_⟩) hS0 ?_
            · obtain ⟨q0', q1', q3'⟩ := hw'
              go_simp
            try go_frame
            refine wpAnyH_take (i := 17) (v := .pointer (some ⟨W0, 0, none⟩)) rfl (by kernel_rfl) (by kernel_rfl) (by kernel_rfl) (fun _ _ _ h => h) (.inl ⟨by rfl, fun w' hw' => ?_⟩) hS0 ?_
            · clear hw'
              go_simp
            try go_frame
            refine wpAnyH_take (i := 18) (v := .pointer (some ⟨W0, 0, none⟩)) rfl (by kernel_rfl) (by kernel_rfl) (by kernel_rfl) (fun _ _ _ h => h) (.inl ⟨by rfl, fun w' hw' => ?_⟩) hS0 ?_
            · clear hw'
              go_simp
            try go_frame
            refine wpAnyH_take (i := 19) (v := .pointer (some ⟨W0, 0, none⟩)) rfl (by kernel_rfl) (by kernel_rfl) (by kernel_rfl) (fun _ _ _ h => h) (.inl ⟨by rfl, fun w' hw' => ?_⟩) hS0 ?_
            · clear hw'
              go_simp
            try go_frame
            refine wpAnyH_take (i := 20) (v := .slice (some ⟨T'.gl, 0, none⟩) T'.S.length T'.cl) rfl (by kernel_rfl) (by kernel_rfl) (by kernel_rfl) (fun _ _ _ h => h) (.inl ⟨by rfl, fun w' hw' => ?_⟩) hS0 ?_
            · obtain ⟨q0', q1', q3'⟩ := hw'
              go_simp
            try go_frame
            refine wpAnyH_take (i := 21) (v := .int .i64 (y : Int)) rfl (by kernel_rfl) (by kernel_rfl) (by kernel_rfl) (fun _ _ _ h => h) (.inl ⟨by rfl, fun w' hw' => ?_⟩) hS0 ?_
            · clear hw'
              go_simp
            try go_frame
            refine wpAnyH_take (i := 22) (v := .pointer (some ⟨T'.gl, y * 3, none⟩)) rfl (by kernel_rfl) (by kernel_rfl) (by kernel_rfl) (fun _ _ _ h => h) (.inl ⟨by rfl, fun w' hw' => ?_⟩) hS0 ?_
            · clear hw'
              go_simp
            try go_frame
            refine wpAnyH_take (i := 23) (v := .pointer (some ⟨T'.gl, y * 3 + 1, none⟩)) rfl (by kernel_rfl) (by kernel_rfl) (by kernel_rfl) (fun _ _ _ h => h) (.inl ⟨by rfl, fun w' hw' => ?_⟩) hS0 ?_
            · clear hw'
              go_simp
            try go_frame
            refine wpAnyH_take (i := 24) (v := .int .i64 (x : Int)) rfl (by kernel_rfl) (by kernel_rfl) (by kernel_rfl) (fun _ _ _ h => h) (.inl ⟨by rfl, fun w' hw' => ?_⟩) hS0 ?_
            · obtain ⟨q0', q1', q3'⟩ := hw'
              go_simp
            try go_frame
            refine wpAnyH_take (i := 25) (v := .pointer (some ⟨T'.gl, x * 3, none⟩)) rfl (by kernel_rfl) (by kernel_rfl) (by kernel_rfl) (fun _ _ _ h => h) (.inl ⟨by rfl, fun w' hw' => ?_⟩) hS0 ?_
            · clear hw'
              go_simp
            try go_frame
            refine wpAnyH_take (i := 26) (v := .pointer (some ⟨T'.gl, x * 3 + 2, none⟩)) rfl (by kernel_rfl) (by kernel_rfl) (by kernel_rfl) (fun _ _ _ h => h) (.inl ⟨by rfl, fun w' hw' => ?_⟩) hS0 ?_
            · clear hw'
              go_simp
            try go_frame
            refine wpAnyH_take (i := 27) (v := .slice Ax (E2 x).length cx) rfl (by kernel_rfl) (by kernel_rfl) (by kernel_rfl) (fun _ _ _ h => h) (.inl ⟨by rfl, fun w' hw' => ?_⟩) hS0 ?_
            · obtain ⟨q0', q1', q3'⟩ := hw'
              go_simp
            try go_frame
            refine wpAnyH_ready (rs := [12]) (by kernel_rfl) (by simp) (AllReadyH.cons rfl (fun K hK => ?_) AllReadyH.nil)
            rw [if_pos (by rfl)]
            have q2' : w3.drew.cell? ⟨T'.gl, y * 3 + 2, none⟩ = some (.slice Ay (E2 y).length cy) := Q2.out
            go_simp
            refine hK.out _ _ hS0 (fun _ => ?_)
            clear hK K q2'
            try go_frame
            refine wpAnyH_ready (rs := [28]) (by kernel_rfl) (by simp) (AllReadyH.cons rfl (fun K hK => ?_) AllReadyH.nil)
            refine ap_if (by rfl) (by rfl) Hrun.out ?_
            refine hK.out _ _ HS3'.out.1 (fun _ => ?_)
            clear hK K
            try go_frame
            refine wpAnyH_take (i := 29) (v := .pointer (some ⟨T'.gl, y * 3, none⟩)) rfl (by kernel_rfl) (by kernel_rfl) (by kernel_rfl) (fun _ _ _ h => h) (.inl ⟨by rfl, fun w' hw' => ?_⟩) HS3'.out.1 ?_
            · clear hw'
              go_simp
            try go_frame
            refine wpAnyH_take (i := 30) (v := .pointer (some ⟨T'.gl, y * 3 + 2, none⟩)) rfl (by kernel_rfl) (by kernel_rfl) (by kernel_rfl) (fun _ _ _ h => h) (.inl ⟨by rfl, fun w' hw' => ?_⟩) HS3'.out.1 ?_
            · clear hw'
              go_simp
            try go_frame
            refine wpAnyH_ready (rs := [31]) (by kernel_rfl) (by simp) (AllReadyH.cons rfl (fun K hK => ?_) AllReadyH.nil)
            rw [if_pos (by rfl)]
            go_simp
            refine hK.out _ _ (HS3'.out.2 _) (fun _ => ?_)
            clear hK K
            refine wpAnyH_done (by kernel_rfl) ?_ _
            have ho8 : w8.ownsRow base 3 1 (.slice A8 ((E2 y).length + (E2 x).length) c8) (E2 y ++ E2 x).length (nIts (E2 y ++ E2 x)) := by rw [List.length_append]; exact Hown8.out
            have hAT5 := (At4.out.frame (w' := w3.drew) (fun _ _ _ => rfl)).setEnds hyn ho8 (by dsimp only; rw [Hvy.out]; exact Hg8.out) (by dsimp only; rw [Hvy.out]; exact Hv8.out)
            obtain ⟨cs4, k4, _⟩ := At4.out.st
            have hne8 := own_ne (At4.out.en y hyn) k4 (by decide)
            dsimp only at hne8 k4
            rw [Hvy.out] at hne8
            have k8 : Bk w8 T'.gl 47 cs4 := k4.heap (Hg8.out.block _ k4.lt (fun e => hne8 e.symm))
            have hq5 := ((Hq3.out.heap (w' := w3.drew) (Nat.le_refl _) (fun _ _ _ _ => rfl)).kept Hg8.out (fun b hb => Hqd3.out y hyn b (by rw [Hvy.out]; exact hb))).set (i := y * 3 + 2) (u := .slice A8 ((E2 y).length + (E2 x).length) c8) k8 (by decide)
            obtain ⟨si1, si2, si3, hit3⟩ := ranges_iter Hr3.out
            have n1 : some (T'.M hd) ≠ (Value.slice Ay (E2 y).length cy).ownBlock := fun e => own_ne_map (At4.out.en y hyn) (At4.out.mp hd hh) (by dsimp only; rw [Hvy.out]; exact e.symm)
            have n2 : some R ≠ (Value.slice Ay (E2 y).length cy).ownBlock := fun e => own_ne_iter (At4.out.en y hyn) hit3 (by dsimp only; rw [Hvy.out]; exact e.symm)
            have n3' : some (T'.M hd) ≠ some T'.gl := fun e => by injection e with e; exact (At4.out.mp hd hh).ne k4 e
            have n4 : some R ≠ some T'.gl := fun e => by injection e with e; rw [e] at hit3; unfold Bk at k4; rw [hit3] at k4; cases k4
            have hr5 := ((Hr3.out.kept (w' := w3.drew) (gb_drew (World.grownBy.refl _ none)) (by simp) (by simp)).kept Hg8.out n1 n2).kept (gb_set (g := T'.gl) (World.grownBy.refl _ _) (y * 3 + 2) (.slice A8 ((E2 y).length + (E2 x).length) c8)) n3' n4
            have hd5 : ∀ i, i < T'.S.length → ∀ b, (upd V2 y (.slice A8 ((E2 y).length + (E2 x).length) c8) i).ownBlock = some b → (Value.slice (some A3) n3 c3).ownBlock ≠ some b := by
              intro i hi b hb
              by_cases e : i = y
              · subst e
                rw [upd_same] at hb
                rcases Hv8.out with h1 | h1
                · rw [h1, ← Hvy.out] at hb; exact Hqd3.out i hi b hb
                · rw [h1] at hb; injection hb with hb; intro e; have := Hq3.out.lt b e; have h9 : w3.drew.heap.size = w3.heap.size := rfl; omega
              · rw [upd_ne _ e] at hb; exact Hqd3.out i hi b hb
            have hb5 : Below base w (w8.setCell ⟨T'.gl, y * 3 + 2, none⟩ (.slice A8 ((E2 y).length + (E2 x).length) c8)) := (Hb3.out.drew.trans Hb8.out).setCell (p := ⟨T'.gl, y * 3 + 2, none⟩) HL2.out.at_.bg _
            have hyv : y ∉ vs := fun h1 => HyL.out (List.mem_append_right _ h1)
            have hnext := hI.out.next Hy.out hyv hAT5 Hstep.out hq5 hd5 hr5
            have Hnext := Lib.hid hnext
            have Hb5 := Lib.hid hb5
            have hm5 := hr5.left_eq
            have hm0 := hrg.left_eq
            go_roundw
            case rel =>
              repeat apply Exists.intro
              exact ⟨⟨_, _, _, _, _, _, _, _, _, rfl, Hnext, Hb5.out⟩, rfl⟩
            case measure => rw [hm5, hm0]; exact hlt
          · have hne0 : ((hd : Int) != 0) = true := by rw [bne_iff_ne]; omega
            go_wp2_with ((at_builtin; refine ap_qu (base := base) (w0 := w) Hqu1.out y ⟨w1.heap.size, 0, none⟩ 1 Hnewc.out (by simp <;> omega) hqlen Hb1.out (by rfl) (by rfl) (by rfl) ?_; intro v2 w2 hq2 hb2 hrow2 hd2; have hq2' := hq2; obtain ⟨A3, n3, c3, rfl, _⟩ := hq2'))
            have hmid := hmidL.out w2 (.slice (some A3) n3 c3) hrow2 hd2
            have hyb := Hyb.out
            obtain ⟨c0', _⟩ := hmid.1.head
            obtain ⟨_, e1, _⟩ := hmid.1.cells (i := hd) hh
            obtain ⟨_, e2, _⟩ := hmid.1.cells (i := y) hyn
            have f2 := hmid.1.free (y * 3 + 1)
            have hst := step_any base W0 (slen T'.S hd) (B2 hd) many { T' with B := B2, V := V2, E := E2 } u w2.drew (hmid.1.frame (fun _ _ _ => rfl)) hL2.tr HBs.out (by rw [HBh.out]; exact bk_lt hL2.tr hd) (by rw [HBh.out]; exact Nat.le_of_lt (bk_len hL2.tr hh hd0)) (by dsimp only; omega)
            have hgo : go T'.S (B2 hd) u = bk T'.S y := by rw [HBh.out]; exact (bk_child hL2.tr hh hd0 Hy.out).symm
            have hst2 := hst
            dsimp only at hst2 c0' e1 e2 f2
            rw [hgo] at hst2
            have at3 := hmid.1.setBack hyn (bk T'.S y)
            obtain ⟨k0, _⟩ := at3.head
            obtain ⟨_, k1, _⟩ := at3.cells (i := hd) hh
            dsimp only at k0 k1
            rw [upd_ne _ (fun e => hyh e.symm)] at k1
            have At3 := Lib.hid at3
            clear at3
            have Hst2 := Lib.hid hst2
            have Hmid := Lib.hid hmid
            have hneo : ¬ y * 3 + 1 = hd * 3 + 1 := by omega
            have iy0 : (0 : Int) ≤ (y : Int) := by omega
            have iy1 : (y : Int) < (T'.S.length : Int) := by omega
            clear hst hst2 hgo hmid hmidL hrow2 hd2
            go_region_held3 (fun w' => w'.cell? ⟨W0, 0, none⟩ = some (.slice (some ⟨T'.gl, 0, none⟩) T'.S.length T'.cl) ∧ w'.cell? ⟨T'.gl, hd * 3 + 1, none⟩ = some (.int .i64 (B2 hd : Int))) (first | go_keep | (exact ⟨c0', e1⟩) | (exact ⟨k0, k1⟩)) (first
              | ((go_at_call 21; (with_reducible refine Hst2.out.mono ?_); rintro e w' ⟨rfl, rfl⟩)))
            go_wp2_with fail
            have at4 : AT ((w2.setCell ⟨T'.gl, y * 3 + 1, none⟩ (.int .i64 ((bk T'.S y : Nat) : Int))).drew) base W0 many { T' with B := upd B2 y (bk T'.S y), V := V2, E := E2 } := At3.out.frame (fun _ _ _ => rfl)
            obtain ⟨cs0, k0s, _⟩ := Hmid.out.1.st
            have hq3 : Qu ((w2.setCell ⟨T'.gl, y * 3 + 1, none⟩ (.int .i64 ((bk T'.S y : Nat) : Int))).drew) base (.slice (some A3) n3 c3) (r ++ vs ++ [y]) := (hq2.set k0s (by decide)).heap (Nat.le_refl _) (fun _ _ _ _ => rfl)
            have hr3 : ((w2.setCell ⟨T'.gl, y * 3 + 1, none⟩ (.int .i64 ((bk T'.S y : Nat) : Int))).drew).ranges Try.prog 5 (plainElem Try.prog 3) (T'.M hd) R T'.S.length D (fun z => left z && !z.sameKey (.int .u8 (u.toNat : Int))) cnt1 :=
              Hmid.out.2.1.kept (w' := (w2.setCell ⟨T'.gl, y * 3 + 1, none⟩ (.int .i64 ((bk T'.S y : Nat) : Int))).drew) (gb_drew (gb_set (World.grownBy.refl _ _) _ _)) (fun e => by injection e with e; exact (Hmid.out.1.mp hd hh).ne k0s e) (fun e => by
                injection e with e; obtain ⟨s1, s2, s3, hit⟩ := ranges_iter Hmid.out.2.1; rw [e] at hit; unfold Bk at k0s; rw [hit] at k0s; cases k0s)
            have hb3 : Below base w ((w2.setCell ⟨T'.gl, y * 3 + 1, none⟩ (.int .i64 ((bk T'.S y : Nat) : Int))).drew) := (hb2.setCell (p := ⟨T'.gl, y * 3 + 1, none⟩) Hmid.out.1.bg _).drew
            have hqd3 := Hmid.out.2.2
            generalize ((w2.setCell ⟨T'.gl, y * 3 + 1, none⟩ (.int .i64 ((bk T'.S y : Nat) : Int))).drew) = w3 at *
            have Hq3 := Lib.hid hq3
            have Hr3 := Lib.hid hr3
            have Hqd3 := Lib.hid hqd3
            clear hq3 hr3 hqd3 Hmid At3 hq2 hb2 k0s k0 k1 c0' e1 e2 f2 Hst2 Hqu1 Hb1 Hnewc d0 d1 d2 c0
            have at4c := at4
            obtain ⟨q0, _⟩ := at4.head
            obtain ⟨_, q1, q2⟩ := at4.cells (i := y) hyn
            have hxn : bk T'.S y < T'.S.length := bk_lt hL2.tr y
            obtain ⟨_, _, q3⟩ := at4.cells (i := bk T'.S y) hxn
            have qf := at4.free (y * 3 + 2)
            have oy := at4.en y hyn
            have ox := at4.en (bk T'.S y) hxn
            dsimp only at q0 q1 q2 q3 qf oy ox
            rw [upd_same] at q1
            have hly := hI.out.sv.l0 y hyn HyL.out
            have hlx2 := hI.out.sv.l1 (bk T'.S y) hxn (Hcl.out _ hxn (by have := bk_len hL2.tr hyn Hy0.out; have := nx_len Hy.out; unfold slen at *; omega))
            have hlx3 : (E2 (bk T'.S y)).length ≤ 520 := by
              have := hL2.le _ (str_mem hxn)
              unfold slen at hlx2; omega
            obtain ⟨Ay, cy, hvy, hcy, _⟩ := own_form oy
            obtain ⟨Ax, cx, hvx, hcx, _⟩ := own_form ox
            have rx : Rd w3 w3.heap.size 1 Ax (E2 (bk T'.S y)).length (nIts (E2 (bk T'.S y))) := by rw [hvx] at ox; exact Rd.of_own ox
            rw [hvy] at q2 oy
            rw [hvx] at q3
            have hz3 := hb3.size
            have hF : ∀ w8, w3.drew.grownBy w8 (Value.slice Ay (E2 y).length cy).ownBlock → w8.cell? ⟨T'.gl, y * 3 + 2, none⟩ = some (.slice Ay (E2 y).length cy) ∧ w8.frozen? ⟨T'.gl, y * 3 + 2, none⟩ = false ∧ HS3 W0 T' y (bk T'.S y) (.slice Ax (E2 (bk T'.S y)).length cx) w8 ∧ ∀ u, HS3 W0 T' y (bk T'.S y) (.slice Ax (E2 (bk T'.S y)).length cx) (w8.setCell ⟨T'.gl, y * 3 + 2, none⟩ u) := by
              intro w8 hg
              obtain ⟨cs, k1, _⟩ := at4.st
              have hne := own_ne oy k1 (by decide)
              have k2 : Bk w8 T'.gl 47 cs := k1.heap (hg.block _ k1.lt (fun e => hne e.symm))
              have hne2 := own_ne oy at4.wd (by decide)
              have k3 := at4.wd.heap (w' := w8) (hg.block _ at4.wd.lt (fun e => hne2 e.symm))
              have hxy : ¬ bk T'.S y = y := fun e => by have := bk_len hL2.tr hyn Hy0.out; rw [e] at this; omega
              refine ⟨?_, k2.free _, ⟨k3.cell 0, ?_, ?_⟩, fun u => ⟨?_, ?_, ?_⟩⟩
              · rw [k2.cell, ← k1.cell]; exact q2
              · rw [k2.cell, ← k1.cell]; exact q1
              · rw [k2.cell, ← k1.cell]; exact q3
              · exact (k3.far (p := ⟨T'.gl, y * 3 + 2, none⟩) (k3.ne k2 (by decide)) u).cell 0
              · rw [(k2.set (y * 3 + 2) u).cell, Array.getElem?_setIfInBounds_ne (by omega), ← k1.cell]; exact q1
              · rw [(k2.set (y * 3 + 2) u).cell, Array.getElem?_setIfInBounds_ne (by omega), ← k1.cell]; exact q3
            have Hx3 := Lib.hid hlx3
            have HF := Lib.hid hF
            have Hoy := Lib.hid oy
            have Hrx := Lib.hid rx
            have Hb3 := Lib.hid hb3
            have At4 := Lib.hid at4
            have Hvy := Lib.hid hvy
            have Hvx := Lib.hid hvx
            have iy0 : (0 : Int) ≤ (y : Int) := by omega
            have iy1 : (y : Int) < (T'.S.length : Int) := by omega
            have ix0 : (0 : Int) ≤ ((bk T'.S y : Nat) : Int) := by omega
            have ix1 : ((bk T'.S y : Nat) : Int) < (T'.S.length : Int) := by omega
            have hbytes : (E2 y).length + (E2 (bk T'.S y)).length ≤ 100000 := by omega
            clear at4 at4c oy ox rx hvy hvx hF hb3 hlx2 hlx3 hly
            generalize bk T'.S y = x at *
            have Q1 := Lib.hid (And.intro q0 (And.intro q1 q3))
            have hS0 : HS3 W0 T' y x (.slice Ax (E2 x).length cx) w3.drew := ⟨q0, q1, q3⟩
            obtain ⟨v8, w8, hrun, hown8, hb8, hg8, hv8⟩ := run_append_its w3.drew base 33 (v := .slice Ay (E2 y).length cy) Hoy.out Hrx.out cx (Nat.le_trans hbase hz3) (by omega)
            obtain ⟨A8, c8, rfl, _, _⟩ := own_form hown8
            obtain ⟨s1, s2, s3⟩ := HF.out w8 hg8
            have Hrun := Lib.hid hrun
            have Hown8 := Lib.hid hown8
            have Hb8 := Lib.hid hb8
            have Hg8 := Lib.hid hg8
            have Hv8 := Lib.hid hv8
            have Q2 := Lib.hid q2
            have HS3' := Lib.hid s3
            have HL2 := Lib.hid hL2
            clear hrun hown8 hb8 hg8 hv8 q0 q1 q2 q3 hL2 hrg0 hen s3
            refine wp_region_held (S := HS3 W0 T' y x (.slice Ax (E2 x).length cx)) (by kernel_rfl) ?_
            change wpAnyH _ _ _ _ _ _ _ _ w3.drew
            refine wpAnyH_take (i := 0) (v := .pointer (some ⟨W0, 0, none⟩)) rfl (by kernel_rfl) (by kernel_rfl) (by kernel_rfl) (fun _ _ _ h => h) (.inl ⟨by rfl, fun w' hw' => ?_⟩) hS0 ?_
            · clear hw'
              go_simp
            try go_frame
            refine wpAnyH_take (i := 1) (v := .pointer (some ⟨W0, 0, none⟩)) rfl (by kernel_rfl) (by kernel_rfl) (by kernel_rfl) (fun _ _ _ h => h) (.inl ⟨by rfl, fun w' hw' => ?_⟩) hS0 ?_
            · clear hw'
              go_simp
            try go_frame
            refine wpAnyH_take (i := 2) (v := .pointer (some ⟨W0, 0, none⟩)) rfl (by kernel_rfl) (by kernel_rfl) (by kernel_rfl) (fun _ _ _ h => h) (.inl ⟨by rfl, fun w' hw' => ?_⟩) hS0 ?_
            · clear hw'
              go_simp
            try go_frame
            refine wpAnyH_take (i := 3) (v := .slice (some ⟨T'.gl, 0, none⟩) T'.S.length T'.cl) rfl (by kernel_rfl) (by kernel_rfl) (by kernel_rfl) (fun _ _ _ h => h) (.inl ⟨by rfl, fun w' hw' => ?_⟩) hS0 ?_
            · obtain ⟨q0', q1', q3'⟩ := hw'
              go_simp
            try go_frame
            refine wpAnyH_take (i := 4) (v := .int .i64 (y : Int)) rfl (by kernel_rfl) (by kernel_rfl) (by kernel_rfl) (fun _ _ _ h => h) (.inl ⟨by rfl, fun w' hw' => ?_⟩) hS0 ?_
            · clear hw'
              go_simp
            try go_frame
            refine wpAnyH_take (i := 5) (v := .pointer (some ⟨W0, 0, none⟩)) rfl (by kernel_rfl) (by kernel_rfl) (by kernel_rfl) (fun _ _ _ h => h) (.inl ⟨by rfl, fun w' hw' => ?_⟩) hS0 ?_
            · clear hw'
              go_simp
            try go_frame
            refine wpAnyH_take (i := 6) (v := .pointer (some ⟨W0, 0, none⟩)) rfl (by kernel_rfl) (by kernel_rfl) (by kernel_rfl) (fun _ _ _ h => h) (.inl ⟨by rfl, fun w' hw' => ?_⟩) hS0 ?_
            · clear hw'
              go_simp
            try go_frame
            refine wpAnyH_take (i := 7) (v := .pointer (some ⟨W0, 0, none⟩)) rfl (by kernel_rfl) (by kernel_rfl) (by kernel_rfl) (fun _ _ _ h => h) (.inl ⟨by rfl, fun w' hw' => ?_⟩) hS0 ?_
            · clear hw'
              go_simp
            try go_frame
            refine wpAnyH_take (i := 8) (v := .slice (some ⟨T'.gl, 0, none⟩) T'.S.length T'.cl) rfl (by kernel_rfl) (by kernel_rfl) (by kernel_rfl) (fun _ _ _ h => h) (.inl ⟨by rfl, fun w' hw' => ?_⟩) hS0 ?_
            · obtain ⟨q0', q1', q3'⟩ := hw'
              go_simp
            try go_frame
            refine wpAnyH_take (i := 9) (v := .int .i64 (y : Int)) rfl (by kernel_rfl) (by kernel_rfl) (by kernel_rfl) (fun _ _ _ h => h) (.inl ⟨by rfl, fun w' hw' => ?_⟩) hS0 ?_
            · clear hw'
              go_simp
            try go_frame
            refine wpAnyH_take (i := 10) (v := .pointer (some ⟨T'.gl, y * 3, none⟩)) rfl (by kernel_rfl) (by kernel_rfl) (by kernel_rfl) (fun _ _ _ h => h) (.inl ⟨by rfl, fun w' hw' => ?_⟩) hS0 ?_
            · clear hw'
              go_simp
            try go_frame
            refine wpAnyH_take (i := 11) (v := .pointer (some ⟨T'.gl, y * 3 + 2, none⟩)) rfl (by kernel_rfl) (by kernel_rfl) (by kernel_rfl) (fun _ _ _ h => h) (.inl ⟨by rfl, fun w' hw' => ?_⟩) hS0 ?_
            · clear hw'
              go_simp
            try go_frame
            refine wpAnyH_take (i := 13) (v := .pointer (some ⟨W0, 0, none⟩)) rfl (by kernel_rfl) (by kernel_rfl) (by kernel_rfl) (fun _ _ _ h => h) (.inl ⟨by rfl, fun w' hw' => ?_⟩) hS0 ?_
            · clear hw'
              go_simp
            try go_frame
            refine wpAnyH_take (i := 14) (v := .pointer (some ⟨W0, 0, none⟩)) rfl (by kernel_rfl) (by kernel_rfl) (by kernel_rfl) (fun _ _ _ h => h) (.inl ⟨by rfl, fun w' hw' => ?_⟩) hS0 ?_
            · clear hw'
              go_simp
            try go_frame
            refine wpAnyH_take (i := 15) (v := .pointer (some ⟨W0, 0, none⟩)) rfl (by kernel_rfl) (by kernel_rfl) (by kernel_rfl) (fun _ _ _ h => h) (.inl ⟨by rfl, fun w' hw' => ?_⟩) hS0 ?_
            · clear hw'
              go_simp
            try go_frame
            refine wpAnyH_take (i := 16) (v := .slice (some ⟨T'.gl, 0, none⟩) T'.S.length T'.cl) rfl (by kernel_rfl) (by kernel_rfl) (by kernel_rfl) (fun _ _ _ h => h) (.inl ⟨by rfl, fun w' hw' => ?_⟩) hS0 ?_
            · obtain ⟨q0', q1', q3'⟩ := hw'
              go_simp
            try go_frame
            refine wpAnyH_take (i := 17) (v := .pointer (some ⟨W0, 0, none⟩)) rfl (by kernel_rfl) (by kernel_rfl) (by kernel_rfl) (fun _ _ _ h => h) (.inl ⟨by rfl, fun w' hw' => ?_⟩) hS0 ?_
            · clear hw'
              go_simp
            try go_frame
            refine wpAnyH_take (i := 18) (v := .pointer (some ⟨W0, 0, none⟩)) rfl (by kernel_rfl) (by kernel_rfl) (by kernel_rfl) (fun _ _ _ h => h) (.inl ⟨by rfl, fun w' hw' => ?_⟩) hS0 ?_
            · clear hw'
              go_simp
            try go_frame
            refine wpAnyH_take (i := 19) (v := .pointer (some ⟨W0, 0, none⟩)) rfl (by kernel_rfl) (by kernel_rfl) (by kernel_rfl) (fun _ _ _ h => h) (.inl ⟨by rfl, fun w' hw' => ?_⟩) hS0 ?_
            · clear hw'
              go_simp
            try go_frame
            refine wpAnyH_take (i := 20) (v := .slice (some ⟨T'.gl, 0, none⟩) T'.S.length T'.cl) rfl (by kernel_rfl) (by kernel_rfl) (by kernel_rfl) (fun _ _ _ h => h) (.inl ⟨by rfl, fun w' hw' => ?_⟩) hS0 ?_
            · obtain ⟨q0', q1', q3'⟩ := hw'
              go_simp
            try go_frame
            refine wpAnyH_take (i := 21) (v := .int .i64 (y : Int)) rfl (by kernel_rfl) (by kernel_rfl) (by kernel_rfl) (fun _ _ _ h => h) (.inl ⟨by rfl, fun w' hw' => ?_⟩) hS0 ?_
            · clear hw'
              go_simp
            try go_frame
            refine wpAnyH_take (i := 22) (v := .pointer (some ⟨T'.gl, y * 3, none⟩)) rfl (by kernel_rfl) (by kernel_rfl) (by kernel_rfl) (fun _ _ _ h => h) (.inl ⟨by rfl, fun w' hw' => ?_⟩) hS0 ?_
            · clear hw'
              go_simp
            try go_frame
            refine wpAnyH_take (i := 23) (v := .pointer (some ⟨T'.gl, y * 3 + 1, none⟩)) rfl (by kernel_rfl) (by kernel_rfl) (by kernel_rfl) (fun _ _ _ h => h) (.inl ⟨by rfl, fun w' hw' => ?_⟩) hS0 ?_
            · clear hw'
              go_simp
            try go_frame
            refine wpAnyH_take (i := 24) (v := .int .i64 (x : Int)) rfl (by kernel_rfl) (by kernel_rfl) (by kernel_rfl) (fun _ _ _ h => h) (.inl ⟨by rfl, fun w' hw' => ?_⟩) hS0 ?_
            · obtain ⟨q0', q1', q3'⟩ := hw'
              go_simp
            try go_frame
            refine wpAnyH_take (i := 25) (v := .pointer (some ⟨T'.gl, x * 3, none⟩)) rfl (by kernel_rfl) (by kernel_rfl) (by kernel_rfl) (fun _ _ _ h => h) (.inl ⟨by rfl, fun w' hw' => ?_⟩) hS0 ?_
            · clear hw'
              go_simp
            try go_frame
            refine wpAnyH_take (i := 26) (v := .pointer (some ⟨T'.gl, x * 3 + 2, none⟩)) rfl (by kernel_rfl) (by kernel_rfl) (by kernel_rfl) (fun _ _ _ h => h) (.inl ⟨by rfl, fun w' hw' => ?_⟩) hS0 ?_
            · clear hw'
              go_simp
            try go_frame
            refine wpAnyH_take (i := 27) (v := .slice Ax (E2 x).length cx) rfl (by kernel_rfl) (by kernel_rfl) (by kernel_rfl) (fun _ _ _ h => h) (.inl ⟨by rfl, fun w' hw' => ?_⟩) hS0 ?_
            · obtain ⟨q0', q1', q3'⟩ := hw'
              go_simp
            try go_frame
            refine wpAnyH_ready (rs := [12]) (by kernel_rfl) (by simp) (AllReadyH.cons rfl (fun K hK => ?_) AllReadyH.nil)
            rw [if_pos (by rfl)]
            have q2' : w3.drew.cell? ⟨T'.gl, y * 3 + 2, none⟩ = some (.slice Ay (E2 y).length cy) := Q2.out
            go_simp
            refine hK.out _ _ hS0 (fun _ => ?_)
            clear hK K q2'
            try go_frame
            refine wpAnyH_ready (rs := [28]) (by kernel_rfl) (by simp) (AllReadyH.cons rfl (fun K hK => ?_) AllReadyH.nil)
            refine ap_if (by rfl) (by rfl) Hrun.out ?_
            refine hK.out _ _ HS3'.out.1 (fun _ => ?_)
            clear hK K
            try go_frame
            refine wpAnyH_take (i := 29) (v := .pointer (some ⟨T'.gl, y * 3, none⟩)) rfl (by kernel_rfl) (by kernel_rfl) (by kernel_rfl) (fun _ _ _ h => h) (.inl ⟨by rfl, fun w' hw' => ?_⟩) HS3'.out.1 ?_
            · clear hw'
              go_simp
            try go_frame
            refine wpAnyH_take (i := 30) (v := .pointer (some ⟨T'.gl, y * 3 + 2, none⟩)) rfl (by kernel_rfl) (by kernel_rfl) (by kernel_rfl) (fun _ _ _ h => h) (.inl ⟨by rfl, fun w' hw' => ?_⟩) HS3'.out.1 ?_
            · clear hw'
              go_simp
            try go_frame
            refine wpAnyH_ready (rs := [31]) (by kernel_rfl) (by simp) (AllReadyH.cons rfl (fun K hK => ?_) AllReadyH.nil)
            rw [if_pos (by rfl)]
            go_simp
            refine hK.out _ _ (HS3'.out.2 _) (fun _ => ?_)
            clear hK K
            refine wpAnyH_done (by kernel_rfl) ?_ _
            have ho8 : w8.ownsRow base 3 1 (.slice A8 ((E2 y).length + (E2 x).length) c8) (E2 y ++ E2 x).length (nIts (E2 y ++ E2 x)) := by rw [List.length_append]; exact Hown8.out
            have hAT5 := (At4.out.frame (w' := w3.drew) (fun _ _ _ => rfl)).setEnds hyn ho8 (by dsimp only; rw [Hvy.out]; exact Hg8.out) (by dsimp only; rw [Hvy.out]; exact Hv8.out)
            obtain ⟨cs4, k4, _⟩ := At4.out.st
            have hne8 := own_ne (At4.out.en y hyn) k4 (by decide)
            dsimp only at hne8 k4
            rw [Hvy.out] at hne8
            have k8 : Bk w8 T'.gl 47 cs4 := k4.heap (Hg8.out.block _ k4.lt (fun e => hne8 e.symm))
            have hq5 := ((Hq3.out.heap (w' := w3.drew) (Nat.le_refl _) (fun _ _ _ _ => rfl)).kept Hg8.out (fun b hb => Hqd3.out y hyn b (by rw [Hvy.out]; exact hb))).set (i := y * 3 + 2) (u := .slice A8 ((E2 y).length + (E2 x).length) c8) k8 (by decide)
            obtain ⟨si1, si2, si3, hit3⟩ := ranges_iter Hr3.out
            have n1 : some (T'.M hd) ≠ (Value.slice Ay (E2 y).length cy).ownBlock := fun e => own_ne_map (At4.out.en y hyn) (At4.out.mp hd hh) (by dsimp only; rw [Hvy.out]; exact e.symm)
            have n2 : some R ≠ (Value.slice Ay (E2 y).length cy).ownBlock := fun e => own_ne_iter (At4.out.en y hyn) hit3 (by dsimp only; rw [Hvy.out]; exact e.symm)
            have n3' : some (T'.M hd) ≠ some T'.gl := fun e => by injection e with e; exact (At4.out.mp hd hh).ne k4 e
            have n4 : some R ≠ some T'.gl := fun e => by injection e with e; rw [e] at hit3; unfold Bk at k4; rw [hit3] at k4; cases k4
            have hr5 := ((Hr3.out.kept (w' := w3.drew) (gb_drew (World.grownBy.refl _ none)) (by simp) (by simp)).kept Hg8.out n1 n2).kept (gb_set (g := T'.gl) (World.grownBy.refl _ _) (y * 3 + 2) (.slice A8 ((E2 y).length + (E2 x).length) c8)) n3' n4
            have hd5 : ∀ i, i < T'.S.length → ∀ b, (upd V2 y (.slice A8 ((E2 y).length + (E2 x).length) c8) i).ownBlock = some b → (Value.slice (some A3) n3 c3).ownBlock ≠ some b := by
              intro i hi b hb
              by_cases e : i = y
              · subst e
                rw [upd_same] at hb
                rcases Hv8.out with h1 | h1
                · rw [h1, ← Hvy.out] at hb; exact Hqd3.out i hi b hb
                · rw [h1] at hb; injection hb with hb; intro e; have := Hq3.out.lt b e; have h9 : w3.drew.heap.size = w3.heap.size := rfl; omega
              · rw [upd_ne _ e] at hb; exact Hqd3.out i hi b hb
            have hb5 : Below base w (w8.setCell ⟨T'.gl, y * 3 + 2, none⟩ (.slice A8 ((E2 y).length + (E2 x).length) c8)) := (Hb3.out.drew.trans Hb8.out).setCell (p := ⟨T'.gl, y * 3 + 2, none⟩) HL2.out.at_.bg _
            have hyv : y ∉ vs := fun h1 => HyL.out (List.mem_append_right _ h1)
            have hnext := hI.out.next Hy.out hyv hAT5 Hstep.out hq5 hd5 hr5
            have Hnext := Lib.hid hnext
            have Hb5 := Lib.hid hb5
            have hm5 := hr5.left_eq
            have hm0 := hrg.left_eq
            go_roundw
            case rel =>
              repeat apply Exists.intro
              exact ⟨⟨_, _, _, _, _, _, _, _, _, rfl, Hnext, Hb5.out⟩, rfl⟩
            case measure => rw [hm5, hm0]; exact hlt
end Go.Proofs.Ythfpdiaobkccbaa
