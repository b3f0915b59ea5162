/- The law NodeOrder: its walk. -/
import Derived.Test.YtelaliokmmaopaaDoorNodC
import Derived.Test.YtelaliokmmaopaaDoorNodI
namespace Go.Proofs.YtelaliokmmaopaaDoor
open Go.RowKit
attribute [local go_sem ↓] Go.wp_at_zero Go.wp_at_succ

theorem own_bk0 {W : World} {p base : Nat} {e : TypeId} (hb : Bk W p e #[]) (hp : base ≤ p) : W.ownsRow base e 1 (.slice (some ⟨p, 0, none⟩) 0 0) 0 (bys []) :=
  ⟨rfl, .inr ⟨p, 0, #[], rfl, hp, hb, Nat.le_refl _, Nat.zero_le _, rfl, rfl⟩⟩
theorem rd_bk0 {W : World} {p : Nat} {e : TypeId} (hb : Bk W p e #[.int .u8 0]) : Rd W (p + 1) 1 (some ⟨p, 0, none⟩) 1 (bys [0]) := by
  refine ⟨rfl, fun _ => ⟨p, 0, rfl, by omega, fun j v hj => ?_⟩⟩
  match j, hj with
  | 0, hj => simp [bys] at hj; subst hj; exact hb.cell 0
  | j + 1, hj => simp [bys] at hj
/-- append of bytes, at a guarded step of a region that draws its order. -/
theorem ap_step_g {w w0 : World} {ops : Array Oper} {a : Act} {K : Act → World → Prop} {Q : Exit → Act → World → Prop} {E : Prop} {d : Option Tmp} {ty : TypeId} {pos : String} {af : Array Edge} {gd : Option (Nat × Bool)} {s x : Operand} {base : Nat}
    {v : Value} {n : Nat} {xs : List UInt8} {B : Nat} {A : Option Addr} {m c : Nat} {news : List UInt8} (hown : w.ownsRow base 5 1 v n (bys xs)) (hr : Rd w B 1 A m (bys news))
    (hb : Below base w0 w) (hbase : base ≤ w.heap.size) (hbytes : n + m ≤ 140737488355328)
    (hw : Region.wanted { dst := d, op := .call { callee := .builtin .append, args := #[s, x], argTypes := #[22, 22] }, type := ty, pos := pos, after := af, guard := gd } (yielded ops a.tmps) = true)
    (hs : a.eval s = v) (hx : a.eval x = .slice A m c)
    (h : ∀ v' w', w'.ownsRow base 5 1 v' (n + m) (bys (xs ++ news)) → Below base w0 w' → w.grownBy w' v.ownBlock → (v'.ownBlock = v.ownBlock ∨ v'.ownBlock = some w.heap.size) → K (a.put d v') w') :
    if Region.wanted { dst := d, op := .call { callee := .builtin .append, args := #[s, x], argTypes := #[22, 22] }, type := ty, pos := pos, after := af, guard := gd } (yielded ops a.tmps) = true then
      Oper.wp Tryd.prog { dst := d, op := .call { callee := .builtin .append, args := #[s, x], argTypes := #[22, 22] }, type := ty, pos := pos, after := af, guard := gd } a w K Q else E := by
  obtain ⟨i0, hi, hz0, hz1, hz2⟩ := info_parts infoB
  rw [if_pos hw]
  obtain ⟨v', w', hrun, h2, h3, h4⟩ := run_append_rd (P := Tryd.prog) w base 22 ty 5 i0 (.int .u8 0) 1 1 Tryd.underlying22 hi hz0 hz1 hz2 rfl (by decide) v n (bys xs) hown B A m c (bys news) hr (bys_one _) (by unfold maxLen; omega) (by omega) hbase
  unfold Oper.wp execOp
  simp only [resolve, invoke, builtin, Sem.run_bind, Sem.run_pure, Result.andThen_ok, List.map_toArray, List.map_cons, List.map_nil, hs, hx, hrun]
  exact h v' w' (by rw [bys_app]; exact h2) (hb.grown h3 hbase (fun k hk => (hown.lt k hk).1)) h3 h4
/-- The law reads no table. -/
theorem nodeOrder_laid {P : Prop} (_ : World) (_ : P) : True := trivial
set_option maxRecDepth 100000 in
set_option maxHeartbeats 4000000 in
theorem nodeOrder_walk (M : NdM) (N : NodP) (w : World) (hr : RdN w w.heap.size M N) (_ : True) :
    Calls Tryd.prog 6 #[.agg (ndC N.leaf M)] w fun e w' => e = .returned (.bool true) ∧ Below w.heap.size w w' := by
  obtain ⟨hcl, hkl⟩ := hr.len
  have Hwk := Lib.hid (fun W => nodwakes_any W)
  have Hgr := Lib.hid (fun W (hb : Below w.heap.size w W) => great_any M N W ((hr.below hb (Nat.le_refl _)).more hb.size))
  have Hrt := Lib.hid (fun W (hb : Below w.heap.size w W) (h1 : M.n ≤ 100) (h2 : M.m ≤ 100) => rright_any M N W ((hr.below hb (Nat.le_refl _)).more hb.size) h1 h2)
  have Hfi := Lib.hid (fun W Ak nk ck key (hb : Below w.heap.size w W) (hR : RightP N) (h1 : M.n ≤ 100) (hk : Rd W W.heap.size 1 Ak nk (bys key)) => find_any M N Ak nk ck key W ((hr.below hb (Nat.le_refl _)).more hb.size) hk hR.sorted (by omega))
  have Hcs := Lib.hid hr.cs
  have Hcl := Lib.hid hcl
  have HRb := Lib.hid (show rightB N = true → RightP N from fun h => rightB_iff.1 h)
  clear hr hcl hkl
  unfold ndC at Hgr Hrt Hfi ⊢
  obtain ⟨A, n, c, K, m, d⟩ := M
  obtain ⟨lf, cs, ks⟩ := N
  simp only at Hcl Hgr Hrt Hfi Hcs ⊢
  generalize rightB ⟨lf, cs, ks⟩ = rb at *
  go_enter Tryd.func6, Tryd.ntmps6
  go_wp2_with fail
  refine (Hwk.out _).mono ?_
  rintro e w1 ⟨rfl, hb1⟩
  have hg1 : Bk w1 w.heap.size 27 #[.bool lf, .slice A n c, .slice K m d] := Bk.below (Bk.new w _ _) hb1 (by simp)
  have hB1 : Below w.heap.size w w1 := ((Below.refl w.heap.size w).alloc (Nat.le_refl _) (.cells #[.bool lf, .slice A n c, .slice K m d] 27)).trans (hb1.mono (by simp))
  have f0 : w1.cell? ⟨w.heap.size, 0, none⟩ = some (.bool lf) := hg1.cell 0
  have f1 : w1.cell? ⟨w.heap.size, 1, none⟩ = some (.slice A n c) := hg1.cell 1
  have f2 : w1.cell? ⟨w.heap.size, 2, none⟩ = some (.slice K m d) := hg1.cell 2
  have G1 := Lib.hid hg1
  have B1 := Lib.hid hB1
  clear hg1 hB1 hb1 Hwk
  go_wp2_with fail
  refine (Hgr.out _ B1.out).mono ?_
  rintro e w2 ⟨hq, hb2⟩
  have G2 := Lib.hid (Bk.below G1.out hb2 G1.out.lt)
  have B2 := Lib.hid (B1.out.trans (hb2.mono B1.out.size))
  clear hb2 Hgr G1 B1 f0 f1 f2
  have f0 : w2.cell? ⟨w.heap.size, 0, none⟩ = some (.bool lf) := G2.out.cell 0
  have f1 : w2.cell? ⟨w.heap.size, 1, none⟩ = some (.slice A n c) := G2.out.cell 1
  have f2 : w2.cell? ⟨w.heap.size, 2, none⟩ = some (.slice K m d) := G2.out.cell 2
  rcases hq with rfl | ⟨rfl, hn, hm⟩
  · go_wp2_with fail
    go_ret
    exact ⟨rfl, B2.out⟩
  simp only at hn hm
  go_wp2_with fail
  refine (Hrt.out _ B2.out hn hm).mono ?_
  rintro e w3 ⟨rfl, hb3⟩
  have G3 := Lib.hid (Bk.below G2.out hb3 G2.out.lt)
  have B3 := Lib.hid (B2.out.trans (hb3.mono B2.out.size))
  clear hb3 Hrt G2 B2 f0 f1 f2
  have f0 : w3.cell? ⟨w.heap.size, 0, none⟩ = some (.bool lf) := G3.out.cell 0
  have f1 : w3.cell? ⟨w.heap.size, 1, none⟩ = some (.slice A n c) := G3.out.cell 1
  cases rb
  · go_wp2_with fail
    go_ret
    exact ⟨rfl, B3.out⟩
  have HR := Lib.hid (HRb.out rfl)
  cases lf
  · go_wp2_with fail
    go_ret
    exact ⟨rfl, B3.out⟩
  go_wp2_with fail
  have hz3 := G3.out.lt
  go_loopw [26] (fun idx wr => ∃ j : Nat, idx = .int .i64 j ∧ j ≤ n ∧ Hid (Below w.heap.size w wr ∧ Bk wr w.heap.size 27 #[.bool true, .slice A n c, .slice K m d])) (fun idx _ => n - (intOf idx).toNat)
  case atStart => exact ⟨0, rfl, Nat.zero_le _, Lib.hid ⟨B3.out, G3.out⟩⟩
  case round =>
    obtain ⟨j, rfl, hj, HI⟩ := hrel
    obtain ⟨hbw, hbk⟩ := HI.out
    clear HI f0 f1 G3 B3 HRb
    by_cases hlt : j < n
    · obtain ⟨b, o, cc, Ac, nc, cc', Av, nv, cv, rfl, hb, hcj, k0, hrk, hnck, k1, hrv, hncv, k2, k3⟩ := Hcs.out.at_ hlt
      have e0 := (hbw.cell (p := ⟨b, o + j * 4, none⟩) (by show b < _; omega)).trans k0
      have e1 := (hbw.cell (p := ⟨b, o + j * 4 + 1, none⟩) (by show b < _; omega)).trans k1
      have e2 := (hbw.cell (p := ⟨b, o + j * 4 + 2, none⟩) (by show b < _; omega)).trans k2
      have e3 := (hbw.cell (p := ⟨b, o + j * 4 + 3, none⟩) (by show b < _; omega)).trans k3
      have hkl := (HR.out.2.1.1 j cc (List.getElem?_eq_some_iff.1 hcj).1 hcj).1
      rw [hrk.blen] at hkl
      generalize cc.over = ov at *
      generalize cc.long = lo at *
      have HC := Lib.hid (Bk.new wr 42 #[.slice Ac nc cc', .slice Av nv cv, .int .i64 ov, .int .i64 lo])
      have HG := Lib.hid (hbk.alloc (.cells #[.slice Ac nc cc', .slice Av nv cv, .int .i64 ov, .int .i64 lo] 42))
      have HW := Lib.hid (hbw.alloc hbw.size (.cells #[.slice Ac nc cc', .slice Av nv cv, .int .i64 ov, .int .i64 lo] 42))
      have Hrk := Lib.hid hrk
      have Hcj := Lib.hid hcj
      have n0 : (wr.alloc (.cells #[.slice Ac nc cc', .slice Av nv cv, .int .i64 ov, .int .i64 lo] 42)).cell? ⟨w.heap.size, 0, none⟩ = some (.bool true) := HG.out.cell 0
      have n1 : (wr.alloc (.cells #[.slice Ac nc cc', .slice Av nv cv, .int .i64 ov, .int .i64 lo] 42)).cell? ⟨w.heap.size, 1, none⟩ = some (.slice (some ⟨b, o, none⟩) n c) := HG.out.cell 1
      have n2 : (wr.alloc (.cells #[.slice Ac nc cc', .slice Av nv cv, .int .i64 ov, .int .i64 lo] 42)).cell? ⟨w.heap.size, 2, none⟩ = some (.slice K m d) := HG.out.cell 2
      have hzr := hbk.lt
      clear k0 k1 k2 k3 hrk hrv hcj hbw hbk
      go_wp2_with (fail)
      refine (Hfi.out _ Ac nc cc' cc.key HW.out HR.out hn ((Hrk.out.below HW.out (Nat.le_refl _)).more HW.out.size)).mono ?_
      rintro e w5 ⟨⟨k, is, rfl, hF⟩, hb5⟩
      obtain ⟨rfl, rfl⟩ := find_own HR.out.sorted Hcj.out hF
      have hC5 := Bk.below HC.out hb5 (by simp)
      have hG5 := Bk.below HG.out hb5 (by simp; omega)
      have hW5 := HW.out.trans (hb5.mono HW.out.size)
      generalize wr.heap.size = g at *
      have C5 := Lib.hid hC5
      have G5 := Lib.hid hG5
      have W5 := Lib.hid hW5
      have c0 : w5.cell? ⟨g, 0, none⟩ = some (.slice Ac nc cc') := C5.out.cell 0
      have n0 : w5.cell? ⟨w.heap.size, 0, none⟩ = some (.bool true) := G5.out.cell 0
      have n1 : w5.cell? ⟨w.heap.size, 1, none⟩ = some (.slice (some ⟨b, o, none⟩) n c) := G5.out.cell 1
      have n2 : w5.cell? ⟨w.heap.size, 2, none⟩ = some (.slice K m d) := G5.out.cell 2
      clear hC5 hG5 hW5 hF hb5 HC HG HW
      go_upto_region 11 with (fail)
      have hwz := W5.out.size
      have hgz := C5.out.lt
      have HX := Lib.hid (show ∀ W, Below w5.heap.size w5 W → Below w.heap.size w W ∧ Bk W w.heap.size 27 #[.bool true, .slice (some ⟨b, o, none⟩) n c, .slice K m d] ∧ Bk W g 42 #[.slice Ac nc cc', .slice Av nv cv, .int .i64 ov, .int .i64 lo] ∧ Rd W w.heap.size 1 Ac nc (bys cc.key) from fun W hb => ⟨W5.out.trans (hb.mono hwz), Bk.below G5.out hb G5.out.lt, Bk.below C5.out hb hgz, (Hrk.out.below W5.out (Nat.le_refl _)).below hb hwz⟩)
      have HA1 := Lib.hid (show ∀ (W : World) (p : Nat), Bk W p 5 #[] → w5.heap.size ≤ p → W.ownsRow w5.heap.size 5 1 (.slice (some ⟨p, 0, none⟩) 0 0) 0 (bys []) from fun W p hb hp => own_bk0 hb hp)
      have HA2 := Lib.hid (show ∀ (W : World) (p : Nat), Bk W p 5 #[.int .u8 0] → Rd W (p + 1) 1 (some ⟨p, 0, none⟩) 1 (bys [0]) from fun W p hb => rd_bk0 hb)
      go_cut [7, 8] (fun v7 v8 wx => ∃ is, v7 = .int .i64 ((k : Int) + 1) ∧ v8 = .bool is ∧ Hid ((is = true ↔ ∃ d, cs[k + 1]? = some d ∧ d.key = cc.key ++ [0]) ∧ Below w.heap.size w wx ∧ Bk wx w.heap.size 27 #[.bool true, .slice (some ⟨b, o, none⟩) n c, .slice K m d] ∧ Bk wx g 42 #[.slice Ac nc cc', .slice Av nv cv, .int .i64 ov, .int .i64 lo]))
      case first =>
        have HS := Lib.hid (show ∀ w', Below w5.heap.size w5 w' → (w'.cell? ⟨w.heap.size, 0, none⟩ = some (.bool true) ∧ w'.cell? ⟨w.heap.size, 1, none⟩ = some (.slice (some ⟨b, o, none⟩) n c) ∧ w'.cell? ⟨w.heap.size, 2, none⟩ = some (.slice K m d)) ∧ w'.cell? ⟨g, 0, none⟩ = some (.slice Ac nc cc') from fun W hb => ⟨⟨(HX.out W hb).2.1.cell 0, (HX.out W hb).2.1.cell 1, (HX.out W hb).2.1.cell 2⟩, (HX.out W hb).2.2.1.cell 0⟩)
        go_region_held3 (fun w' => (w'.cell? ⟨w.heap.size, 0, none⟩ = some (.bool true) ∧ w'.cell? ⟨w.heap.size, 1, none⟩ = some (.slice (some ⟨b, o, none⟩) n c) ∧ w'.cell? ⟨w.heap.size, 2, none⟩ = some (.slice K m d)) ∧ w'.cell? ⟨g, 0, none⟩ = some (.slice Ac nc cc')) (first | (exact HS.out _ (by first | exact ((Below.refl _ _).alloc (Nat.le_refl _) _).drew | exact (((Below.refl _ _).alloc (Nat.le_refl _) _).alloc (by simp) _).drew | exact (Below.refl _ _).drew | exact hb10 | exact hb9 | exact hb8.alloc hb8.size _ | exact hb8)) | go_keep) (first
          | (refine ap_step (v := .slice (some ⟨w5.heap.size, 0, none⟩) 0 0) (n := 0) (xs := []) (news := cc.key) (A := Ac) (m := nc) (c := cc') (B := w.heap.size) (base := w5.heap.size) (w0 := w5) (HA1.out _ _ (Bk.drew (Bk.new _ _ _)) (by omega)) ((HX.out _ (((Below.refl _ _).alloc (Nat.le_refl _) _).drew)).2.2.2) (((Below.refl _ _).alloc (Nat.le_refl _) _).drew) (by first | (simp; done) | (simp; omega)) (by omega) (by rfl) (by rfl) ?_; intro v8 w8 hown8 hb8 hg8 hv8; rw [List.nil_append, Nat.zero_add] at hown8; obtain ⟨A8, c8, rfl, _, _⟩ := own_form hown8)
          | (refine ap_step (v := .slice (some ⟨w5.heap.size, 0, none⟩) 0 0) (n := 0) (xs := []) (news := cc.key) (A := Ac) (m := nc) (c := cc') (B := w.heap.size) (base := w5.heap.size) (w0 := w5) (HA1.out _ _ (Bk.drew (Bk.alloc (Bk.new _ _ _) _)) (by omega)) ((HX.out _ ((((Below.refl _ _).alloc (Nat.le_refl _) _).alloc (by simp) _).drew)).2.2.2) ((((Below.refl _ _).alloc (Nat.le_refl _) _).alloc (by simp) _).drew) (by first | (simp; done) | (simp; omega)) (by omega) (by rfl) (by rfl) ?_; intro v8 w8 hown8 hb8 hg8 hv8; rw [List.nil_append, Nat.zero_add] at hown8; obtain ⟨A8, c8, rfl, _, _⟩ := own_form hown8; have hl8 : Bk w8 (w5.heap.size + 1) 5 #[.int .u8 0] := Bk.grown (Bk.drew (Bk.new' _ _ _ (by simp))) hg8 (by simp [Value.ownBlock]))
          | (refine ap_step (v := .slice (some ⟨w5.heap.size + 1, 0, none⟩) 0 0) (n := 0) (xs := []) (news := cc.key) (A := Ac) (m := nc) (c := cc') (B := w.heap.size) (base := w5.heap.size) (w0 := w5) (HA1.out _ _ (Bk.drew (Bk.new' _ _ _ (by simp))) (by omega)) ((HX.out _ ((((Below.refl _ _).alloc (Nat.le_refl _) _).alloc (by simp) _).drew)).2.2.2) ((((Below.refl _ _).alloc (Nat.le_refl _) _).alloc (by simp) _).drew) (by first | (simp; done) | (simp; omega)) (by omega) (by rfl) (by rfl) ?_; intro v8 w8 hown8 hb8 hg8 hv8; rw [List.nil_append, Nat.zero_add] at hown8; obtain ⟨A8, c8, rfl, _, _⟩ := own_form hown8; have hl8 : Bk w8 w5.heap.size 5 #[.int .u8 0] := Bk.grown (Bk.drew (Bk.alloc (Bk.new _ _ _) _)) hg8 (by simp [Value.ownBlock]))
          | (refine ap_step (v := .slice A8 nc c8) (n := nc) (xs := cc.key) (news := [0]) (A := some ⟨w8.heap.size, 0, none⟩) (m := 1) (c := 1) (B := w8.heap.size + 1) (base := w5.heap.size) (w0 := w5) (hown8.alloc _) (HA2.out _ _ (Bk.new _ _ _)) (hb8.alloc hb8.size _) (by have := hb8.size; simp; omega) (by omega) (by rfl) (by rfl) ?_; intro v9 w9 hown9 hb9 hg9 hv9; obtain ⟨A9, c9, rfl, hc9, _⟩ := own_form hown9)
          | (refine ap_step (v := .slice A8 nc c8) (n := nc) (xs := cc.key) (news := [0]) (A := some ⟨w5.heap.size + 1, 0, none⟩) (m := 1) (c := 1) (B := w5.heap.size + 1 + 1) (base := w5.heap.size) (w0 := w5) hown8 (HA2.out _ _ hl8) hb8 hb8.size (by omega) (by rfl) (by rfl) ?_; intro v9 w9 hown9 hb9 hg9 hv9; obtain ⟨A9, c9, rfl, hc9, _⟩ := own_form hown9)
          | (refine ap_step (v := .slice A8 nc c8) (n := nc) (xs := cc.key) (news := [0]) (A := some ⟨w5.heap.size, 0, none⟩) (m := 1) (c := 1) (B := w5.heap.size + 1) (base := w5.heap.size) (w0 := w5) hown8 (HA2.out _ _ hl8) hb8 hb8.size (by omega) (by rfl) (by rfl) ?_; intro v9 w9 hown9 hb9 hg9 hv9; obtain ⟨A9, c9, rfl, hc9, _⟩ := own_form hown9)
          | (go_simp; go_at_call 15; refine (Hfi.out _ A9 (nc + 1) c9 (cc.key ++ [0]) (HX.out _ hb9).1 HR.out hn (Rd.of_own hown9)).mono ?_; rintro e w10 ⟨⟨k2, is, rfl, hF⟩, hb10'⟩; obtain ⟨rfl, his⟩ := find_next HR.out.sorted Hcj.out hF; have hb10 := hb9.trans (hb10'.mono hb9.size); have HM := Lib.hid (And.intro his (HX.out _ hb10)))
          | (go_at_call 15; refine (Hfi.out _ A9 (nc + 1) c9 (cc.key ++ [0]) (HX.out _ hb9).1 HR.out hn (Rd.of_own hown9)).mono ?_; rintro e w10 ⟨⟨k2, is, rfl, hF⟩, hb10'⟩; obtain ⟨rfl, his⟩ := find_next HR.out.sorted Hcj.out hF; have hb10 := hb9.trans (hb10'.mono hb9.size); have HM := Lib.hid (And.intro his (HX.out _ hb10))))
        all_goals
          go_wp2_with fail
          go_meet
          exact ⟨is, by simp, rfl, Lib.hid ⟨HM.out.1, HM.out.2.1, HM.out.2.2.1, HM.out.2.2.2.1⟩⟩
      case rest =>
        obtain ⟨is, rfl, rfl, HM⟩ := hcut
        obtain ⟨his, hW6, hG6, hC6⟩ := HM.out
        have hwz := hW6.size
        have hgz := hC6.lt
        have hnz := hG6.lt
        have q1 : IntKind.i64.wrap ((k : Int) + 1) = (k : Int) + 1 := IntWalk.i64_in _ (by omega)
        have c1 : wc.cell? ⟨w.heap.size, 1, none⟩ = some (.slice (some ⟨b, o, none⟩) n c) := hG6.cell 1
        have c2 : wc.cell? ⟨g, 0, none⟩ = some (.slice Ac nc cc') := hC6.cell 0
        clear HX HA1 HA2 c0 n0 n1 n2 C5 G5 W5 HM
        by_cases hl2 : k + 1 < n
        · obtain ⟨b2, o2, dd, Ad, nd, cd, Av2, nv2, cv2, hA2, _, hdj, d0, hrd, hncd, _, _, _, _, _⟩ := Hcs.out.at_ hl2
          injection hA2 with hA2
          injection hA2 with hA21 hA22
          subst hA21 hA22
          have d6 := (hW6.cell (p := ⟨b, o + (k + 1) * 4, none⟩) (by show b < _; omega)).trans d0
          have hnd := (HR.out.2.1.1 (k + 1) dd (List.getElem?_eq_some_iff.1 hdj).1 hdj).1
          rw [hrd.blen] at hnd
          have hise : is = decide (dd.key = cc.key ++ [0]) := by
            rw [Bool.eq_iff_iff, his, decide_eq_true_eq, hdj]
            exact ⟨fun ⟨x, h1, h2⟩ => by injection h1 with h1; rw [h1]; exact h2, fun h => ⟨dd, rfl, h⟩⟩
          have HX := Lib.hid (show ∀ W, Below wc.heap.size wc W → Below w.heap.size w W ∧ Bk W w.heap.size 27 #[.bool true, .slice (some ⟨b, o, none⟩) n c, .slice K m d] ∧ Bk W g 42 #[.slice Ac nc cc', .slice Av nv cv, .int .i64 ov, .int .i64 lo] ∧ W.cell? ⟨b, o + (k + 1) * 4, none⟩ = some (.slice Ad nd cd) ∧ Rd W w.heap.size 1 Ac nc (bys cc.key) from fun W hb' => ⟨hW6.trans (hb'.mono hwz), Bk.below hG6 hb' hnz, Bk.below hC6 hb' hgz, (hb'.cell (p := ⟨b, o + (k + 1) * 4, none⟩) (by show b < _; omega)).trans d6, (Hrk.out.below hW6 (Nat.le_refl _)).below hb' hwz⟩)
          have Hsm := Lib.hid (show ∀ W A9 c9, Below wc.heap.size wc W → W.ownsRow wc.heap.size 5 1 (.slice A9 (nc + 1) c9) (nc + 1) (bys (cc.key ++ [0])) → Calls Tryd.prog 17 #[.slice Ad nd cd, .slice A9 (nc + 1) c9] W fun e w' => e = .returned (.bool is) ∧ ∃ q, w' = W.drewN q from by
            intro W A9 c9 hb' hown
            rw [hise]
            exact same_any Ad A9 nd (nc + 1) cd c9 dd.key (cc.key ++ [0]) W (((hrd.below hW6 (Nat.le_refl _)).below hb' hwz).more (by have := hb'.size; omega)) (Rd.of_own hown) (by omega) (by omega))
          have HS := Lib.hid (show ∀ w', Below wc.heap.size wc w' → w'.cell? ⟨w.heap.size, 1, none⟩ = some (.slice (some ⟨b, o, none⟩) n c) ∧ w'.cell? ⟨g, 0, none⟩ = some (.slice Ac nc cc') ∧ w'.cell? ⟨b, o + (k + 1) * 4, none⟩ = some (.slice Ad nd cd) from fun W hb' => ⟨(HX.out W hb').2.1.cell 1, (HX.out W hb').2.2.1.cell 0, (HX.out W hb').2.2.2.1⟩)
          clear his hW6 hG6 hC6 d0 hrd hdj hise
          have q2 : decide ((k : Int) + 1 < (n : Int)) = true := by simp; omega
          have q3 : (0 : Int) ≤ (k : Int) + 1 := by omega
          have q4 : ((k : Int) + 1).toNat = k + 1 := by omega
          have q5 : (k : Int) + 1 < (n : Int) := by omega
          go_wp2_with (fail)
          go_region_held3 (fun w' => w'.cell? ⟨w.heap.size, 1, none⟩ = some (.slice (some ⟨b, o, none⟩) n c) ∧ w'.cell? ⟨g, 0, none⟩ = some (.slice Ac nc cc') ∧ w'.cell? ⟨b, o + (k + 1) * 4, none⟩ = some (.slice Ad nd cd)) (first | (exact HS.out _ (by first | exact ((Below.refl _ _).alloc (Nat.le_refl _) _).drew | exact (((Below.refl _ _).alloc (Nat.le_refl _) _).alloc (by simp) _).drew | exact (Below.refl _ _).drew | exact hb10 | exact hb9 | exact hb8.alloc hb8.size _ | exact hb8)) | go_keep) (first
            | (refine ap_step_g (v := .slice (some ⟨wc.heap.size, 0, none⟩) 0 0) (n := 0) (xs := []) (news := cc.key) (A := Ac) (m := nc) (c := cc') (B := w.heap.size) (base := wc.heap.size) (w0 := wc) (own_bk0 (Bk.drew (Bk.new _ _ _)) (by omega)) ((HX.out _ (((Below.refl _ _).alloc (Nat.le_refl _) _).drew)).2.2.2.2) (((Below.refl _ _).alloc (Nat.le_refl _) _).drew) (by first | (simp; done) | (simp; omega)) (by omega) (by rfl) (by rfl) (by rfl) ?_; intro v8 w8 hown8 hb8 hg8 hv8; rw [List.nil_append, Nat.zero_add] at hown8; obtain ⟨A8, c8, rfl, _, _⟩ := own_form hown8)
            | (refine ap_step_g (v := .slice (some ⟨wc.heap.size, 0, none⟩) 0 0) (n := 0) (xs := []) (news := cc.key) (A := Ac) (m := nc) (c := cc') (B := w.heap.size) (base := wc.heap.size) (w0 := wc) (own_bk0 (Bk.drew (Bk.alloc (Bk.new _ _ _) _)) (by omega)) ((HX.out _ ((((Below.refl _ _).alloc (Nat.le_refl _) _).alloc (by simp) _).drew)).2.2.2.2) ((((Below.refl _ _).alloc (Nat.le_refl _) _).alloc (by simp) _).drew) (by first | (simp; done) | (simp; omega)) (by omega) (by rfl) (by rfl) (by rfl) ?_; intro v8 w8 hown8 hb8 hg8 hv8; rw [List.nil_append, Nat.zero_add] at hown8; obtain ⟨A8, c8, rfl, _, _⟩ := own_form hown8; have hl8 : Bk w8 (wc.heap.size + 1) 5 #[.int .u8 0] := Bk.grown (Bk.drew (Bk.new' _ _ _ (by simp))) hg8 (by simp [Value.ownBlock]))
            | (refine ap_step_g (v := .slice (some ⟨wc.heap.size + 1, 0, none⟩) 0 0) (n := 0) (xs := []) (news := cc.key) (A := Ac) (m := nc) (c := cc') (B := w.heap.size) (base := wc.heap.size) (w0 := wc) (own_bk0 (Bk.drew (Bk.new' _ _ _ (by simp))) (by omega)) ((HX.out _ ((((Below.refl _ _).alloc (Nat.le_refl _) _).alloc (by simp) _).drew)).2.2.2.2) ((((Below.refl _ _).alloc (Nat.le_refl _) _).alloc (by simp) _).drew) (by first | (simp; done) | (simp; omega)) (by omega) (by rfl) (by rfl) (by rfl) ?_; intro v8 w8 hown8 hb8 hg8 hv8; rw [List.nil_append, Nat.zero_add] at hown8; obtain ⟨A8, c8, rfl, _, _⟩ := own_form hown8; have hl8 : Bk w8 wc.heap.size 5 #[.int .u8 0] := Bk.grown (Bk.drew (Bk.alloc (Bk.new _ _ _) _)) hg8 (by simp [Value.ownBlock]))
            | (refine ap_step_g (v := .slice A8 nc c8) (n := nc) (xs := cc.key) (news := [0]) (A := some ⟨w8.heap.size, 0, none⟩) (m := 1) (c := 1) (B := w8.heap.size + 1) (base := wc.heap.size) (w0 := wc) (hown8.alloc _) (rd_bk0 (Bk.new _ _ _)) (hb8.alloc hb8.size _) (by have := hb8.size; simp; omega) (by omega) (by rfl) (by rfl) (by rfl) ?_; intro v9 w9 hown9 hb9 hg9 hv9; obtain ⟨A9, c9, rfl, hc9, _⟩ := own_form hown9)
            | (refine ap_step_g (v := .slice A8 nc c8) (n := nc) (xs := cc.key) (news := [0]) (A := some ⟨wc.heap.size + 1, 0, none⟩) (m := 1) (c := 1) (B := wc.heap.size + 1 + 1) (base := wc.heap.size) (w0 := wc) hown8 (rd_bk0 hl8) hb8 hb8.size (by omega) (by rfl) (by rfl) (by rfl) ?_; intro v9 w9 hown9 hb9 hg9 hv9; obtain ⟨A9, c9, rfl, hc9, _⟩ := own_form hown9)
            | (refine ap_step_g (v := .slice A8 nc c8) (n := nc) (xs := cc.key) (news := [0]) (A := some ⟨wc.heap.size, 0, none⟩) (m := 1) (c := 1) (B := wc.heap.size + 1) (base := wc.heap.size) (w0 := wc) hown8 (rd_bk0 hl8) hb8 hb8.size (by omega) (by rfl) (by rfl) (by rfl) ?_; intro v9 w9 hown9 hb9 hg9 hv9; obtain ⟨A9, c9, rfl, hc9, _⟩ := own_form hown9)
            | (go_simp; go_at_call 17; refine (Hsm.out _ A9 c9 hb9 hown9).mono ?_; rintro e w10 ⟨rfl, q10, rfl⟩; have hb10 := below_drewN hb9 q10)
            | (go_at_call 17; refine (Hsm.out _ A9 c9 hb9 hown9).mono ?_; rintro e w10 ⟨rfl, q10, rfl⟩; have hb10 := below_drewN hb9 q10))
          all_goals
            have HF := Lib.hid (HX.out _ hb10)
            clear HX HS Hsm q1 q2 q3 q4 q5 hb10 hb9 hb8 hown9 hown8 hg8 hg9 hv8 hv9 hc9
            go_wp2_with (fail)
            go_roundw
            case rel => exact ⟨k + 1, by go_num, by omega, Lib.hid ⟨HF.out.1, HF.out.2.1⟩⟩
            case measure => simp [intOf]; omega
        · have hise : is = false := by
            cases is
            · rfl
            · obtain ⟨x, hx, _⟩ := his.1 rfl
              have := (List.getElem?_eq_some_iff.1 hx).1
              have := Hcl.out
              omega
          subst hise
          have HF := Lib.hid (And.intro hW6 hG6)
          clear his hW6 hG6 hC6
          have q2 : decide ((k : Int) + 1 < (n : Int)) = false := by simp; omega
          go_wp2_with (fail)
          go_quiet (fail)
          clear q1 q2
          go_wp2_with (fail)
          go_roundw
          case rel => exact ⟨k + 1, by go_num, by omega, Lib.hid ⟨below_drewN HF.out.1 _, HF.out.2.drewN _⟩⟩
          case measure => simp [intOf]; omega
    · obtain rfl : j = n := by omega
      have B5 := Lib.hid hbw
      clear hbw hbk
      go_wp2_with fail
      go_ret
      exact ⟨rfl, B5.out⟩
end Go.Proofs.YtelaliokmmaopaaDoor
