/- The document's patterns: Head. -/
import Derived.Test.YtbdehlphblbmoaaDoorGlbAb
import Derived.Test.YtbdehlphblbmoaaDoorGlbN
namespace Go.Proofs.YtbdehlphblbmoaaDoor
open Go.RowKit
attribute [local go_sem ↓] Go.wp_at_zero Go.wp_at_succ

/-- append of ints at an operation of a region whose order is open. -/
theorem ap_ifI {ops : Array Oper} {Q : Exit → Act → World → Prop} {K : Act → World → Prop} {E : Prop} {a : Act} {w : World} {d : Option Tmp} {ty : TypeId} {pos : String} {af : Array Edge} {s x : Operand}
    {vs vx v' : Value} {w' : World} (hs : a.eval s = vs) (hx : a.eval x = vx) (hrun : (Builtin.append_ #[35, 35] ty #[vs, vx]).run Tryd.prog w = .ok v' w') (h : K (a.put d v') w') :
    if Region.wanted { dst := d, op := .call { callee := .builtin .append, args := #[s, x], argTypes := #[35, 35] }, type := ty, pos := pos, after := af, guard := none } (yielded ops a.tmps) = true then
      Oper.wp Tryd.prog { dst := d, op := .call { callee := .builtin .append, args := #[s, x], argTypes := #[35, 35] }, type := ty, pos := pos, after := af, guard := none } a w K Q else E := by
  rw [if_pos (by simp [Region.wanted])]
  unfold Oper.wp execOp
  simp only [resolve, invoke, builtin, Sem.run_bind, Sem.run_pure, Result.andThen_ok, List.map_toArray, List.map_cons, List.map_nil, hs, hx, hrun]
  exact h
/-- What the document's Head gives. -/
def DHdE (w : World) (ps : List PtP) (e : Ending) (w' : World) : Prop :=
  Below w.heap.size w w' ∧ ∃ A c, e = .returned (.agg #[.slice A (headR ps).1.length c, .bool (headR ps).2]) ∧ Rd w' w'.heap.size 1 A (headR ps).1.length (its (headR ps).1) ∧ (headR ps).1.length ≤ c
/-- The head while it is read. -/
structure DHm (w W : World) (Av : Value) (v : Value) (L : List Int) (all : Bool) : Prop where
  b1 : Bk W w.heap.size 32 #[Av, .int .i64 0]
  b2 : Bk W (w.heap.size + 1) 40 #[.slice none 0 0, .bool false]
  b3 : Bk W (w.heap.size + 2) 40 #[v, .bool all]
  own : W.ownsRow (w.heap.size + 3) 3 1 v L.length (its L)
  bw : Below w.heap.size w W
theorem DHm.ch {w W W' : World} {Av v : Value} {L : List Int} {all : Bool} (h : DHm w W Av v L all) (k : Below W.heap.size W W') : DHm w W' Av v L all := by
  have hc : Ch (fun _ => False) W W' := Ch.of_below k (Nat.le_refl _)
  exact ⟨h.b1.ch hc (fun h => h), h.b2.ch hc (fun h => h), h.b3.ch hc (fun h => h), own_ch h.own hc (fun _ _ h => h), h.bw.trans (k.mono h.bw.size)⟩
/-- The head grows by a rune. -/
theorem DHm.ap {w W : World} {Av v : Value} {L : List Int} {all : Bool} (h : DHm w W Av v L all) {q : Nat} {x : Int} (hq : Bk W q 3 #[.int .i64 x]) (ty : TypeId) (hn : L.length ≤ 100000) :
    ∃ A c W', (Builtin.append_ #[35, 35] ty #[v, .slice (some ⟨q, 0, none⟩) 1 1]).run Tryd.prog W = .ok (.slice A (L.length + 1) c) W' ∧ DHm w (W'.setCell ⟨w.heap.size + 2, 0, none⟩ (.slice A (L.length + 1) c)) Av (.slice A (L.length + 1) c) (L ++ [x]) all ∧
      Below w.heap.size w W' ∧ Bk W' w.heap.size 32 #[Av, .int .i64 0] ∧ Bk W' (w.heap.size + 2) 40 #[v, .bool all] := by
  obtain ⟨i0, hi, hz0, hz1, hz2⟩ := info_parts infoI
  have hr : Rd W (q + 1) 1 (some ⟨q, 0, none⟩) 1 (its [x]) := by
    refine ⟨rfl, fun _ => ⟨q, 0, rfl, by omega, fun j u hj => ?_⟩⟩
    match j, hj with
    | 0, hj => simp [its] at hj; subst hj; exact hq.cell 0
    | j + 1, hj => simp [its] at hj
  have hlt := h.b3.lt
  obtain ⟨v', W', hrun, h2, h3, h4⟩ := run_append_rd (P := Tryd.prog) W (w.heap.size + 3) 35 ty 3 i0 (.int .i64 0) 1 8 Tryd.underlying35 hi hz0 hz1 hz2 rfl (by decide) v L.length (its L) h.own (q + 1) _ 1 1 (its [x]) hr (its_one _) (by unfold maxLen; omega) (by omega) hlt
  obtain ⟨A, c, rfl, _, _⟩ := own_form h2
  have hge : ∀ k, v.ownBlock = some k → w.heap.size + 3 ≤ k := fun k hk => (h.own.lt k hk).1
  have hch : Ch (fun i => v.ownBlock = some i) W W' := (Ch.refl _ W).grown h3 (fun i hi => .inl hi)
  have hset : Ch (fun i => i = w.heap.size + 2) W' (W'.setCell ⟨w.heap.size + 2, 0, none⟩ (.slice A (L.length + 1) c)) := (Ch.refl (fun i => i = w.heap.size + 2) W').set (p := ⟨w.heap.size + 2, 0, none⟩) (.inl rfl) _
  have b1 := h.b1.ch hch (fun e => by have := hge _ e; omega)
  have b2 := h.b2.ch hch (fun e => by have := hge _ e; omega)
  have b3 := h.b3.ch hch (fun e => by have := hge _ e; omega)
  have bw := h.bw.trans (hch.below (B := w.heap.size) h.bw.size (fun i hi => by have := hge i hi; omega))
  refine ⟨A, c, W', hrun, ⟨b1.ch hset (by omega), b2.ch hset (by omega), by have := b3.set 0 (.slice A (L.length + 1) c); simpa using this, ?_, bw.setCell (by show w.heap.size ≤ w.heap.size + 2; omega) _⟩, bw, b1, b3⟩
  rw [List.length_append, its_app]
  exact own_ch h2 hset (fun i hi e => by have := (h2.lt i hi).1; omega)
set_option maxHeartbeats 4000000 in
set_option maxRecDepth 100000 in
theorem dhead_any (A : Option Addr) (c B : Nat) (ps : List PtP) (w : World) (hp : RdPs w B A ps) (hB : B ≤ w.heap.size) (hm : ps.length ≤ 1000) :
    Calls Tryd.prog 16 #[.agg #[.slice A ps.length c, .int .i64 0]] w (DHdE w ps) := by
  have Hpart := Lib.hid (fun W (hb : Below w.heap.size w W) i p (hi : ps[i]? = some p) => (hp.keep (W' := W) (fun q hq => hb.cell (by omega))).at_ hi)
  clear hp
  obtain ⟨m, hm'⟩ : ∃ m, ps.length = m := ⟨_, rfl⟩
  have Hm := Lib.hid hm'
  rw [hm'] at hm ⊢
  clear hm'
  have HM0 := Lib.hid (show DHm w (((w.alloc (.cells #[.slice A m c, .int .i64 0] 32)).alloc (.cells #[.slice none 0 0, .bool false] 40)).alloc (.cells #[.slice none 0 0, .bool true] 40)) (.slice A m c) (.slice none 0 0) [] true from
    ⟨((Bk.new w _ _).alloc _).alloc _, (Bk.new' _ _ _ (by simp)).alloc _, Bk.new' _ _ _ (by simp), own_nilI _ _ _, (((Below.refl _ _).alloc (Nat.le_refl _) _).alloc (by simp) _).alloc (by simp; omega) _⟩)
  go_enter Tryd.func16, Tryd.ntmps16
  go_wp2_with fail
  generalize (((w.alloc (.cells #[.slice A m c, .int .i64 0] 32)).alloc (.cells #[.slice none 0 0, .bool false] 40)).alloc (.cells #[.slice none 0 0, .bool true] 40)) = w1 at *
  rw [show w.heap.size + 1 + 1 = w.heap.size + 2 from rfl]
  go_loopw [4] (fun v4 wr => ∃ j : Nat, v4 = .int .i64 (j : Int) ∧ j ≤ m ∧ Hid (∃ v L all, DHm w wr (.slice A m c) v L all ∧ L.length ≤ j ∧ (all = true → headR ps = (L ++ (headR (ps.drop j)).1, (headR (ps.drop j)).2)) ∧ (all = false → headR ps = (L, false)))) (fun v4 _ => m - (intOf v4).toNat)
  case atStart => exact ⟨0, rfl, Nat.zero_le _, Lib.hid ⟨_, [], true, HM0.out, Nat.le_refl _, (fun _ => rfl), (fun h => by cases h)⟩⟩
  case round =>
    obtain ⟨j, rfl, hj, HI⟩ := hrel
    obtain ⟨v, L, all, i1, i2, i3, i4⟩ := HI.out
    clear HI HM0
    obtain ⟨A0, c0, rfl, hnc, _⟩ := own_form i1.own
    have k1 : wr.cell? ⟨w.heap.size, 0, none⟩ = some (.slice A m c) := i1.b1.cell 0
    have k2 : wr.cell? ⟨w.heap.size + 2, 1, none⟩ = some (.bool all) := i1.b3.cell 1
    have k3 : wr.cell? ⟨w.heap.size + 2, 0, none⟩ = some (.slice A0 L.length c0) := i1.b3.cell 0
    by_cases hend : j < m ∧ all = true
    · obtain ⟨hlt, rfl⟩ := hend
      obtain ⟨p, hpj⟩ : ∃ p, ps[j]? = some p := ⟨_, List.getElem?_eq_getElem (by rw [Hm.out]; omega)⟩
      have h3 := i3 rfl
      rw [headR_drop hpj] at h3
      obtain ⟨b, o, y1, y2, Ax, n3, c3, Ay, n4, c4, rfl, hb, hD, e0, e1, _⟩ := Hpart.out wr i1.bw j p hpj
      have hlt' : (j : Int) < (m : Int) := by omega
      have q1 : IntKind.i64.wrap ((j : Int) + 1) = (j : Int) + 1 := IntWalk.i64_in _ (by omega)
      have I1 := Lib.hid i1
      have hLn : L.length ≤ 100000 := by omega
      have Hcell8 := Lib.hid (fun W (hb' : Below w.heap.size w W) => (hb'.cell (p := ⟨b, o + j * 5 + 1, none⟩) (by show b < _; omega)).trans ((i1.bw.cell (p := ⟨b, o + j * 5 + 1, none⟩) (by show b < _; omega)).symm.trans e1))
      by_cases hk : kindOf p = 0
      · have hlit : p = .lit y1 := by
          cases p with
          | lit r =>
            have e : [Value.int .i64 (kindOf (.lit r)), .int .i64 y1, .bool y2, .slice Ax n3 c3, .slice Ay n4 c4] = [.int .i64 0, .int .i64 r, .bool false, .slice none 0 0, .slice none 0 0] := hD
            injection e with _ e; injection e with e1 _; injection e1 with _ e1; rw [e1]
          | one => cases hk
          | stars d => cases d <;> cases hk
          | cls n rs => cases hk
        rw [hlit, headR] at h3
        rw [hk] at e0
        have H3 := Lib.hid (show headR ps = ((L ++ [y1]) ++ (headR (ps.drop (j + 1))).1, (headR (ps.drop (j + 1))).2) from by rw [h3]; simp)
        clear h3 hlit hk hD hpj i3 i4 i1
        go_upto_region 6 with (fail)
        have HR0 : (fun W : World => W.cell? ⟨w.heap.size + 2, 0, none⟩ = some (.slice A0 L.length c0) ∧ W.cell? ⟨w.heap.size, 0, none⟩ = some (.slice (some ⟨b, o, none⟩) m c) ∧ W.cell? ⟨b, o + j * 5 + 1, none⟩ = some (.int .i64 y1)) wr.drew := ⟨k3, k1, e1⟩
        refine wp_region_u 11 (fun W => W.cell? ⟨w.heap.size + 2, 0, none⟩ = some (.slice A0 L.length c0) ∧ W.cell? ⟨w.heap.size, 0, none⟩ = some (.slice (some ⟨b, o, none⟩) m c) ∧ W.cell? ⟨b, o + j * 5 + 1, none⟩ = some (.int .i64 y1)) (by kernel_rfl) (fun hcl0 => ?_)
        refine wpAnyU_take0 (i := 0) (v := .pointer (some ⟨w.heap.size + 2, 0, none⟩)) hcl0 rfl (by kernel_rfl) (by kernel_rfl) (by kernel_rfl) (by decide) (fun _ _ _ h => h) (.inl ⟨by rfl, fun w' _ => ?_⟩) (fun _ => HR0) (fun hcl1 => ?_)
        · go_simp
        clear hcl0
        try go_frame
        refine wpAnyU_take (i := 1) (v := .slice A0 L.length c0) hcl1 rfl (by kernel_rfl) (by kernel_rfl) (by kernel_rfl) (by kernel_rfl) (by decide) (fun _ _ _ h => h) (.inl ⟨by rfl, fun w' hw' => ?_⟩) HR0 (fun hcl2 => ?_)
        · have e := hw'.1
          clear hcl1 hw' HR0 k1 k3 e0 e1; go_simp
        clear hcl1
        try go_frame
        refine wpAnyU_take0 (i := 2) (v := .pointer (some ⟨w.heap.size, 0, none⟩)) hcl2 rfl (by kernel_rfl) (by kernel_rfl) (by kernel_rfl) (by decide) (fun _ _ _ h => h) (.inl ⟨by rfl, fun w' _ => ?_⟩) (fun _ => HR0) (fun hcl3 => ?_)
        · go_simp
        clear hcl2
        try go_frame
        refine wpAnyU_take (i := 3) (v := .slice (some ⟨b, o, none⟩) m c) hcl3 rfl (by kernel_rfl) (by kernel_rfl) (by kernel_rfl) (by kernel_rfl) (by decide) (fun _ _ _ h => h) (.inl ⟨by rfl, fun w' hw' => ?_⟩) HR0 (fun hcl4 => ?_)
        · have e := hw'.2.1
          clear hcl3 hw' HR0 k1 k3 e0 e1; go_simp
        clear hcl3
        try go_frame
        refine wpAnyU_take0 (i := 4) (v := .int .i64 (j : Int)) hcl4 rfl (by kernel_rfl) (by kernel_rfl) (by kernel_rfl) (by decide) (fun _ _ _ h => h) (.inl ⟨by rfl, fun w' _ => ?_⟩) (fun _ => HR0) (fun hcl5 => ?_)
        · go_simp
        clear hcl4
        try go_frame
        refine wpAnyU_take0 (i := 5) (v := .pointer (some ⟨b, o + j * 5, none⟩)) hcl5 rfl (by kernel_rfl) (by kernel_rfl) (by kernel_rfl) (by decide) (fun _ _ _ h => h) (.inl ⟨by rfl, fun w' _ => ?_⟩) (fun _ => HR0) (fun hcl6 => ?_)
        · go_simp
        clear hcl5
        try go_frame
        refine wpAnyU_take0 (i := 6) (v := .pointer (some ⟨b, o + j * 5 + 1, none⟩)) hcl6 rfl (by kernel_rfl) (by kernel_rfl) (by kernel_rfl) (by decide) (fun _ _ _ h => h) (.inl ⟨by rfl, fun w' _ => ?_⟩) (fun _ => HR0) (fun hcl7 => ?_)
        · go_simp
        clear hcl6
        try go_frame
        refine wpAnyU_take (i := 7) (v := .int .i64 y1) hcl7 rfl (by kernel_rfl) (by kernel_rfl) (by kernel_rfl) (by kernel_rfl) (by decide) (fun _ _ _ h => h) (.inl ⟨by rfl, fun w' hw' => ?_⟩) HR0 (fun hcl8 => ?_)
        · have e := hw'.2.2
          clear hcl7 hw' HR0 k1 k3 e0 e1; go_simp
        clear hcl7
        try go_frame
        clear hcl8
        refine wpAnyU_one (i := 8) (by kernel_rfl) rfl (fun K' hK => ?_)
        go_simp
        have hM1 := I1.out.ch ((Below.refl wr.heap.size wr).drew.alloc (Nat.le_refl _) (.cells #[.int .i64 y1] 3))
        have hQ1 := Bk.new wr.drew 3 #[.int .i64 y1]
        have hR1 : (fun W : World => W.cell? ⟨w.heap.size + 2, 0, none⟩ = some (.slice A0 L.length c0) ∧ W.cell? ⟨w.heap.size, 0, none⟩ = some (.slice (some ⟨b, o, none⟩) m c) ∧ W.cell? ⟨b, o + j * 5 + 1, none⟩ = some (.int .i64 y1)) (wr.drew.alloc (.cells #[.int .i64 y1] 3)) := ⟨hM1.b3.cell 0, hM1.b1.cell 0, (World.cell?_alloc_lt wr.drew _ ⟨b, o + j * 5 + 1, none⟩ (World.block_lt_of_cell? wr _ e1)).trans e1⟩
        refine hK _ (wr.drew.alloc (.cells #[.int .i64 y1] 3)) (fun _ => hR1) ?_
        clear hK K'
        obtain ⟨A8, c8, w8, hrun, hM8, hB8, hb1, hb3⟩ := hM1.ap hQ1 35 hLn
        have e8 := (Hcell8.out w8 hB8)
        have hR8 : (fun W : World => W.cell? ⟨w.heap.size + 2, 0, none⟩ = some (.slice A0 L.length c0) ∧ W.cell? ⟨w.heap.size, 0, none⟩ = some (.slice (some ⟨b, o, none⟩) m c) ∧ W.cell? ⟨b, o + j * 5 + 1, none⟩ = some (.int .i64 y1)) w8 := ⟨hb3.cell 0, hb1.cell 0, e8⟩
        refine wpAnyU_one (i := 9) (by kernel_rfl) rfl (fun K' hK => ?_)
        refine ap_ifI rfl rfl hrun (hK _ _ (fun _ => hR8) ?_)
        clear hK K' hrun hM1 hQ1 hR1
        try go_frame
        refine wpAnyU_pure (i := 10) (v := .pointer (some ⟨w.heap.size + 2, 0, none⟩)) rfl (by kernel_rfl) (by kernel_rfl) (by kernel_rfl) (by decide) (fun _ _ _ h => h) (.inl ⟨by rfl, fun w' _ => ?_⟩) (fun _ => hR8) ?_
        · go_simp
        try go_frame
        have f8 : w8.cell? ⟨w.heap.size + 2, 0, none⟩ = some (.slice A0 L.length c0) := hb3.cell 0
        have f9 : w8.frozen? ⟨w.heap.size + 2, 0, none⟩ = false := hb3.free 0
        refine wpAnyU_oneD (i := 11) (by kernel_rfl) (by kernel_rfl) rfl (fun K' hK => ?_)
        go_simp
        refine hK _ _ ?_
        clear hK K'
        refine wpAnyU_done (by kernel_rfl) ?_ _
        have HF := Lib.hid (show ∃ v L' all, DHm w (w8.setCell ⟨w.heap.size + 2, 0, none⟩ (.slice A8 (L.length + 1) c8)) (.slice (some ⟨b, o, none⟩) m c) v L' all ∧ L'.length ≤ j + 1 ∧ (all = true → headR ps = (L' ++ (headR (ps.drop (j + 1))).1, (headR (ps.drop (j + 1))).2)) ∧ (all = false → headR ps = (L', false)) from
          ⟨_, L ++ [y1], true, hM8, by rw [List.length_append]; simp; omega, (fun _ => H3.out), (fun h => by cases h)⟩)
        clear hM8 hR8 HR0
        go_wp2_with fail
        go_roundw
        case rel => first | exact ⟨j + 1, by go_num, by omega, HF⟩ | ((repeat apply Exists.intro); exact ⟨⟨j + 1, by go_num, by omega, HF⟩, rfl⟩)
        case measure => simp [intOf] <;> omega
      · have hk' : (kindOf p == 0) = false := by simpa using hk
        have h4 : headR ps = (L, false) := by
          cases p with
          | lit r => exact absurd rfl hk
          | one => rw [h3, headR]; simp; intro _ h; cases h
          | stars d => rw [h3, headR]; simp; intro _ h; cases h
          | cls n rs => rw [h3, headR]; simp; intro _ h; cases h
        have k4 : wr.frozen? ⟨w.heap.size + 2, 1, none⟩ = false := i1.b3.free 1
        have HF := Lib.hid (show ∃ v L all, DHm w (wr.setCell ⟨w.heap.size + 2, 1, none⟩ (.bool false)) (.slice (some ⟨b, o, none⟩) m c) v L all ∧ L.length ≤ j + 1 ∧ (all = true → headR ps = (L ++ (headR (ps.drop (j + 1))).1, (headR (ps.drop (j + 1))).2)) ∧ (all = false → headR ps = (L, false)) from by
          have hcs : Ch (fun i => i = w.heap.size + 2) wr (wr.setCell ⟨w.heap.size + 2, 1, none⟩ (.bool false)) := (Ch.refl (fun i => i = w.heap.size + 2) wr).set (p := ⟨w.heap.size + 2, 1, none⟩) (.inl rfl) _
          exact ⟨_, L, false, ⟨i1.b1.ch hcs (by omega), i1.b2.ch hcs (by omega), by have := i1.b3.set 1 (.bool false); simpa using this, own_ch i1.own hcs (fun i hi e => by have := (i1.own.lt i hi).1; omega), i1.bw.setCell (by show w.heap.size ≤ w.heap.size + 2; omega) _⟩, by omega, (fun h => by cases h), fun _ => h4⟩)
        clear h3 hk hD hpj i3 i4 i1 I1 h4
        generalize kindOf p = K at *
        go_wp2_with fail
        go_roundw
        case rel => exact ⟨j + 1, by go_num, by omega, HF⟩
        case measure => simp [intOf]; omega
    · have hh : headR ps = (L, all) := by
        cases all with
        | true =>
          have hjm : j = m := by
            apply Classical.byContradiction
            intro h
            exact hend ⟨by omega, rfl⟩
          rw [i3 rfl, List.drop_of_length_le (by rw [Hm.out]; omega)]
          simp [headR]
        | false => exact i4 rfl
      have d1 := i1.b2
      have s0 := ((d1.set 0 (.slice A0 L.length c0)).set 1 (.bool all)).cell 0
      have s1 := ((d1.set 0 (.slice A0 L.length c0)).set 1 (.bool all)).cell 1
      simp at s0 s1
      have z0 : wr.cell? ⟨w.heap.size + 1, 0, none⟩ = some (.slice none 0 0) := d1.cell 0
      have z1 : wr.cell? ⟨w.heap.size + 1, 1, none⟩ = some (.bool false) := d1.cell 1
      have f0 : wr.frozen? ⟨w.heap.size + 1, 0, none⟩ = false := d1.free 0
      have f1 : wr.frozen? ⟨w.heap.size + 1, 1, none⟩ = false := d1.free 1
      have hcs : Ch (fun i => i = w.heap.size + 1) wr ((wr.setCell ⟨w.heap.size + 1, 0, none⟩ (.slice A0 L.length c0)).setCell ⟨w.heap.size + 1, 1, none⟩ (.bool all)) :=
        ((Ch.refl (fun i => i = w.heap.size + 1) wr).set (p := ⟨w.heap.size + 1, 0, none⟩) (.inl rfl) _).set (p := ⟨w.heap.size + 1, 1, none⟩) (.inl rfl) _
      have HE := Lib.hid (show DHdE w ps (.returned (.agg #[.slice A0 L.length c0, .bool all])) ((wr.setCell ⟨w.heap.size + 1, 0, none⟩ (.slice A0 L.length c0)).setCell ⟨w.heap.size + 1, 1, none⟩ (.bool all)) from
        ⟨i1.bw.trans (hcs.below (B := w.heap.size) i1.bw.size (fun i hi => by omega)), A0, c0, by rw [hh], by rw [hh]; exact Rd.of_own (own_ch i1.own hcs (fun i hi e => by have := (i1.own.lt i hi).1; omega)), by rw [hh]; exact hnc⟩)
      have Hs0 := Lib.hid s0
      have Hs1 := Lib.hid s1
      have hd : (decide ((j : Int) < (m : Int)) && all) = false := by
        cases all with
        | true =>
          have : ¬ j < m := fun h => hend ⟨h, rfl⟩
          simp; omega
        | false => simp
      clear s0 s1 hcs d1 i1 i3 i4 hh
      by_cases hlt : j < m
      · have ha : all = false := by
          cases all with
          | true => exact absurd ⟨hlt, rfl⟩ hend
          | false => rfl
        subst ha
        have hlt' : (j : Int) < (m : Int) := by omega
        clear hend hd
        go_wp2_with fail
        have s0 := Hs0.out
        have s1 := Hs1.out
        exact bodyPost_ret (v := .agg #[.slice A0 L.length c0, .bool false]) (by simp [results, Tryd.results16, go_sem, s0, s1]) rfl HE.out
      · have hlt' : ¬ (j : Int) < (m : Int) := by omega
        clear hend hd
        go_wp2_with fail
        have s0 := Hs0.out
        have s1 := Hs1.out
        exact bodyPost_ret (v := .agg #[.slice A0 L.length c0, .bool all]) (by simp [results, Tryd.results16, go_sem, s0, s1]) rfl HE.out
end Go.Proofs.YtbdehlphblbmoaaDoor
