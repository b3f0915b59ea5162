/- Contract of the reference's Get of batches. -/
import Derived.Test.YthflnndjjhifeaaWal7
import Derived.Test.YthflnndjjhifeaaWal4
import Derived.Deep.RegionLaw
namespace Go.Proofs.Ythflnndjjhifeaa
open Go.RowKit
attribute [local go_sem ↓] Go.wp_at_zero Go.wp_at_succ

/-- What the reference's Get returns. -/
def RGot (l : List UInt8) (e : Ending) (w' : World) : Prop :=
  ∃ A n c, e = .returned (.agg #[.slice A n c, .int .i64 ((WE l).1 : Int)]) ∧ n ≤ c ∧ RdPcs w' w'.heap.size 1 A n (WE l).2
theorem RGot.err {l : List UInt8} {k : Nat} {w' : World} (h : WE l = (k, [])) : RGot l (.returned (.agg #[.slice none 0 0, .int .i64 (k : Int)])) w' :=
  ⟨none, 0, 0, by rw [h], Nat.le_refl _, by rw [h]; exact ⟨rfl, fun hp => absurd hp (Nat.lt_irrefl _)⟩⟩
theorem lit4 (w : World) : (w.alloc (.cells #[.int .u8 105, .int .u8 113, .int .u8 106, .int .u8 49] 5)).ownsRow w.heap.size 5 1 (.slice (some ⟨w.heap.size, 0, none⟩) 4 4) 4 (bys wmark) :=
  ⟨rfl, .inr ⟨w.heap.size, 4, _, rfl, Nat.le_refl _, heap_alloc_new w _, Nat.le_refl _, by unfold maxLen; omega, rfl, rfl⟩⟩

theorem own_heap {w w' : World} {base s n : Nat} {e : TypeId} {v : Value} {xs : List Value} (h : w.ownsRow base e s v n xs) (hw : w'.heap = w.heap) : w'.ownsRow base e s v n xs := by
  unfold World.ownsRow at h ⊢; rw [hw]; exact h
theorem bk_heap {w w' : World} {g : Nat} {t : TypeId} {cs : Array Value} (h : Bk w g t cs) (hw : w'.heap = w.heap) : Bk w' g t cs := by unfold Bk at h ⊢; rw [hw]; exact h
theorem rd_heap {w w' : World} {B s n : Nat} {A : Option Addr} {xs : List Value} (h : Rd w B s A n xs) (hw : w'.heap = w.heap) : Rd w' B s A n xs := h.keep fun p _ => by simp only [World.cell?, hw]
/-- The result's cells, stored. -/
theorem got_cells {w wr : World} {u0 z0 : Value} (hb : Bk wr w.heap.size 61 #[u0, z0]) (hbw : Below w.heap.size w wr) (u z : Value) :
    ((wr.setCell ⟨w.heap.size, 0, none⟩ u).setCell ⟨w.heap.size, 1, none⟩ z).cell? ⟨w.heap.size, 0, none⟩ = some u ∧ ((wr.setCell ⟨w.heap.size, 0, none⟩ u).setCell ⟨w.heap.size, 1, none⟩ z).cell? ⟨w.heap.size, 1, none⟩ = some z ∧
    Below w.heap.size w ((wr.setCell ⟨w.heap.size, 0, none⟩ u).setCell ⟨w.heap.size, 1, none⟩ z) := by
  have hs := (hb.set 0 u).set 1 z
  simp only [List.setIfInBounds_toArray, List.set_cons_zero, List.set_cons_succ] at hs
  exact ⟨hs.cell 0, hs.cell 1, (hbw.setCell (p := ⟨w.heap.size, 0, none⟩) (Nat.le_refl _) u).setCell (p := ⟨w.heap.size, 1, none⟩) (Nat.le_refl _) z⟩

/-- append of one piece, at a step of a region that draws its order. -/
theorem ap_wr_step {w : World} {ops : Array Oper} {a : Act} {K : Act → World → Prop} {Q : Exit → Act → World → Prop} {E : Prop} {d : Option Tmp} {ty : TypeId} {pos : String} {af : Array Edge} {s x : Operand} {base : Nat}
    {v : Value} {n : Nat} {xs : List Value} {B : Nat} {A : Option Addr} {c : Nat} {z : Int} {Au : Option Addr} {nu cu : Nat} (hown : w.ownsRow base 51 2 v n xs) (hr : Rd w B 2 A 1 [.int .i64 z, .slice Au nu cu])
    (hbase : base ≤ w.heap.size) (hbytes : n ≤ 1000000)
    (hs : a.eval s = v) (hx : a.eval x = .slice A 1 c)
    (h : ∀ v' w', w'.ownsRow base 51 2 v' (n + 1) (xs ++ [.int .i64 z, .slice Au nu cu]) → Below base w w' → w.grownBy w' v.ownBlock → (v'.ownBlock = v.ownBlock ∨ v'.ownBlock = some w.heap.size) → K (a.put d v') w') :
    if Region.wanted { dst := d, op := .call { callee := .builtin .append, args := #[s, x], argTypes := #[49, 49] }, type := ty, pos := pos, after := af, guard := none } (yielded ops a.tmps) = true then
      Oper.wp Try.prog { dst := d, op := .call { callee := .builtin .append, args := #[s, x], argTypes := #[49, 49] }, type := ty, pos := pos, after := af, guard := none } a w K Q else E := by
  obtain ⟨i0, hi, hz0, hz1, hz2⟩ := info_parts infoW
  rw [if_pos (by simp [Region.wanted])]
  obtain ⟨v', w', hrun, h2, h3, h4⟩ := run_append_rd (P := Try.prog) w base 49 ty 51 i0 _ 2 32 Try.underlying49 hi hz0 hz1 hz2 rfl (by decide) v n xs hown B A 1 c _ hr (by intro u hu; simp at hu; rcases hu with rfl | rfl <;> rfl) (by unfold maxLen; omega) (by omega) hbase
  unfold Oper.wp execOp
  simp only [resolve, invoke, builtin, Sem.run_bind, Sem.run_pure, Result.andThen_ok, List.map_toArray, List.map_cons, List.map_nil, hs, hx, hrun]
  exact h v' w' h2 ((Below.refl _ _).grown h3 hbase (fun k hk => (hown.lt k hk).1)) h3 h4
/-- The cut of piece number k. -/
def cutV (b o c k : Nat) : Value := .slice (some ⟨b, o + (8 + 516 * k + 4), none⟩) 512 (c - (8 + 516 * k + 4))
def cuts (b o c j : Nat) : List Value := (List.range j).map (cutV b o c)
theorem cuts_succ (b o c j : Nat) : cuts b o c (j + 1) = cuts b o c j ++ [cutV b o c j] := by simp [cuts, List.range_succ]
theorem pcells_app (ls : List (List Int × List UInt8)) (vs : List Value) (h : vs.length = ls.length) (x : Int) (m : List UInt8) (u : Value) : pcells (ls ++ [([x], m)]) (vs ++ [u]) = pcells ls vs ++ [.int .i64 x, u] := by
  unfold pcells
  rw [List.zip_append h.symm]
  simp
/-- What lies in a row of the call's own, each piece's bytes wherever, reads as pieces. -/
theorem own_pcs {w : World} {base : Nat} {A : Option Addr} {c n : Nat} {ls : List (List Int × List UInt8)} {vs : List Value} (h2 : w.ownsRow base 51 2 (.slice A n c) n (pcells ls vs)) (h1 : vs.length = ls.length) (hn : ls.length = n)
    (h3 : ∀ (i : Nat) vi p, vs[i]? = some vi → ls[i]? = some p → RdB w w.heap.size vi p.2 ∧ p.1.length = 1 ∧ ∀ z ∈ p.1, i64B z) : RdPcs w w.heap.size 1 A n ls := by
  refine ⟨hn, fun hp => ?_⟩
  obtain ⟨g, c', hv, _, hlt, _⟩ := own_pos h2 hp
  injection hv with hA _ _
  subst hA
  refine ⟨g, 0, rfl, hlt, fun i p hpi => ?_⟩
  have hil : i < ls.length := by
    rcases Nat.lt_or_ge i ls.length with h | h
    · exact h
    · rw [List.getElem?_eq_none h] at hpi; cases hpi
  obtain ⟨u, hvi⟩ : ∃ u, vs[i]? = some u := ⟨_, List.getElem?_eq_getElem (by omega)⟩
  obtain ⟨a1, a3, a4⟩ := h3 i _ p hvi hpi
  obtain ⟨c1, c2⟩ := pcells_at ls vs h1 i p _ hpi hvi
  have hc := fun j u (hj : (pcells ls vs)[j]? = some u) => h2.cells (g := g) rfl j u hj
  refine ⟨a3, a4, fun k z hz => ?_, u, ?_, a1⟩
  · have hk : k = 0 := by
      rcases Nat.eq_zero_or_pos k with h | h
      · exact h
      · rw [List.getElem?_eq_none (by omega)] at hz; cases hz
    subst hk
    have := hc _ _ c1
    rw [addLit] at this
    match hp1 : p.1, a3 with
    | [y], _ =>
      rw [hp1] at hz this
      simp at hz
      subst hz
      simpa using this
  · have := hc _ _ c2
    rw [addLit] at this
    simpa using this
/-- The loop's state: g's block G, its slice, the result's block R. -/
def GL (w : World) (l : List UInt8) (b o c R G j : Nat) (wr : World) : Prop :=
  ∃ v, Bk wr G 61 #[v, .int .i64 0] ∧ wr.ownsRow (G + 1) 51 2 v j (pcells (pieces l j) (cuts b o c j)) ∧ Bk wr R 61 #[.slice none 0 0, .int .i64 0] ∧ R < G ∧ Below R w wr
theorem GL.start {w W : World} {l : List UInt8} {b o c R G : Nat} (h1 : Bk W G 61 #[.slice none 0 0, .int .i64 0]) (h2 : Bk W R 61 #[.slice none 0 0, .int .i64 0]) (h3 : R < G) (h4 : Below R w W) : GL w l b o c R G 0 W :=
  ⟨_, h1, World.ownsRow_nil _ _ _ _, h2, h3, h4⟩
theorem GL.step {w W w8 : World} {l : List UInt8} {b o c R G j : Nat} {v v8 : Value} {x : Int} {m : List UInt8} (h1 : Bk W G 61 #[v, .int .i64 0]) (h2 : Bk W R 61 #[.slice none 0 0, .int .i64 0]) (h3 : R < G) (h4 : Below R w W)
    (hb : Below (G + 1) W w8) (hp : pieces l (j + 1) = pieces l j ++ [([x], m)]) (ho : w8.ownsRow (G + 1) 51 2 v8 (j + 1) (pcells (pieces l j) (cuts b o c j) ++ [.int .i64 x, cutV b o c j])) : GL w l b o c R G (j + 1) (w8.setCell ⟨G, 0, none⟩ v8) := by
  have hG := (h1.below hb (Nat.lt_succ_self G)).set 0 v8
  simp only [List.setIfInBounds_toArray, List.set_cons_zero] at hG
  refine ⟨v8, hG, ?_, (h2.below hb (by omega)).far (by simp; omega) _, h3, (h4.trans (hb.mono (by omega))).setCell (p := ⟨G, 0, none⟩) (by simp; omega) _⟩
  rw [hp, cuts_succ, pcells_app _ _ (by simp [cuts, pieces])]
  exact own_apart ho (gb_set (World.grownBy.refl _ _) 0 v8) (fun k hk => by injection hk with hk; omega)

set_option maxHeartbeats 1000000 in
set_option maxRecDepth 100000 in
theorem refwget_any (A : Option Addr) (n c : Nat) (l : List UInt8) (w : World) (hr : Rd w w.heap.size 1 A n (bys l)) (hnc : n ≤ c) (hn : n ≤ 1000000000) :
    Calls Try.prog 35 #[.slice A n c] w fun e w' => RGot l e w' ∧ Below w.heap.size w w' := by
  have hl := hr.blen
  by_cases h4 : n < 4
  · have hw := WE_short (l := l) (by omega)
    have Hw := Lib.hid hw
    clear hw hl
    go_enter Try.func35, Try.ntmps35
    go_wp2
    exact bodyPost_ret (v := .agg #[.slice none 0 0, .int .i64 3]) (by simp [results, Try.results35, go_sem]) rfl ⟨RGot.err Hw.out, (Below.refl _ _).alloc (Nat.le_refl _) _⟩
  have H4 : Hid (¬ l.length < 4) := Lib.hid (by omega)
  have Hl := Lib.hid hl
  have hr4 : Rd w w.heap.size 1 A 4 (bys (l.take 4)) := by
    have := hr.bcut (k := 0) (m := 4) (by omega) (A' := A) (fun _ => by
      obtain ⟨b, o, rfl, _⟩ := hr.2 (by omega)
      simp [addLit])
    rwa [List.drop_zero] at this
  have hlit := lit4 (w.alloc (.cells #[.slice none 0 0, .int .i64 0] 61))
  have hbe0 : Below w.heap.size w ((w.alloc (.cells #[.slice none 0 0, .int .i64 0] 61)).alloc (.cells #[.int .u8 105, .int .u8 113, .int .u8 106, .int .u8 49] 5)) := ((Below.refl _ _).alloc (Nat.le_refl _) _).alloc (by rw [asz1]; omega) _
  rw [asz1] at hlit
  have hbk0 := (Bk.new w 61 #[.slice none 0 0, .int .i64 0]).alloc (.cells #[.int .u8 105, .int .u8 113, .int .u8 106, .int .u8 49] 5)
  have hr4' := (hr4.below hbe0 (Nat.le_refl _)).more hbe0.size
  have hlit' := Rd.of_own hlit
  clear hr4 hlit
  clear hl
  cases hm : decide (l.take 4 = wmark) with
  | false =>
    have hw := WE_mark H4.out (of_decide_eq_false hm)
    have Hw := Lib.hid hw
    have Hm := Lib.hid hm
    clear hw hm
    go_enter Try.func35, Try.ntmps35
    go_wp2_with fail
    refine (same_any A _ 4 4 c 4 (l.take 4) wmark _ hr4' hlit' (by omega) (by omega)).mono ?_
    rintro e w1 ⟨rfl, q1, rfl⟩
    rw [Hm.out]
    have hbe1 : Below w.heap.size w (((w.alloc (.cells #[.slice none 0 0, .int .i64 0] 61)).alloc (.cells #[.int .u8 105, .int .u8 113, .int .u8 106, .int .u8 49] 5)).drewN q1) := below_drewN hbe0 _
    have hbk1 := hbk0.drewN q1
    clear hbe0 hbk0 hr4' hlit'
    generalize (((w.alloc (.cells #[.slice none 0 0, .int .i64 0] 61)).alloc (.cells #[.int .u8 105, .int .u8 113, .int .u8 106, .int .u8 49] 5)).drewN q1) = w1 at *
    have hgc := got_cells hbk1 hbe1 (.slice none 0 0) (.int .i64 4)
    have HG := Lib.hid hgc
    clear hgc
    have r0 := hbk1.cell 0
    have r1 := hbk1.cell 1
    have f0 := hbk1.free 0
    have f1 := hbk1.free 1
    simp at r0 r1
    go_wp2
    clear r0 r1 f0 f1
    obtain ⟨s0, s1, hbs⟩ := HG.out
    generalize ((w1.setCell ⟨w.heap.size, 0, none⟩ (.slice none 0 0)).setCell ⟨w.heap.size, 1, none⟩ (.int .i64 4)) = W' at *
    change bodyPost _ _ _ _ _ _
    exact bodyPost_ret (v := .agg #[.slice none 0 0, .int .i64 4]) (by simp [results, Try.results35, go_sem, s0, s1]) rfl ⟨RGot.err Hw.out, hbs⟩
  | true =>
    have hm' := of_decide_eq_true hm
    have Hm' := Lib.hid hm'
    have Hm := Lib.hid hm
    clear hm hm'
    go_enter Try.func35, Try.ntmps35
    go_wp2_with fail
    refine (same_any A _ 4 4 c 4 (l.take 4) wmark _ hr4' hlit' (by omega) (by omega)).mono ?_
    rintro e w1 ⟨rfl, q1, rfl⟩
    rw [Hm.out]
    have hbe1 : Below w.heap.size w (((w.alloc (.cells #[.slice none 0 0, .int .i64 0] 61)).alloc (.cells #[.int .u8 105, .int .u8 113, .int .u8 106, .int .u8 49] 5)).drewN q1) := below_drewN hbe0 _
    have hbk1 := hbk0.drewN q1
    clear hbe0 hbk0 hr4' hlit'
    generalize (((w.alloc (.cells #[.slice none 0 0, .int .i64 0] 61)).alloc (.cells #[.int .u8 105, .int .u8 113, .int .u8 106, .int .u8 49] 5)).drewN q1) = w1 at *
    by_cases h8 : n < 8
    · have hw := WE_8 H4.out Hm'.out (by rw [Hl.out]; exact h8)
      have Hw := Lib.hid hw
      clear hw
      have hgc := got_cells hbk1 hbe1 (.slice none 0 0) (.int .i64 3)
      have HG := Lib.hid hgc
      clear hgc
      have r0 := hbk1.cell 0
      have r1 := hbk1.cell 1
      have f0 := hbk1.free 0
      have f1 := hbk1.free 1
      simp at r0 r1
      go_wp2
      clear r0 r1 f0 f1
      obtain ⟨s0, s1, hbs⟩ := HG.out
      generalize ((w1.setCell ⟨w.heap.size, 0, none⟩ (.slice none 0 0)).setCell ⟨w.heap.size, 1, none⟩ (.int .i64 3)) = W' at *
      change bodyPost _ _ _ _ _ _
      exact bodyPost_ret (v := .agg #[.slice none 0 0, .int .i64 3]) (by simp [results, Try.results35, go_sem, s0, s1]) rfl ⟨RGot.err Hw.out, hbs⟩
    · obtain ⟨b, o, rfl, hbb⟩ : ∃ b o, A = some ⟨b, o, none⟩ ∧ b < w.heap.size := by
        obtain ⟨b, o, h1, h2, _⟩ := hr.2 (by omega); exact ⟨b, o, h1, h2⟩
      have hcutR : ∀ (W : World) (k m : Nat), Below w.heap.size w W → k + m ≤ n → Rd W W.heap.size 1 (some ⟨b, o + k, none⟩) m (bys ((l.drop k).take m)) := fun W k m hb hk =>
        ((hr.bcut (k := k) (m := m) hk (A' := some ⟨b, o + k, none⟩) (fun _ => by simp [addLit])).below hb (Nat.le_refl _)).more hb.size
      have HcutR := Lib.hid hcutR
      clear hcutR
      go_wp2_with fail
      refine (number_any (some ⟨b, o + 4, none⟩) 4 _ _ w1 (HcutR.out w1 4 4 hbe1 (by omega)) (by omega)).mono ?_
      rintro e w2 ⟨rfl, rfl⟩
      have hnb := num4_bd l 4
      have hnum : leN ((l.drop 4).take 4) = num4 l 4 := rfl
      rw [hnum]
      have H8 : Hid (¬ l.length < 8) := Lib.hid (by rw [Hl.out]; exact h8)
      obtain ⟨K, hK⟩ : ∃ K : Nat, num4 l 4 = K := ⟨(num4 l 4).toNat, by omega⟩
      have hKt : (num4 l 4).toNat = K := by omega
      have HK := Lib.hid hK
      have HKt := Lib.hid hKt
      rw [hK]
      clear hnum hnb hK hKt
      by_cases hmany : 4096 < K
      · have hw := WE_many H4.out Hm'.out H8.out (by rw [HK.out]; omega)
        have Hw := Lib.hid hw
        clear hw
        have hgc := got_cells hbk1 hbe1 (.slice none 0 0) (.int .i64 4)
        have HG := Lib.hid hgc
        clear hgc
        have r0 := hbk1.cell 0
        have r1 := hbk1.cell 1
        have f0 := hbk1.free 0
        have f1 := hbk1.free 1
        simp at r0 r1
        go_wp2
        clear r0 r1 f0 f1
        obtain ⟨s0, s1, hbs⟩ := HG.out
        generalize ((w1.setCell ⟨w.heap.size, 0, none⟩ (.slice none 0 0)).setCell ⟨w.heap.size, 1, none⟩ (.int .i64 4)) = W' at *
        change bodyPost _ _ _ _ _ _
        exact bodyPost_ret (v := .agg #[.slice none 0 0, .int .i64 4]) (by simp [results, Try.results35, go_sem, s0, s1]) rfl ⟨RGot.err Hw.out, hbs⟩
      · obtain ⟨E, hE⟩ : ∃ E : Nat, 8 + 516 * K = E := ⟨_, rfl⟩
        have hEi : 8 + 516 * (K : Int) = (E : Int) := by omega
        have HE := Lib.hid hE
        by_cases hsh : n < E + 4
        · have hw := WE_size H4.out Hm'.out H8.out (by rw [HK.out]; omega) (by rw [HKt.out, Hl.out]; omega)
          have Hw := Lib.hid hw
          clear hw
          have hgc := got_cells hbk1 hbe1 (.slice none 0 0) (.int .i64 3)
          have HG := Lib.hid hgc
          clear hgc
          have r0 := hbk1.cell 0
          have r1 := hbk1.cell 1
          have f0 := hbk1.free 0
          have f1 := hbk1.free 1
          simp at r0 r1
          go_wp2
          clear r0 r1 f0 f1
          obtain ⟨s0, s1, hbs⟩ := HG.out
          generalize ((w1.setCell ⟨w.heap.size, 0, none⟩ (.slice none 0 0)).setCell ⟨w.heap.size, 1, none⟩ (.int .i64 3)) = W' at *
          change bodyPost _ _ _ _ _ _
          exact bodyPost_ret (v := .agg #[.slice none 0 0, .int .i64 3]) (by simp [results, Try.results35, go_sem, s0, s1]) rfl ⟨RGot.err Hw.out, hbs⟩
        · have hEn : E + 4 ≤ n := by omega
          go_wp2_with fail
          have hN : ∀ W, W.heap = w1.heap → Calls Try.prog 45 #[.slice (some ⟨b, o + E, none⟩) 4 (c - E)] W fun e w' => e = .returned (.int .i64 (num4 l E)) ∧ W = w' := fun W hW =>
            number_any (some ⟨b, o + E, none⟩) 4 (c - E) _ W (by rw [hW]; exact rd_heap (HcutR.out w1 E 4 hbe1 hEn) hW) (by omega)
          have hO : ∀ W, W.heap = w1.heap → Calls Try.prog 20 #[.slice (some ⟨b, o, none⟩) E c] W fun e w' => e = .returned (.int .u32 ((crcOf (l.take E)).toNat : Int)) ∧ W = w' := fun W hW =>
            refcrc_any (some ⟨b, o, none⟩) E c w1.heap.size _ W (by have := HcutR.out w1 0 E hbe1 (by omega); rw [List.drop_zero, Nat.add_zero] at this; exact rd_heap this hW) (by omega)
          have hnE := num4_bd l E
          have hCE := (crcOf (l.take E)).isLt
          obtain ⟨y1, hy1⟩ : ∃ y, num4 l E = y := ⟨_, rfl⟩
          obtain ⟨y2, hy2⟩ : ∃ y, (crcOf (l.take E)).toNat = y := ⟨_, rfl⟩
          rw [hy1] at hN hnE
          rw [hy2] at hO hCE
          have Hy1 := Lib.hid hy1
          have Hy2 := Lib.hid hy2
          have HN := Lib.hid hN
          have HO := Lib.hid hO
          clear hy1 hy2 hN hO
          have e0 : (0 : Int) ≤ (E : Int) := by omega
          have e1 : (E : Int) ≤ (c : Int) := by omega
          have e2 : (E : Int) + 4 ≤ (c : Int) := by omega
          have e3 : (E : Int) ≤ (E : Int) + 4 := by omega
          have e4 : (0 : Int) ≤ (E : Int) + 4 := by omega
          have e5 : IntKind.i64.wrap ((E : Int) + 4) = (E : Int) + 4 := IntWalk.i64_in _ (by omega)
          have e6 : IntKind.i64.wrap (y2 : Int) = (y2 : Int) := IntWalk.i64_in _ (by omega)
          have e7 : ((E : Int) + 4).toNat - E = 4 := by omega
          have e8 : ¬ c = E := by omega
          go_region_with (first
            | (go_at_call 45; refine (HN.out w1.drew rfl).mono ?_; rintro e w3 ⟨rfl, rfl⟩)
            | (go_at_call 20; refine (HO.out w1.drew rfl).mono ?_; rintro e w3 ⟨rfl, rfl⟩))
          clear e0 e1 e2 e3 e4 e5 e6 e7 HN HO
          by_cases hs : y1 = (y2 : Int)
          · have hsb : (y1 != (y2 : Int)) = false := by rw [bne_eq_false_iff_eq]; exact hs
            have Hs := Lib.hid hs
            clear hs
            go_wp2_with fail
            go_loopw [6] (fun i wr => ∃ j : Nat, j ≤ K ∧ i = .int .i64 ((8 + 516 * j : Nat) : Int) ∧ GL w l b o c w.heap.size w1.heap.size j wr) (fun i _ => E - (intOf i).toNat)
            case atStart =>
              refine ⟨0, Nat.zero_le _, rfl, GL.start (Bk.new' _ _ _ (by rfl)) (hbk1.alloc _) hbk1.lt (by first | exact hbe1.alloc hbe1.size _ | exact (hbe1.alloc hbe1.size _).drew)⟩
            case round =>
              obtain ⟨j, hj, rfl, hgl⟩ := hrel
              clear hbk1 hbe1
              obtain ⟨a, ha⟩ : ∃ a : Nat, 8 + 516 * j = a := ⟨_, rfl⟩
              rw [ha]
              by_cases hlt : j < K
              · have haE : a + 516 ≤ E := by have := HE.out; omega
                obtain ⟨v, hbkG, hown, hbkR, hRG, hbw⟩ := hgl
                have haE2 : (a : Int) < (E : Int) := by omega
                have hNr := fun (W : World) (hW : W.heap = wr.heap) => number_any (some ⟨b, o + a, none⟩) 4 (c - a) _ W (by rw [hW]; exact rd_heap (HcutR.out wr a 4 hbw (by omega)) hW) (by omega)
                have hnum : leN ((l.drop a).take 4) = num4 l a := rfl
                rw [hnum] at hNr
                have hpc : piece l j = ([num4 l a], (l.drop (a + 4)).take 512) := by unfold piece; rw [ha]
                have hps := pieces_succ l j
                rw [hpc] at hps
                have hcv : cutV b o c j = .slice (some ⟨b, o + (a + 4), none⟩) 512 (c - (a + 4)) := by unfold cutV; rw [ha]
                have hnb := num4_bd l a
                obtain ⟨x, hx⟩ : ∃ x, num4 l a = x := ⟨_, rfl⟩
                rw [hx] at hNr hps hnb
                have HN := Lib.hid hNr
                have Hps := Lib.hid hps
                have Hcv := Lib.hid hcv
                have Ha := Lib.hid ha
                have hc0 := hbkG.cell 0
                have hf0 := hbkG.free 0
                simp at hc0
                have hA : ∀ W : World, W.heap = (wr.alloc (.cells #[.int .i64 x, .slice (some ⟨b, o + (a + 4), none⟩) 512 (c - (a + 4))] 51)).heap → W.ownsRow (w1.heap.size + 1) 51 2 v j (pcells (pieces l j) (cuts b o c j)) ∧ Rd W (wr.heap.size + 1) 2 (some ⟨wr.heap.size, 0, none⟩) 1 [.int .i64 x, .slice (some ⟨b, o + (a + 4), none⟩) 512 (c - (a + 4))] ∧ w1.heap.size + 1 ≤ W.heap.size := by
                  intro W hW
                  have h1 := hown.alloc (.cells #[.int .i64 x, .slice (some ⟨b, o + (a + 4), none⟩) 512 (c - (a + 4))] 51)
                  have h2 := Rd.pair wr 51 (.int .i64 x) (.slice (some ⟨b, o + (a + 4), none⟩) 512 (c - (a + 4)))
                  refine ⟨own_heap h1 hW, rd_heap h2 hW, by rw [hW, asz1]; have := hbkG.lt; omega⟩
                have hF : ∀ W W8 : World, W.heap = (wr.alloc (.cells #[.int .i64 x, .slice (some ⟨b, o + (a + 4), none⟩) 512 (c - (a + 4))] 51)).heap → Below (w1.heap.size + 1) W W8 → W8.cell? ⟨w1.heap.size, 0, none⟩ = some v ∧ W8.frozen? ⟨w1.heap.size, 0, none⟩ = false := by
                  intro W W8 hW hb
                  have h1 := (bk_heap (hbkG.alloc (.cells #[.int .i64 x, .slice (some ⟨b, o + (a + 4), none⟩) 512 (c - (a + 4))] 51)) hW).below hb (Nat.lt_succ_self _)
                  exact ⟨h1.cell 0, h1.free 0⟩
                have HF := Lib.hid hF
                have HA := Lib.hid hA
                clear hF
                clear hnum hpc hps hcv ha hx hNr hA
                have hcA := (hbkG.alloc (.cells #[.int .i64 x, .slice (some ⟨b, o + (a + 4), none⟩) 512 (c - (a + 4))] 51)).cell 0
                simp at hcA
                have e0 : (0 : Int) ≤ (a : Int) := by omega
                have e1 : (a : Int) + 4 ≤ (c : Int) := by omega
                have e2 : (a : Int) ≤ (a : Int) + 4 := by omega
                have e3 : (0 : Int) ≤ (a : Int) + 4 := by omega
                have e4 : (a : Int) + 4 ≤ (a : Int) + 516 := by omega
                have e5 : (a : Int) + 516 ≤ (c : Int) := by omega
                have e6 : IntKind.i64.wrap ((a : Int) + 4) = (a : Int) + 4 := IntWalk.i64_in _ (by omega)
                have e7 : IntKind.i64.wrap ((a : Int) + 516) = (a : Int) + 516 := IntWalk.i64_in _ (by omega)
                have e8 : ((a : Int) + 4).toNat = a + 4 := by omega
                have e9 : ((a : Int) + 516).toNat - (a + 4) = 512 := by omega
                have e10 : ¬ c = a := by omega
                have e11 : ¬ c = a + 4 := by omega
                have e12 : a + 4 - a = 4 := by omega
                have hj6 : j ≤ 1000000 := by omega
                go_wp2_with fail
                go_region_law (first
                  | (refine ap_wr_step (v := v) (n := j) (xs := pcells (pieces l j) (cuts b o c j)) (z := x) (Au := some ⟨b, o + (a + 4), none⟩) (nu := 512) (cu := c - (a + 4)) (A := some ⟨wr.heap.size, 0, none⟩) (B := wr.heap.size + 1) (base := w1.heap.size + 1) (by exact (HA.out _ rfl).1) (by exact (HA.out _ rfl).2.1) (by exact (HA.out _ rfl).2.2) hj6 (by rfl) (by rfl) ?_; intro v8 w8 hown8 hb8 hg8 hv8; have hF8 := HF.out _ w8 (by first | rfl | exact rfl) hb8; obtain ⟨hc8, hf8⟩ := hF8; obtain ⟨A8, c8, rfl, _, _⟩ := own_form hown8)
                  | (go_simp; go_at_call 45; refine (HN.out wr.drew rfl).mono ?_; rintro e w3 ⟨rfl, rfl⟩))
                all_goals
                  have hgl' : GL w l b o c w.heap.size w1.heap.size (j + 1) (w8.setCell ⟨w1.heap.size, 0, none⟩ (.slice A8 (j + 1) c8)) := GL.step (by exact hbkG.alloc _) (by exact hbkR.alloc _) hRG (by exact (hbw.alloc hbw.size _).drew) hb8 Hps.out (by rw [Hcv.out]; exact hown8)
                  clear HA HF HN hown hbkG hbkR hbw hown8 hb8 hg8 hv8 hcA hc0 hf0 hc8 hf8 e8 e9 e10 e11 e12
                  go_wp2_with fail
                  go_roundw
                  case rel => exact ⟨j + 1, by omega, congrArg (Value.int .i64) (by have := Ha.out; omega), hgl'⟩
                  case measure => simp [intOf]; omega
              · have : j = K := by omega
                subst this
                have hEE : ¬ (a : Int) < (E : Int) := by have := HE.out; omega
                clear ha
                obtain ⟨v, hbkG, hown, hbkR, hRG, hbw⟩ := hgl
                obtain ⟨A8, c8, rfl, hc8, _⟩ := own_form hown
                have hread : ∀ W, Below w.heap.size w W → W.ownsRow (w1.heap.size + 1) 51 2 (.slice A8 j c8) j (pcells (pieces l j) (cuts b o c j)) → RdPcs W W.heap.size 1 A8 j (pieces l j) := fun W hb ho =>
                  own_pcs ho (by simp [cuts, pieces]) (pieces_len l j) (fun i vi p hvi hp => by
                    have hij : i < j := by
                      rcases Nat.lt_or_ge i j with h | h
                      · exact h
                      · rw [List.getElem?_eq_none (by simp [cuts]; omega)] at hvi; cases hvi
                    unfold cuts at hvi
                    unfold pieces at hp
                    rw [List.getElem?_map, List.getElem?_range hij] at hvi hp
                    injection hvi with hvi
                    injection hp with hp
                    subst hvi hp
                    have hk : 8 + 516 * i + 4 + 512 ≤ n := by have := HE.out; omega
                    have hb4 := num4_bd l (8 + 516 * i)
                    refine ⟨RdB.mk (HcutR.out W (8 + 516 * i + 4) 512 hb hk) (by omega), rfl, fun z hz => ?_⟩
                    simp [piece] at hz
                    subst hz
                    unfold i64B
                    omega)
                have hrd := hread wr hbw hown
                have Hread := Lib.hid hread
                clear hread
                have hri := refris_any A8 j c8 (pieces l j) wr hrd (by omega)
                have hc0 := hbkG.cell 0
                simp at hc0
                have Hrd := Lib.hid hrd
                have Hown := Lib.hid hown
                clear hrd hown
                cases hb : risB (-1) (nosOf (pieces l j)) with
                | false =>
                  have hw := WE_ris H4.out Hm'.out H8.out (by rw [HK.out]; omega) (by rw [HKt.out, Hl.out]; omega) (by rw [HKt.out, HE.out, Hy1.out, Hy2.out]; exact Hs.out) (by rw [HKt.out]; exact hb)
                  rw [hb] at hri
                  have Hw := Lib.hid hw
                  clear hw hb
                  go_wp2_with fail
                  refine hri.mono ?_
                  rintro e w6 ⟨rfl, q6, rfl⟩
                  have hgc := got_cells (hbkR.drewN q6) (below_drewN hbw q6) (.slice none 0 0) (.int .i64 4)
                  have HG := Lib.hid hgc
                  have r0 := (hbkR.drewN q6).cell 0
                  have r1 := (hbkR.drewN q6).cell 1
                  have f0 := (hbkR.drewN q6).free 0
                  have f1 := (hbkR.drewN q6).free 1
                  clear hgc hri hbkR hbkG hbw hc0
                  generalize wr.drewN q6 = w6 at *
                  simp at r0 r1
                  go_wp2
                  clear r0 r1 f0 f1
                  obtain ⟨s0, s1, hbs⟩ := HG.out
                  generalize ((w6.setCell ⟨w.heap.size, 0, none⟩ (.slice none 0 0)).setCell ⟨w.heap.size, 1, none⟩ (.int .i64 4)) = W' at *
                  change bodyPost _ _ _ _ _ _
                  exact bodyPost_ret (v := .agg #[.slice none 0 0, .int .i64 4]) (by simp [results, Try.results35, go_sem, s0, s1]) rfl ⟨RGot.err Hw.out, by first | exact hbs.drew | exact hbs⟩
                | true =>
                  have hw := WE_ok H4.out Hm'.out H8.out (by rw [HK.out]; omega) (by rw [HKt.out, Hl.out]; omega) (by rw [HKt.out, HE.out, Hy1.out, Hy2.out]; exact Hs.out) (by rw [HKt.out]; exact hb)
                  rw [HKt.out] at hw
                  rw [hb] at hri
                  have Hw := Lib.hid hw
                  clear hw hb
                  go_wp2_with fail
                  refine hri.mono ?_
                  rintro e w6 ⟨rfl, q6, rfl⟩
                  have hgc := got_cells (hbkR.drewN q6) (below_drewN hbw q6) (.slice A8 j c8) (.int .i64 0)
                  have HG := Lib.hid hgc
                  have hrd6 := Hread.out _ hgc.2.2 (own_apart (own_apart (own_drewN Hown.out q6) (gb_set (World.grownBy.refl _ _) 0 (.slice A8 j c8)) (fun k hk => by injection hk with hk; have := hRG; omega)) (gb_set (World.grownBy.refl _ _) 1 (.int .i64 0)) (fun k hk => by injection hk with hk; have := hRG; omega))
                  have Hrd6 := Lib.hid hrd6
                  have r0 := (hbkR.drewN q6).cell 0
                  have r1 := (hbkR.drewN q6).cell 1
                  have f0 := (hbkR.drewN q6).free 0
                  have f1 := (hbkR.drewN q6).free 1
                  have g0 := (hbkG.drewN q6).cell 0
                  have g1 := (hbkG.drewN q6).cell 1
                  clear hgc hri hbkR hbkG hbw hc0 hrd6 Hrd Hown
                  simp at r0 r1 g0 g1
                  go_wp2
                  clear r0 r1 f0 f1 g0 g1
                  obtain ⟨s0, s1, hbs⟩ := HG.out
                  generalize (((wr.drewN q6).setCell ⟨w.heap.size, 0, none⟩ (.slice A8 j c8)).setCell ⟨w.heap.size, 1, none⟩ (.int .i64 0)) = W' at *
                  change bodyPost _ _ _ _ _ _
                  refine bodyPost_ret (v := .agg #[.slice A8 j c8, .int .i64 0]) (by simp [results, Try.results35, go_sem, s0, s1]) rfl ⟨⟨A8, j, c8, by rw [Hw.out]; rfl, hc8, ?_⟩, by first | exact hbs.drew | exact hbs⟩
                  rw [Hw.out]
                  exact Hrd6.out
          · have hsb : (y1 != (y2 : Int)) = true := by rw [bne_iff_ne]; exact hs
            have hw := WE_sum H4.out Hm'.out H8.out (by rw [HK.out]; omega) (by rw [HKt.out, Hl.out]; omega) (by rw [HKt.out, HE.out, Hy1.out, Hy2.out]; exact hs)
            have Hw := Lib.hid hw
            clear hw hs
            have hgc := got_cells hbk1 hbe1 (.slice none 0 0) (.int .i64 5)
            have HG := Lib.hid hgc
            clear hgc
            have r0 := hbk1.cell 0
            have r1 := hbk1.cell 1
            have f0 := hbk1.free 0
            have f1 := hbk1.free 1
            simp at r0 r1
            go_wp2
            clear r0 r1 f0 f1
            obtain ⟨s0, s1, hbs⟩ := HG.out
            generalize ((w1.setCell ⟨w.heap.size, 0, none⟩ (.slice none 0 0)).setCell ⟨w.heap.size, 1, none⟩ (.int .i64 5)) = W' at *
            change bodyPost _ _ _ _ _ _
            exact bodyPost_ret (v := .agg #[.slice none 0 0, .int .i64 5]) (by simp [results, Try.results35, go_sem, s0, s1]) rfl ⟨RGot.err Hw.out, by first | exact hbs.drew | exact hbs⟩
end Go.Proofs.Ythflnndjjhifeaa
