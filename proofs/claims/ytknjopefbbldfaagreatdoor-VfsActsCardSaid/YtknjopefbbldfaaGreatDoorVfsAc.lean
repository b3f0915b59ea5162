/- VfsActs: what same tells of a store and of what is told of it. -/
import Derived.Test.YtknjopefbbldfaaGreatDoorVfsAb
import Derived.Test.YtknjopefbbldfaaGreatDoorSame
namespace Go.Proofs.YtknjopefbbldfaaGreatDoor
open Go.RowKit
attribute [local go_sem ↓] Go.wp_at_zero Go.wp_at_succ

theorem infoSt : (Tryz.prog.info? 9).map (fun i => (i.zero, i.size, i.bytes)) = some (some (.string ⟨#[]⟩), 1, 16) := by kernel_rfl
theorem nms_one (l : List (List UInt8)) : ∀ u ∈ nms l, u.oneCell' = true := by
  intro u hu; simp only [nms, List.mem_map] at hu; obtain ⟨x, _, rfl⟩ := hu; rfl
/-- append of one text. -/
theorem ap_tx {w : World} {ops : Array Oper} {rest : List Oper} {a : Act} {Q : Exit → Act → World → Prop} {d : Option Tmp} {ty : TypeId} {pos : String} {af : Array Edge} {g : Option (Nat × Bool)} {s x : Operand} {base : Nat}
    {v : Value} {n c b : Nat} {l : List (List UInt8)} {t : List UInt8} (hown : w.ownsRow base 9 1 v n (nms l)) (hn : n ≤ 1000000) (hbase : base ≤ w.heap.size) (hb : Bk w b 9 #[.string ⟨t.toArray⟩]) (hs : a.eval s = v) (hx : a.eval x = .slice (some ⟨b, 0, none⟩) 1 c)
    (hw : Region.wanted { dst := d, op := .call { callee := .builtin .append, args := #[s, x], argTypes := #[56, 56] }, type := ty, pos := pos, after := af, guard := g } (yielded ops a.tmps) = true)
    (h : ∀ v' w', w'.ownsRow base 9 1 v' (n + 1) (nms (l ++ [t])) → Below base w w' → wpList Tryz.prog ops Q rest (a.put d v') w') :
    wpList Tryz.prog ops Q ({ dst := d, op := .call { callee := .builtin .append, args := #[s, x], argTypes := #[56, 56] }, type := ty, pos := pos, after := af, guard := g } :: rest) a w := by
  obtain ⟨i0, hi, hz0, hz1, hz2⟩ := info_parts infoSt
  have hr : Rd w w.heap.size 1 (some ⟨b, 0, none⟩) 1 (nms [t]) := ⟨rfl, fun _ => ⟨b, 0, rfl, hb.lt, fun j u hj => by
    match j, hj with
    | 0, hj => simp [nms] at hj; subst hj; exact hb.cell 0
    | j + 1, hj => simp [nms] at hj⟩⟩
  exact ap_any Tryz.underlying56 hi hz0 hz1 hz2 rfl (by decide) hown hr (nms_one _) (Below.refl base w) hbase (by omega) hs hx hw (fun v' w' h1 h2 h3 _ => h v' w' (by unfold nms at h1 ⊢; rw [List.map_append]; exact h1) h2)
theorem names_all (S : FsP) : namesP S [] = S.fs.map (·.1) := by
  unfold namesP
  rw [List.filter_eq_self]
  intro n _
  simp [Lib.hasPrefix]
set_option maxHeartbeats 8000000 in
set_option maxRecDepth 100000 in
theorem samev_any (f r : Nat) (O1 O2 : Nat → Prop) (S : FsP) (w : World) (h1 : FsA w O1 f S) (h2 : RfA w O2 r S) (hst : S.stamp ≤ 1000) (hm : S.fs.length ≤ 1000) :
    Calls Tryz.prog 10 #[.pointer (some ⟨f, 0, none⟩), .pointer (some ⟨r, 0, none⟩)] w fun e w' => e = .returned (.bool true) ∧ Below w.heap.size w w' := by
  have H1 := Lib.hid h1
  obtain ⟨m, bl, gl, sv, hF, _⟩ := h1
  obtain ⟨vL, Rs, hM, _⟩ := h2
  have HF := Lib.hid (show ∀ W, Below w.heap.size w W → FsM W f m bl gl sv S from fun W hW => hF.heap (fun i hi => hW.block i (hF.lt i hi)))
  have HM := Lib.hid (show ∀ W, Below w.heap.size w W → RfM W r vL Rs S from fun W hW => hM.heap (fun i hi => hW.block i (hM.lt i hi)))
  have HD := Lib.hid (show ∀ W : World, W.heap = w.heap → Calls Tryz.prog 27 #[.pointer (some ⟨f, 0, none⟩)] W fun e w' => e = .returned (.bool S.down) ∧ w' = W from fun W hW => down_any f m bl gl sv S W (hF.heap (fun i _ => by rw [hW])))
  have HNm := Lib.hid (show ∀ W, Below w.heap.size w W → Calls Tryz.prog 28 #[.pointer (some ⟨f, 0, none⟩), .string ⟨#[]⟩] W fun e w' => ∃ A n c, e = .returned (.slice A n c) ∧ n = (if S.down then 0 else S.fs.length) ∧ n ≤ c ∧ c ≤ maxLen ∧ (S.down = false → Rd w' w'.heap.size 1 A n (nms (S.fs.map (·.1)))) ∧ Below W.heap.size W w' from fun W hW => by
    have := names_head f m bl gl sv S ⟨#[]⟩ W (HF.out W hW) (by omega)
    rw [show (⟨#[]⟩ : ByteArray).data.toList = [] from rfl, names_all, List.length_map] at this
    exact this)
  have HRm := Lib.hid (show ∀ W, Below w.heap.size w W → Calls Tryz.prog 29 #[.pointer (some ⟨f, 0, none⟩)] W fun e w' => e = .returned (.int .i64 (if S.down then 0 else ((S.most - useP S.fs : Nat) : Int))) ∧ Below W.heap.size W w' from fun W hW => room_any f m bl gl sv S W (HF.out W hW))
  have HWt := Lib.hid (show ∀ W, Below w.heap.size w W → Calls Tryz.prog 30 #[.pointer (some ⟨f, 0, none⟩)] W fun e w' => e = .returned (.int .i64 (if S.down then 0 else (waitsP S.fs : Int))) ∧ Below W.heap.size W w' from fun W hW => waits_any f m bl gl sv S W (HF.out W hW))
  have d4 : w.cell? ⟨r, 4, none⟩ = some (.bool S.down) := hM.hd.cell 4
  have HX := Lib.hid (And.intro hM.wf (And.intro hst hm))
  have Hlt := Lib.hid hM.hd.lt
  cases hd : S.down with
  | true =>
    rw [hd] at d4 HD HNm HRm HWt
    clear hF hM hd hst hm
    go_enter Tryz.func10, Tryz.ntmps10
    go_wp2_with fail
    go_quiet ((go_at_call 27; exact Calls.quiet_of_same (HD.out _ rfl)))
    have B0 := Lib.hid (show Below w.heap.size w (w.drewN nq) from below_drewN (Below.refl _ _) _)
    have d4' : (w.drewN nq).cell? ⟨r, 4, none⟩ = some (.bool true) := d4
    go_wp2_with fail
    with_reducible refine (HNm.out _ B0.out).mono ?_
    rintro e w1 ⟨A1, n1, c1, rfl, hn1, _, _, _, b1⟩
    simp only [if_true] at hn1
    subst hn1
    have B1 := Lib.hid (show Below w.heap.size w w1 from B0.out.trans b1)
    clear b1
    go_wp2_with fail
    with_reducible refine (HRm.out w1 B1.out).mono ?_
    rintro e w2 ⟨rfl, b2⟩
    have B2 := Lib.hid (show Below w.heap.size w w2 from B1.out.trans (b2.mono B1.out.size))
    clear b2
    go_wp2_with fail
    with_reducible refine (HWt.out w2 B2.out).mono ?_
    rintro e w3 ⟨rfl, b3⟩
    have B3 := Lib.hid (show Below w.heap.size w w3 from B2.out.trans (b3.mono B2.out.size))
    clear b3
    go_wp2_with fail
    go_ret
    exact ⟨rfl, B3.out⟩
  | false =>
    rw [hd] at d4 HD HNm HRm HWt
    obtain ⟨N, hN⟩ : ∃ k, k = S.fs.length := ⟨_, rfl⟩
    obtain ⟨AL, cL, hvL, _, _⟩ := own_form hM.row
    rw [hM.len, ← hN] at hvL
    have HN := Lib.hid (And.intro hN (And.intro hvL hd))
    have hNb : N ≤ 1000 := by omega
    have HD0 := Lib.hid (show ∀ W, Below w.heap.size w W → W.cell? ⟨r, 0, none⟩ = some (.slice AL N cL) ∧ W.cell? ⟨r, 4, none⟩ = some (.bool false) from fun W hW => by
      have := (HM.out W hW).hd
      refine ⟨by rw [← hvL]; exact this.cell 0, by have h4 := this.cell 4; rw [h4, hd]; rfl⟩)
    clear hF hM hd hst hm hN hvL
    go_enter Tryz.func10, Tryz.ntmps10
    go_wp2_with fail
    go_quiet ((go_at_call 27; exact Calls.quiet_of_same (HD.out _ rfl)))
    have B0 := Lib.hid (show Below w.heap.size w (w.drewN nq) from below_drewN (Below.refl _ _) _)
    obtain ⟨y0, y4⟩ := HD0.out _ B0.out
    clear d4
    go_wp2_with fail
    generalize w.drewN nq = w1 at *
    clear y0 y4
    go_loopw [5, 7, 8, 9, 10, 11, 40] (fun s5 s7 s8 s9 s10 s11 s40 wr => ∃ i : Nat, s40 = .int .i64 (i : Int) ∧ i ≤ N ∧ Hid (wr.ownsRow w.heap.size 9 1 s5 i (nms ((S.fs.take i).map (·.1))) ∧ Below w.heap.size w wr)) (fun _ _ _ _ _ _ s40 _ => N - (intOf s40).toNat)
    case atStart => exact ⟨0, rfl, Nat.zero_le _, Lib.hid ⟨World.ownsRow_nil _ _ _ _, B0.out⟩⟩
    case round =>
      obtain ⟨i, rfl, hi, HR⟩ := hrel
      obtain ⟨A5, c5, rfl, hc5, hc5m⟩ := own_form HR.out.1
      by_cases hlt : i < N
      · obtain ⟨n, x, hjx⟩ : ∃ n x, S.fs[i]? = some (n, x) := ⟨_, _, List.getElem?_eq_getElem (by rw [← HN.out.1]; exact hlt)⟩
        obtain ⟨R, gL, cL', hR, hvL', hiR, dp, hff⟩ := (HM.out wr HR.out.2).file hjx
        rw [HN.out.2.1] at hvL'
        injection hvL' with hA hA2 hA3
        subst hA
        clear hA2 hA3
        have hfind : findP S n = some x := find_mem HX.out.1 (List.mem_of_getElem? hjx)
        have hns : (⟨n.toArray⟩ : ByteArray).size ≤ 1000000 := by
          have := HX.out.1.names _ (List.mem_of_getElem? hjx)
          rw [Lib.size_eq]; simp only at *; omega
        have hnd : (⟨n.toArray⟩ : ByteArray).data.toList = n := by simp
        obtain ⟨LB, hLB⟩ : ∃ k, k = x.B.length := ⟨_, rfl⟩
        have hLBb : LB ≤ 5000000 := by
          have h1 := use_le (List.mem_of_getElem? hjx)
          have h2 := HX.out.1.room
          have h3 := HX.out.1.most2
          have h4 := (HX.out.1.files _ (List.mem_of_getElem? hjx)).w
          simp only at h1 h4
          rw [h4] at h1
          unfold needN at h1
          omega
        obtain ⟨AB, cB, AO, cO, AW, cW, _, _, _⟩ := hff.heads
        have HK := Lib.hid (show ∀ W, Below w.heap.size w W → ∃ AB cB, W.cell? ⟨R.b, 0, none⟩ = some (.string ⟨n.toArray⟩) ∧ W.cell? ⟨R.b, 1, none⟩ = some (.slice AB LB cB) ∧ W.cell? ⟨R.b, 4, none⟩ = some (.int .i64 (x.stamp : Int)) ∧ R.vB = .slice AB LB cB ∧ Rd W W.heap.size 1 AB LB (bys x.B) from fun W hW => by
          have hf := (HM.out W hW).fl i R (n, x) hR hjx
          obtain ⟨A, c, e, h1, h2⟩ := own_form hf.b
          have hb := hf.b
          simp only at e hb
          rw [← hLB] at e hb
          refine ⟨A, c, hf.hd.cell 0, by rw [← e]; exact hf.hd.cell 1, hf.hd.cell 4, e, ?_⟩
          rw [e] at hb
          exact Rd.of_own hb)
        have HLn := Lib.hid (show ∀ W, Below w.heap.size w W → Calls Tryz.prog 31 #[.pointer (some ⟨f, 0, none⟩), .string ⟨n.toArray⟩] W fun e w' => e = .returned (.tuple #[.int .i64 (LB : Int), .bool true]) ∧ w' = W from fun W hW => by
          have := len_any f m bl gl sv S ⟨n.toArray⟩ W (HF.out W hW) (Nat.le_trans hns (by unfold maxLen; decide))
          rw [hnd] at this
          unfold lenV lenP at this
          rw [HN.out.2.2, hfind] at this
          rw [hLB]; exact this)
        have HRd := Lib.hid (show ∀ W, Below w.heap.size w W → Calls Tryz.prog 14 #[.pointer (some ⟨f, 0, none⟩), .string ⟨n.toArray⟩, .int .i64 0, .int .i64 (LB : Int)] W fun e w' => ∃ A c, e = .returned (.tuple #[.slice A LB c, .int .i64 0]) ∧ w'.ownsRow W.heap.size 5 1 (.slice A LB c) LB (bys x.B) ∧ Below W.heap.size W w' from fun W hW => by
          refine (read_at f _ S W (FsA.below H1.out hW) ⟨n.toArray⟩ 0 (LB : Int) hns (by omega)).mono ?_
          rintro e w' ⟨A, k, c, rfl, hk, _, _, ho, hb⟩
          rw [hnd, read_of 0 (LB : Int) HN.out.2.2 hfind, if_neg (by omega), if_neg (by rw [← hLB]; omega)] at hk ho ⊢
          have e1 : (x.B.drop (0 : Int).toNat).take ((LB : Int)).toNat = x.B := by
            rw [Int.toNat_natCast, hLB]; simp
          simp only [e1] at hk ho
          rw [← hLB] at hk
          subst hk
          exact ⟨A, c, rfl, ho, hb⟩)
        have HSt := Lib.hid (show ∀ W, Below w.heap.size w W → Calls Tryz.prog 33 #[.pointer (some ⟨f, 0, none⟩), .string ⟨n.toArray⟩] W fun e w' => e = .returned (.int .i64 (x.stamp : Int)) ∧ w' = W from fun W hW => by
          have := stamp_any f m bl gl sv S ⟨n.toArray⟩ W (HF.out W hW) (Nat.le_trans hns (by unfold maxLen; decide))
          rw [hnd] at this
          unfold stampP at this
          rw [HN.out.2.2, hfind] at this
          exact this)
        have HT := Lib.hid (take_step hjx)
        have HO := Lib.hid HR.out.1
        have HB := Lib.hid HR.out.2
        generalize hRb : R.b = b at *
        have HvB := Lib.hid (show ∃ AB cB, R.vB = .slice AB LB cB from by obtain ⟨A, c, _, _, _, e, _⟩ := HK.out wr HB.out; exact ⟨A, c, e⟩)
        obtain ⟨AB2, cB2, hvB⟩ := HvB.out
        have HK2 := Lib.hid (show ∀ W, Below w.heap.size w W → W.cell? ⟨b, 0, none⟩ = some (.string ⟨n.toArray⟩) ∧ W.cell? ⟨b, 1, none⟩ = some (.slice AB2 LB cB2) ∧ W.cell? ⟨b, 4, none⟩ = some (.int .i64 (x.stamp : Int)) ∧ Rd W W.heap.size 1 AB2 LB (bys x.B) from fun W hW => by
          obtain ⟨A, c, e1, e2, e3, e4, e5⟩ := HK.out W hW
          rw [hvB] at e4
          injection e4 with e6 _ e7
          subst e6 e7
          exact ⟨e1, e2, e3, e5⟩)
        have y0 := (HK2.out wr HB.out).1
        have hsz := HB.out.size
        have hib : i ≤ 1000 := by omega
        clear hjx hR hff hiR hfind hns hnd hLB hvB hRb HR HK
        go_wp2_with ((with_reducible refine at_append ?_; (apply ap_tx (c := 1) (b := wr.heap.size) (t := n) (HO.out.alloc _) (Nat.le_trans hib (by decide))); (case hbase => simp; omega); (case hb => exact Bk.new wr _ _); (case hs => kernel_rfl); (case hx => kernel_rfl); (case hw => kernel_rfl); intro v9 w9 o9 b9; have HB1 := Lib.hid ((HB.out.alloc hsz _).trans b9); have z0 := (HK2.out w9 HB1.out).1; replace o9 := Lib.hid o9; clear b9; try go_frame))
        with_reducible refine (HLn.out w9 HB1.out).mono ?_
        rintro e wz ⟨rfl, hwz⟩
        replace hwz := hwz.symm
        subst hwz
        go_wp2_with fail
        with_reducible refine (HRd.out w9 HB1.out).mono ?_
        rintro e w7 ⟨A7, c7, rfl, o7, b7⟩
        have HB7 := Lib.hid (show Below w.heap.size w w7 from HB1.out.trans (b7.mono HB1.out.size))
        have o9' := Lib.hid (show w7.ownsRow w.heap.size 9 1 v9 (i + 1) (nms ((S.fs.take (i + 1)).map (·.1))) from by
          have := own_below o9.out b7 (Nat.le_refl _)
          rw [HT.out, List.map_append]
          exact this)
        have hRd7 := Rd.of_own o7
        have HSm := Lib.hid (show ∀ W, Below w7.heap.size w7 W → Calls Tryz.prog 32 #[.slice A7 LB c7, .slice AB2 LB cB2] W fun e w' => e = .returned (.bool true) ∧ Below W.heap.size W w' from fun W hW => by
          have hb := HB7.out.trans (hW.mono HB7.out.size)
          have := same_any A7 AB2 LB LB c7 cB2 x.B x.B W ((hRd7.below hW (Nat.le_refl _)).more hW.size) (HK2.out W hb).2.2.2 (by omega) (by omega)
          rw [decide_eq_true rfl] at this
          refine this.mono ?_
          rintro e w' ⟨rfl, q, rfl⟩
          exact ⟨rfl, below_drewN (Below.refl _ _) q⟩)
        have HS2 := Lib.hid (show ∀ W, Below w7.heap.size w7 W → (W.cell? ⟨b, 0, none⟩ = some (.string ⟨n.toArray⟩) ∧ W.cell? ⟨b, 1, none⟩ = some (.slice AB2 LB cB2) ∧ W.cell? ⟨b, 4, none⟩ = some (.int .i64 (x.stamp : Int))) ∧ Calls Tryz.prog 33 #[.pointer (some ⟨f, 0, none⟩), .string ⟨n.toArray⟩] W fun e w' => e = .returned (.int .i64 (x.stamp : Int)) ∧ w' = W from fun W hW => by
          have hb := HB7.out.trans (hW.mono HB7.out.size)
          obtain ⟨e1, e2, e3, _⟩ := HK2.out W hb
          exact ⟨⟨e1, e2, e3⟩, HSt.out W hb⟩)
        clear o7 b7 hRd7 z0 y0 o9
        go_wp2_with fail
        have hcur : Below w7.heap.size w7 w7.drew := (Below.refl _ _).drew
        go_region_held3 (fun w' => w'.cell? ⟨b, 0, none⟩ = some (.string ⟨n.toArray⟩) ∧ w'.cell? ⟨b, 1, none⟩ = some (.slice AB2 LB cB2) ∧ w'.cell? ⟨b, 4, none⟩ = some (.int .i64 (x.stamp : Int))) (first | exact (HS2.out _ hcur).1 | go_keep)
          (first
            | (go_at_call 32; with_reducible refine (HSm.out _ hcur).mono ?_; rintro e w5 ⟨rfl, hb5⟩; replace hcur := hcur.trans (hb5.mono hcur.size))
            | (go_at_call 33; with_reducible refine (HS2.out _ hcur).2.mono ?_; rintro e w6 ⟨rfl, hw6⟩; subst hw6))
        have HC := Lib.hid hcur
        clear hcur hb5
        go_wp2_with fail
        go_roundw
        case rel => exact ⟨i + 1, by rfl, by omega, Lib.hid ⟨own_below o9'.out HC.out (Nat.le_refl _), HB7.out.trans (HC.out.mono HB7.out.size)⟩⟩
        case measure => simp [intOf]; omega
      · have hiN : i = N := by omega
        have HO := Lib.hid (show wr.ownsRow w.heap.size 9 1 (.slice A5 N c5) N (nms (S.fs.map (·.1))) from by
          have := HR.out.1
          rw [List.take_of_length_le (by rw [← HN.out.1]; omega), hiN] at this
          exact this)
        have HB := Lib.hid HR.out.2
        subst hiN
        clear HR
        go_wp2_with fail
        with_reducible refine (HNm.out wr HB.out).mono ?_
        rintro e w2 ⟨A2, n2, c2, rfl, hn2, _, _, hr2, b2⟩
        have hn3 : n2 = i := by rw [hn2, HN.out.1]; rfl
        subst hn3
        have B2 := Lib.hid (show Below w.heap.size w w2 from HB.out.trans (b2.mono HB.out.size))
        have HTx := Lib.hid (texts_same A2 A5 n2 c2 c5 _ w2 (hr2 (by first | rfl | trivial)) (Rd.of_own (own_below HO.out b2 (Nat.le_refl _))) (by omega))
        have HRr := Lib.hid (show ∀ W, Below w.heap.size w W → Calls Tryz.prog 35 #[.pointer (some ⟨r, 0, none⟩)] W fun e w' => e = .returned (.int .i64 ((S.most - useP S.fs : Nat) : Int)) ∧ w' = W from fun W hW => rroom_any r vL Rs S W (HM.out W hW))
        have HWr := Lib.hid (show ∀ W, Below w.heap.size w W → Calls Tryz.prog 36 #[.pointer (some ⟨r, 0, none⟩)] W fun e w' => e = .returned (.int .i64 (waitsP S.fs : Int)) ∧ w' = W from fun W hW => rwaits_any r vL Rs S W (HM.out W hW) HX.out.2.2)
        obtain ⟨rm, hrm⟩ : ∃ k, k = S.most - useP S.fs := ⟨_, rfl⟩
        obtain ⟨wt, hwt⟩ : ∃ k, k = waitsP S.fs := ⟨_, rfl⟩
        rw [← hrm] at HRr HRm
        rw [← hwt] at HWr HWt
        simp only [Bool.false_eq_true, if_false] at HRm HWt
        clear hn2 hr2 b2 hrm hwt
        go_wp2_with fail
        with_reducible refine HTx.out.mono ?_
        rintro e w3 ⟨rfl, b3⟩
        have B3 := Lib.hid (show Below w.heap.size w w3 from B2.out.trans (b3.mono B2.out.size))
        clear b3
        go_wp2_with fail
        with_reducible refine (HRm.out w3 B3.out).mono ?_
        rintro e w4 ⟨rfl, b4⟩
        have B4 := Lib.hid (show Below w.heap.size w w4 from B3.out.trans (b4.mono B3.out.size))
        clear b4
        go_wp2_with fail
        with_reducible refine (HRr.out w4 B4.out).mono ?_
        rintro e wz ⟨rfl, hwz⟩
        replace hwz := hwz.symm
        subst hwz
        go_wp2_with fail
        with_reducible refine (HWt.out w4 B4.out).mono ?_
        rintro e w5 ⟨rfl, b5⟩
        have B5 := Lib.hid (show Below w.heap.size w w5 from B4.out.trans (b5.mono B4.out.size))
        clear b5
        go_wp2_with fail
        with_reducible refine (HWr.out w5 B5.out).mono ?_
        rintro e wz ⟨rfl, hwz⟩
        replace hwz := hwz.symm
        subst hwz
        go_wp2_with fail
        go_ret
        exact ⟨rfl, B5.out⟩
end Go.Proofs.YtknjopefbbldfaaGreatDoor
