/- Contracts of package vfs: Read. -/
import Derived.Test.YtknjopefbbldfaaGreatDoorVfs4
import Derived.Test.YtknjopefbbldfaaGreatDoorConv
namespace Go.Proofs.YtknjopefbbldfaaGreatDoor
open Go.RowKit
attribute [local go_sem ↓] Go.wp_at_zero Go.wp_at_succ

/-- make([]byte, 0, n). -/
theorem mk_room (n : Nat) (hn : n ≤ 100000000) (w : World) :
    (Instr.makeSlice 29 (.int .i64 0) (.int .i64 (n : Int))).run Tryz.prog w = .ok (.slice (some ⟨w.heap.size, 0, none⟩) 0 n) (w.alloc (.cells (bys (List.replicate n 0)).toArray 5)) := by
  obtain ⟨i0, hi, hz0, hz1, hz2⟩ := info_parts infoB
  have hr := run_make (P := Tryz.prog) w 29 5 i0 _ Tryz.underlying29 hi hz0 .i64 .i64 0 n (Int.le_refl _) (by omega) (by rw [hz2]; omega) (by omega)
  simp only [Int.toNat_zero, Int.toNat_natCast, hz1, Nat.mul_one] at hr
  rw [← made_bys]
  exact hr
theorem own_room (n : Nat) (hn : n ≤ 100000000) (w : World) : (w.alloc (.cells (bys (List.replicate n 0)).toArray 5)).ownsRow w.heap.size 5 1 (.slice (some ⟨w.heap.size, 0, none⟩) 0 n) 0 (bys []) :=
  World.ownsRow_made w _ n (Nat.le_refl _) (by unfold maxLen; omega) (by simp [bys])
/-- s[:h] of bytes. -/
theorem slice_h {w : World} {ops : Array Oper} {rest : List Oper} {a : Act} {Q : Exit → Act → World → Prop} {d : Option Tmp} {ty : TypeId} {pos : String} {af : Array Edge} {g0 : Option (Nat × Bool)} {s hi : Operand}
    {A : Option Addr} {n c : Nat} {kh : IntKind} {xh : Int} (m : Nat) (hm : m ≤ c) (hs : a.eval s = .slice A n c) (hh : a.eval hi = .int kh xh) (el : xh = (m : Int)) (hA : c = 0 ∨ ∃ b o, A = some ⟨b, o, none⟩)
    (hw : Region.wanted { dst := d, op := .slice 29 s none (some hi) none, type := ty, pos := pos, after := af, guard := g0 } (yielded ops a.tmps) = true)
    (h : wpList Tryz.prog ops Q rest (a.put d (.slice A m c)) w) :
    wpList Tryz.prog ops Q ({ dst := d, op := .slice 29 s none (some hi) none, type := ty, pos := pos, after := af, guard := g0 } :: rest) a w :=
  BigFrame.wpList_want hw fun _ hK => by
    subst el
    have he : Tryz.prog.elem 29 = 5 := by kernel_rfl
    have hrun := run_slice_h (P := Tryz.prog) (w := w) 29 A n c (by rw [he]; exact Tryz.underlying29) kh (m : Int) (by omega) (by omega)
    rw [he, Tryz.sizeOf5 w] at hrun
    have hrun2 : (Instr.sliceAt 29 (.slice A n c) none (some (.int kh (m : Int))) none).run Tryz.prog w = .ok (.slice A m c) w := by
      rw [run_sliceAt_slice w 29 _ _ _ _ (by rw [he]; exact Tryz.underlying29), hrun]
      rcases hA with rfl | ⟨b, o, rfl⟩
      · simp [sliced]
      · simp [sliced, addLit]
    unfold Oper.wp execOp
    simp only [Option.map_some, Option.map_none, hs, hh, Sem.run_bind, hrun2, Sem.run_pure, Result.andThen_ok, Oper.upon_value]
    exact hK _ _ h
set_option maxHeartbeats 4000000 in
set_option maxRecDepth 100000 in
theorem read_ok (f m : Nat) (bl gl : List UInt8 → Nat) (sv : List UInt8 → Value) (S : FsP) (s : ByteArray) (P0 K : Nat) (w : World) (h : FsM w f m bl gl sv S) (hs : s.size ≤ maxLen) (hd : S.down = false) (x : FlP) (hf : findP S s.data.toList = some x) (hPK : P0 + K ≤ x.B.length) :
    Calls Tryz.prog 14 #[.pointer (some ⟨f, 0, none⟩), .string s, .int .i64 (P0 : Int), .int .i64 (K : Int)] w fun e w' =>
      ∃ v, e = .returned (.tuple #[v, .int .i64 0]) ∧ w'.ownsRow w.heap.size 5 1 v K (bys ((x.B.drop P0).take K)) ∧ Below w.heap.size w w' := by
  have HA := Lib.hid (at_some f m bl gl sv S s w h hs hd hf)
  have hfl := h.fl _ x hf
  have hwf : x.WF := by
    have := h.wf.files
    exact this (s.data.toList, x) (lookup_mem hf)
  have hxB : x.B.length ≤ 5000000 := by
    have h1 := needN_ge x.B.length
    rw [← hwf.w] at h1
    have h2 := use_le (lookup_mem hf)
    have h3 := h.wf.room
    have h4 := h.wf.most2
    simp only at h2
    omega
  generalize bl s.data.toList = b at *
  generalize gl s.data.toList = g at *
  generalize sv s.data.toList = v at *
  have c1 : w.cell? ⟨b, 1, none⟩ = some (.int .i64 (x.B.length : Int)) := hfl.hd.cell 1
  have HF := Lib.hid hfl
  clear h hd hs hf hfl
  have n1 : ¬ ((P0 : Int) < 0) := by omega
  have n2 : ¬ ((K : Int) < 0) := by omega
  have q1 : IntKind.i64.wrap ((x.B.length : Int) - (P0 : Int)) = (x.B.length : Int) - (P0 : Int) := IntWalk.i64_in _ (by omega)
  have h3 : ¬ x.B.length < P0 := by omega
  have h4 : ¬ ((x.B.length : Int) - (P0 : Int) < (K : Int)) := by omega
  have hlo : ((x.B.drop P0).take K).length = K := by rw [List.length_take, List.length_drop]; omega
  have HX := Lib.hid (And.intro hxB (And.intro hPK hlo))
  have mk := fun w => mk_room K (by omega) w
  have HO := Lib.hid (own_room K (by omega) w)
  have HF' := Lib.hid (show FlM (w.alloc (.cells (bys (List.replicate K 0)).toArray 5)) b g v x from HF.out.heap (Below.heap_alloc w _ b HF.out.hd.lt) (fun h0 => Below.heap_alloc w _ g (HF.out.sl.lt h0)))
  have HC := Lib.hid (show Below w.heap.size w (w.alloc (.cells (bys (List.replicate K 0)).toArray 5)) from (Below.refl _ _).alloc (Nat.le_refl _) _)
  have HWF := Lib.hid hwf
  clear hxB hPK hlo hwf
  go_enter Tryz.func14, Tryz.ntmps14
  go_wp2_with fail
  with_reducible refine HA.out.mono ?_
  rintro e w1 ⟨rfl, hw1⟩; subst hw1
  go_wp2_with fail
  generalize hbs : w1.heap.size = bs at *
  have Hbs := Lib.hid hbs
  clear hbs mk c1 n1 n2 q1 h3 h4
  generalize w1.alloc (.cells (bys (List.replicate K 0)).toArray 5) = w2 at *
  go_loopw [2, 3, 12] (fun s1 s2 s3 wr => ∃ d : Nat, s1 = .int .i64 ((P0 + d : Nat) : Int) ∧ s2 = .int .i64 ((K - d : Nat) : Int) ∧ d ≤ K ∧ Hid (wr.ownsRow bs 5 1 s3 d (bys ((x.B.drop P0).take d)) ∧ FlM wr b g v x ∧ Below bs w1 wr)) (fun _ s2 _ _ => (intOf s2).toNat)
  case atStart => exact ⟨0, by simp, by simp, Nat.zero_le _, Lib.hid ⟨HO.out, HF'.out, HC.out⟩⟩
  case round =>
    obtain ⟨d, rfl, rfl, hd, HR⟩ := hrel
    by_cases hlt : d < K
    · obtain ⟨P, hP⟩ : ∃ P, P = P0 + d := ⟨_, rfl⟩
      rw [← hP]
      obtain ⟨N, hN⟩ : ∃ N, N = K - d := ⟨_, rfl⟩
      rw [← hN]
      have hPB : P < 5000000 := by have := HX.out; omega
      have hL : P / 64 < x.W.length := by
        have := needN_ge x.B.length
        rw [← HWF.out.w] at this
        have := HX.out
        omega
      obtain ⟨cc, cs, rfl, z1, z2, z3, z4, z5⟩ := HR.out.2.1.sl.pos (by omega)
      have d0 : wr.cell? ⟨b, 0, none⟩ = some (.slice (some ⟨g, 0, none⟩) x.W.length cc) := HR.out.2.1.hd.cell 0
      have i1 : (P : Int) / 64 < (x.W.length : Int) := by omega
      obtain ⟨M, hM⟩ : ∃ M, M = min (64 - P % 64) N := ⟨_, rfl⟩
      have hM0 : 0 < M ∧ M ≤ N ∧ P % 64 + M ≤ 64 := by rw [hM]; omega
      have em := fun ats ty => run_min ats ty ((64 - P % 64 : Nat) : Int) (N : Int) (M : Int) (by rw [hM]; split <;> omega)
      have hRd : Rd wr wr.heap.size 1 (some ⟨g, P / 64 * 129 + P % 64, none⟩) M (bys ((x.B.drop P).take M)) := by
        have hl : ((x.B.drop P).take M).length = M := by rw [List.length_take, List.length_drop]; have := HX.out; omega
        refine ⟨by rw [bys_len, hl, Nat.mul_one], fun _ => ⟨g, _, rfl, z3.lt, fun j u hu => ?_⟩⟩
        unfold bys at hu
        rw [List.getElem?_map, Option.map_eq_some_iff] at hu
        obtain ⟨y, hy, rfl⟩ := hu
        have hj : j < M := by have := (List.getElem?_eq_some_iff.1 hy).1; omega
        rw [List.getElem?_take_of_lt hj, List.getElem?_drop] at hy
        rw [z3.cell, show P / 64 * 129 + P % 64 + j = P / 64 * 129 + (P % 64 + j) by omega, z5 (P / 64) hL (P % 64 + j) (by omega)]
        unfold cellK byP
        rw [if_pos (by omega), show 64 * (P / 64) + (P % 64 + j) = P + j by omega, hy]
        rfl
      have HRd := Lib.hid hRd
      obtain ⟨PM, hPM⟩ : ∃ q, q = P + M := ⟨_, rfl⟩
      obtain ⟨NM, hNM⟩ : ∃ q, q = N - M := ⟨_, rfl⟩
      have e1 : (P : Int) + (M : Int) = (PM : Int) := by omega
      have e2 : (N : Int) - (M : Int) = (NM : Int) := by omega
      have hNB : N < 5000001 := by have := HX.out; omega
      have HPM := Lib.hid (And.intro hP (And.intro hN (And.intro hPM (And.intro hNM hM0))))
      have hN0 : 0 < N := by omega
      clear hP hN hPM hNM hM hRd z1 z2 z3 z4 z5
      go_upto_region 10 with (fail)
      go_upto_region 11 with (with_reducible refine at_slice ?_; (apply slice_sec (g := g) (o := P / 64 * 129) (kl := .i64) (xl := (P : Int) % 64) (P % 64)); (case hr => omega); (case hs => kernel_rfl); (case hl => kernel_rfl); (case el => omega); (case hw => kernel_rfl); try go_frame)
      go_upto_region 12 with (with_reducible refine at_slice ?_; (apply slice_h (A := some ⟨g, P / 64 * 129 + P % 64, none⟩) (n := 64 - P % 64) (c := 64 - P % 64) (kh := .i64) (xh := (M : Int)) M); (case hm => omega); (case hs => kernel_rfl); (case hh => kernel_rfl); (case el => rfl); (case hA => exact .inr ⟨_, _, rfl⟩); (case hw => kernel_rfl); try go_frame)
      have hbz : bs ≤ wr.heap.size := by have := HR.out.2.2.size; have := Hbs.out; omega
      have hby : d + M ≤ 140737488355328 := by have := HPM.out; have := HX.out; omega
      go_upto_region 13 with (with_reducible refine at_append ?_; (apply ap_bys (c := 64 - P % 64) HR.out.1 HRd.out (Below.refl bs wr) hbz hby); (case hs => kernel_rfl); (case hx => kernel_rfl); (case hw => kernel_rfl); intro v3 w3 o1 o2 o3 o4; replace o1 := Lib.hid o1; replace o2 := Lib.hid o2; replace o3 := Lib.hid o3; clear o4; try go_frame)
      go_wp2_with fail
      go_roundw
      case rel =>
        have u1 := HPM.out
        have u2 := HX.out
        have u3 := Hbs.out
        refine ⟨d + M, by rw [show PM = P0 + (d + M) by omega], by rw [show NM = K - (d + M) by omega], by omega, Lib.hid ⟨?_, HR.out.2.1.heap (o2.out.block b (by have := HF.out.hd.lt; omega)) (fun h0 => o2.out.block g (by have := HF.out.sl.lt h0; omega)), HR.out.2.2.trans (o2.out.mono (Nat.le_refl _))⟩⟩
        have e9 := o1.out
        have e8 : (x.B.drop P0).take (d + M) = (x.B.drop P0).take d ++ (x.B.drop P).take M := by
          rw [List.take_add, List.drop_drop, u1.1]
        rw [e8]; exact e9
      case measure =>
        have u1 := HPM.out
        simp [intOf]
        omega
    · have hdK : d = K := by omega
      subst hdK
      have e0 : d - d = 0 := Nat.sub_self d
      obtain ⟨A9, c9, rfl, _, _⟩ := own_form HR.out.1
      go_wp2_with fail
      go_ret2
      have u3 := Hbs.out
      refine ⟨.slice A9 d c9, rfl, ?_, by rw [u3]; exact HR.out.2.2⟩
      rw [u3]
      exact HR.out.1
set_option maxHeartbeats 4000000 in
set_option maxRecDepth 100000 in
theorem read_any (f m : Nat) (bl gl : List UInt8 → Nat) (sv : List UInt8 → Value) (S : FsP) (s : ByteArray) (p k : Int) (w : World) (h : FsM w f m bl gl sv S) (hs : s.size ≤ maxLen) (hp : -9223372036854775808 ≤ p ∧ p ≤ 9223372036854775807) :
    Calls Tryz.prog 14 #[.pointer (some ⟨f, 0, none⟩), .string s, .int .i64 p, .int .i64 k] w fun e w' =>
      ∃ v, e = .returned (.tuple #[v, .int .i64 ((readP S s.data.toList p k).1 : Int)]) ∧ w'.ownsRow w.heap.size 5 1 v (readP S s.data.toList p k).2.length (bys (readP S s.data.toList p k).2) ∧ Below w.heap.size w w' := by
  unfold readP
  have HP := Lib.hid hp
  clear hp
  have H := Lib.hid h
  cases hd : S.down with
  | true =>
    have HA := Lib.hid (at_down f m bl gl sv S s w h hs hd)
    clear h hd hs
    go_enter Tryz.func14, Tryz.ntmps14
    go_wp2_with fail
    with_reducible refine HA.out.mono ?_
    rintro e w1 ⟨rfl, hw1⟩; subst hw1
    go_wp2_with fail
    go_ret2
    exact ⟨_, rfl, own_nilB _ _ _, Below.refl _ _⟩
  | false =>
    cases hf : findP S s.data.toList with
    | none =>
      have HA := Lib.hid (at_none f m bl gl sv S s w h hs hd hf)
      clear h hd hs hf
      go_enter Tryz.func14, Tryz.ntmps14
      go_wp2_with fail
      with_reducible refine HA.out.mono ?_
      rintro e w1 ⟨rfl, hw1⟩; subst hw1
      go_wp2_with fail
      go_ret2
      exact ⟨_, rfl, own_nilB _ _ _, Below.refl _ _⟩
    | some x =>
      have HO := Lib.hid (fun P0 K hPK => read_ok f m bl gl sv S s P0 K w h hs hd x hf hPK)
      have HA := Lib.hid (at_some f m bl gl sv S s w h hs hd hf)
      have hfl := h.fl _ x hf
      have hwf : x.WF := by
        have := h.wf.files
        exact this (s.data.toList, x) (lookup_mem hf)
      have hxB : x.B.length ≤ 5000000 := by
        have h1 := needN_ge x.B.length
        rw [← hwf.w] at h1
        have h2 := use_le (lookup_mem hf)
        have h3 := h.wf.room
        have h4 := h.wf.most2
        simp only at h2
        omega
      generalize bl s.data.toList = b at *
      generalize gl s.data.toList = g at *
      generalize sv s.data.toList = v at *
      have c1 : w.cell? ⟨b, 1, none⟩ = some (.int .i64 (x.B.length : Int)) := hfl.hd.cell 1
      have HF := Lib.hid hfl
      clear h hd hs hf hfl H
      by_cases h1 : p < 0 ∨ k < 0
      · simp only [if_pos h1]
        by_cases h2 : p < 0
        · clear h1
          go_enter Tryz.func14, Tryz.ntmps14
          go_wp2_with fail
          with_reducible refine HA.out.mono ?_
          rintro e w1 ⟨rfl, hw1⟩; subst hw1
          go_wp2_with fail
          go_ret2
          exact ⟨_, rfl, own_nilB _ _ _, Below.refl _ _⟩
        · have h4 : k < 0 := by omega
          clear h1
          go_enter Tryz.func14, Tryz.ntmps14
          go_wp2_with fail
          with_reducible refine HA.out.mono ?_
          rintro e w1 ⟨rfl, hw1⟩; subst hw1
          go_wp2_with fail
          go_ret2
          exact ⟨_, rfl, own_nilB _ _ _, Below.refl _ _⟩
      · simp only [if_neg h1]
        obtain ⟨P0, rfl⟩ : ∃ q : Nat, p = (q : Int) := ⟨p.toNat, by omega⟩
        obtain ⟨K, rfl⟩ : ∃ q : Nat, k = (q : Int) := ⟨k.toNat, by omega⟩
        have n1 : ¬ ((P0 : Int) < 0) := by omega
        have n2 : ¬ ((K : Int) < 0) := by omega
        have q1 : IntKind.i64.wrap ((x.B.length : Int) - (P0 : Int)) = (x.B.length : Int) - (P0 : Int) := by have := HP.out; exact IntWalk.i64_in _ (by omega)
        by_cases h2 : (x.B.length : Int) < (P0 : Int) ∨ (x.B.length : Int) - (P0 : Int) < (K : Int)
        · simp only [if_pos h2]
          have HX := Lib.hid hxB
          clear hxB h1
          by_cases h3 : x.B.length < P0
          · clear h2
            go_enter Tryz.func14, Tryz.ntmps14
            go_wp2_with fail
            with_reducible refine HA.out.mono ?_
            rintro e w1 ⟨rfl, hw1⟩; subst hw1
            go_wp2_with fail
            go_ret2
            exact ⟨_, rfl, own_nilB _ _ _, Below.refl _ _⟩
          · have h4 : (x.B.length : Int) - (P0 : Int) < (K : Int) := by omega
            have h5 : ¬ x.B.length < P0 := h3
            clear h2
            go_enter Tryz.func14, Tryz.ntmps14
            go_wp2_with fail
            with_reducible refine HA.out.mono ?_
            rintro e w1 ⟨rfl, hw1⟩; subst hw1
            go_wp2_with fail
            go_ret2
            exact ⟨_, rfl, own_nilB _ _ _, Below.refl _ _⟩
        · simp only [if_neg h2]
          simp only [Int.toNat_natCast]
          have hPK : P0 + K ≤ x.B.length := by omega
          have hlo : ((x.B.drop P0).take K).length = K := by rw [List.length_take, List.length_drop]; omega
          simp only [Bool.false_eq_true, if_false, hlo]
          exact HO.out P0 K hPK
end Go.Proofs.YtknjopefbbldfaaGreatDoor
