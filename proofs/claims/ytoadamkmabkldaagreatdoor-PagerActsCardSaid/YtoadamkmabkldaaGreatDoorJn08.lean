/- Contracts of package vfs: Crash. -/
import Derived.Test.YtoadamkmabkldaaGreatDoorJn07
import Derived.IntWalk
import Derived.Deep.CutBlock
import Derived.Deep.DeepCutAuto
set_option linter.unusedVariables false
set_option linter.unusedSimpArgs false
namespace Go.Proofs.YtoadamkmabkldaaGreatDoor
open Go.RowKit Go.Sort Go.Shelf
attribute [local go_sem ↓] Go.wp_at_zero Go.wp_at_succ

theorem crash_nil (keep : UInt64) (w : World) : Calls Tryz.prog 28 #[.pointer none, .int .u64 (keep.toNat : Int)] w fun e w' => e = .returned (.tuple #[]) ∧ w' = w := by
  go_enter Tryz.func28, Tryz.ntmps28
  go_wp2
  refine bodyPost_ret (results_none rfl _ _ _) rfl ?_
  exact ⟨rfl, by first | rfl | trivial⟩
theorem crS_no {keep : UInt64} {k : Nat} {s : Nat × FlP} (h : s.2.W[k]?.getD false = false) : crS keep k s = s := by
  unfold crS; rw [h]; rfl
theorem crS_yes {keep : UInt64} {k : Nat} {s : Nat × FlP} (h : s.2.W[k]?.getD false = true) : crS keep k s = (s.1 + 1, lastP (if keepB keep s.1 then s.2 else backP s.2 k) k) := by
  unfold crS; rw [h]; rfl
/-- The bit of a sector. -/
theorem bit_keep (keep : UInt64) (i : Nat) : bits .and .u64 ((keep.toNat : Int) / 2 ^ (i % 64)) 1 = if keepB keep i then 1 else 0 := by
  have hlt : keep.toNat < 2 ^ 64 := keep.toNat_lt
  have h1 : ((keep.toNat : Int) / 2 ^ (i % 64)) = ((keep.toNat / 2 ^ (i % 64) : Nat) : Int) := by push_cast; rfl
  rw [h1]
  generalize hq : keep.toNat / 2 ^ (i % 64) = q
  have hq2 : q < 2 ^ 64 := by rw [← hq]; exact Nat.lt_of_le_of_lt (Nat.div_le_self _ _) hlt
  show IntKind.u64.wrap ((BitVec.ofInt 64 (q : Int) &&& BitVec.ofInt 64 1).toNat : Int) = _
  have e : (BitVec.ofInt 64 1).toNat = 1 := rfl
  rw [BitVec.toNat_and, e, Nat.and_one_is_mod, BitVec.toNat_ofInt]
  have e2 : (((q : Int) % ((2 ^ 64 : Nat) : Int)).toNat) = q := by omega
  rw [e2]
  unfold keepB
  rw [hq]
  rcases Nat.mod_two_eq_zero_or_one q with h | h
  · rw [h]; rfl
  · rw [h]; rfl
theorem csA_false {cs : Array Value} {x : FlP} {k : Nat} : csA cs x false k = putA cs (k * 129) (bys (oldL x k)) := by unfold csA; exact if_neg (by decide)
theorem bk_old {w : World} {g k : Nat} {t : TypeId} {cs : Array Value} {x : FlP} (h : Bk w g t cs) : Bk (w.setCells g (k * 129) (bys (oldL x k))) g t (csA cs x false k) := by
  rw [csA_false]
  exact Bk.cells h (bys (oldL x k)) (k * 129)
theorem ch_old {w w1 : World} {T : Nat → Prop} {g k : Nat} {x : FlP} (h : Ch T w w1) (hg : T g) : Ch T w (w1.setCells g (k * 129) (bys (oldL x k))) := h.cells (.inl hg) _ _
theorem csA_true {cs : Array Value} {x : FlP} {k : Nat} : csA cs x true k = cs := by unfold csA; exact if_pos rfl
set_option maxHeartbeats 4000000 in
set_option maxRecDepth 100000 in
theorem crash_any (f : Nat) (O : Nat → Prop) (S : FsP) (keep : UInt64) (w : World) (h : FsA w O f S) (hst : S.stamp ≤ 1000000) :
    Calls Tryz.prog 28 #[.pointer (some ⟨f, 0, none⟩), .int .u64 (keep.toNat : Int)] w fun e w' => e = .returned (.tuple #[]) ∧ FsA w' O f (crashP S keep) ∧ Ch O w w' := by
  obtain ⟨m, bl, gl, sv, hM, hO⟩ := h
  have HM := Lib.hid hM
  have HO := Lib.hid hO
  have HN := Lib.hid (names_any f m bl gl sv S w hM hst)
  have HS := Lib.hid hst
  clear hM hO hst
  go_enter Tryz.func28, Tryz.ntmps28
  go_wp2_with fail
  with_reducible refine HN.out.mono ?_
  rintro e w2 ⟨A, c, rfl, hown, hc1, hc2, hb2, _⟩
  have hNm : S.fs.length ≤ 9223372036854775807 := by unfold maxLen at hc2; omega
  have HX := Lib.hid (And.intro hown (And.intro hc1 (And.intro hc2 (And.intro hb2 hNm))))
  clear hown hc1 hc2 hb2 hNm
  go_wp2_with fail
  go_loopw [4, 15] (fun s4 s15 wr => ∃ j : Nat, s15 = .int .i64 (j : Int) ∧ j ≤ S.fs.length ∧ s4 = .int .i64 ((crI keep 0 (S.fs.take j) : Nat) : Int) ∧ Hid (FsM wr f m bl gl sv (crT keep S j) ∧ Ch (fun i => O i ∧ i < w.heap.size) w2 wr)) (fun _ s15 _ => S.fs.length - (intOf s15).toNat)
  case atStart => exact ⟨0, rfl, Nat.zero_le _, rfl, Lib.hid ⟨by rw [crT_zero]; exact HM.out.heap (fun i hi => HX.out.2.2.2.1.block i (HM.out.lt i hi)), Ch.refl _ _⟩⟩
  case round =>
    obtain ⟨j, rfl, hj, rfl, HR⟩ := hrel
    by_cases hlt : j < S.fs.length
    · obtain ⟨n, x, hjx⟩ : ∃ n x, S.fs[j]? = some (n, x) := ⟨_, _, List.getElem?_eq_getElem hlt⟩
      have hat := crT_at HM.out.wf keep hjx
      have hwf : x.WF := HM.out.wf.files (n, x) (List.mem_of_getElem? hjx)
      have hnm : n.length ≤ 100 := HM.out.wf.names (n, x) (List.mem_of_getElem? hjx)
      have hfl := HR.out.1.fl n x hat
      obtain ⟨A0, c0, hsv, _, _⟩ := hfl.sl.form
      rw [hsv] at hfl
      have hrow : wr.ownsRow w.heap.size 9 1 (.slice A S.fs.length c) S.fs.length (nms (S.fs.map (·.1))) := own_ch HX.out.1 HR.out.2 (fun i hi ho => by have := (HX.out.1.lt i hi).1; omega)
      obtain ⟨gN, cN, hAN, _, _, _⟩ := own_pos hrow (by omega)
      have dn : wr.cell? ⟨gN, j, none⟩ = some (.string ⟨n.toArray⟩) := by
        have := hrow.cells (g := gN) (by rw [hAN]; rfl) j (encStr n) (by simp [nms, hjx])
        rw [addLit, Nat.zero_add] at this
        exact this
      injection hAN with hA1 hA2 hA3
      have hl : ∀ q, (Instr.lookup 59 (.map (some m)) (.string ⟨n.toArray⟩) false).run Tryz.prog (wr.drewN q) = .ok (.pointer (some ⟨bl n, 0, none⟩)) (wr.drewN q) := by
        intro q
        have := (HR.out.1.heap (W' := wr.drewN q) (fun _ _ => rfl)).mp.look (s := ⟨n.toArray⟩) (by show n.toArray.size ≤ maxLen; rw [List.size_toArray]; unfold maxLen; omega)
        rw [show (⟨n.toArray⟩ : ByteArray).data.toList = n from rfl, hat] at this
        exact this
      have d4 : wr.cell? ⟨f, 4, none⟩ = some (.map (some m)) := HR.out.1.hd.cell 4
      have e0 : wr.cell? ⟨bl n, 0, none⟩ = some (.slice A0 x.W.length c0) := hfl.hd.cell 0
      have e1 : wr.cell? ⟨bl n, 1, none⟩ = some (.int .i64 (x.B.length : Int)) := hfl.hd.cell 1
      have hLm : x.W.length ≤ 65536 := by
        have h2 := use_le (List.mem_of_getElem? hjx)
        have h3 := HM.out.wf.room
        have h4 := HM.out.wf.most2
        simp only at h2
        omega
      have hxB : x.B.length ≤ 64 * x.W.length := by rw [hwf.w]; exact needN_ge _
      have HY := Lib.hid (And.intro hjx (And.intro hat (And.intro hwf (And.intro hfl (And.intro hsv (And.intro hLm hxB))))))
      clear hjx hat hwf hfl hsv hrow hnm
      generalize hI0 : crI keep 0 (S.fs.take j) = i0
      have hi0 : i0 ≤ 65536 := by rw [← hI0]; exact crI_use HM.out.wf keep j
      have HI0 := Lib.hid (And.intro hI0 hi0)
      clear hI0 hi0
      subst hA1 hA3
      have hNm := HX.out.2.2.2.2
      clear hLm hxB
      go_wp2_with fail
      go_quiet (fail)
      have HR2 := Lib.hid (show FsM (wr.drewN nq) f m bl gl sv (crT keep S j) ∧ Ch (fun i => O i ∧ i < w.heap.size) w2 (wr.drewN nq) ∧ FlM (wr.drewN nq) (bl n) (gl n) (.slice A0 x.W.length c0) x from ⟨HR.out.1.heap (fun _ _ => rfl), HR.out.2.drewN _, HY.out.2.2.2.1.heap rfl (fun _ => rfl)⟩)
      clear HR dn hl d4 e0 e1
      generalize wr.drewN nq = wo at *
      go_wp2_with fail
      go_loopw [4, 39] (fun s4 s39 wi => ∃ k : Nat, s39 = .int .i64 (k : Int) ∧ k ≤ x.W.length ∧ s4 = .int .i64 (((crN keep (i0, x) k).1 : Nat) : Int) ∧ Hid (SlQ wi (.slice A0 x.W.length c0) (gl n) x.W.length (cellK (crN keep (i0, x) k).2) ∧ Ch (fun i => 0 < x.W.length ∧ i = gl n) wo wi)) (fun _ s39 _ => x.W.length - (intOf s39).toNat)
      case atStart => exact ⟨0, rfl, Nat.zero_le _, rfl, Lib.hid ⟨HR2.out.2.2.sl, Ch.refl _ _⟩⟩
      case round =>
        obtain ⟨k, rfl, hk, rfl, HI⟩ := hrel
        by_cases hlk : k < x.W.length
        · obtain ⟨st, hst⟩ : ∃ st, st = crN keep (i0, x) k := ⟨_, rfl⟩
          have hsame : SameF x st.2 := by rw [hst]; exact same_crN (s := (i0, x)) HY.out.2.2.1 keep k
          have hnext : crN keep (i0, x) (k + 1) = crS keep k st := by rw [hst]; rfl
          have hile : st.1 ≤ 200000 := by
            have := crN_le keep (i0, x) k
            rw [← hst] at this
            have := HI0.out.2
            have := HY.out.2.2.2.2.2.1
            simp only at *
            omega
          rw [← hst]
          have HI2 := HI.out
          rw [← hst] at HI2
          obtain ⟨cc, cs, hsl, z1, z2, z3, z4, z5⟩ := HI2.1.pos (by omega)
          injection hsl with hs1 hs2 hs3
          have hCh := Lib.hid HI2.2
          have HSL := Lib.hid HI2.1
          have HN2 := Lib.hid hnext
          have HSm := Lib.hid hsame
          clear HI HI2 hst hnext hs2
          subst hs1
          have d128 : wr.cell? ⟨gl n, k * 129 + 128, none⟩ = some (.bool (st.2.W[k]?.getD false)) := by
            rw [z3.cell, z5 k hlk 128 (by omega)]; rfl
          have z5' : ∀ j, j < st.2.W.length → ∀ r, r < 129 → cs[j * 129 + r]? = some (cellK st.2 j r) := fun j hj => z5 j (by rw [← hsame.w]; exact hj)
          have HZ := Lib.hid (And.intro z1 (And.intro z2 (And.intro z3 (And.intro z4 z5'))))
          have hkm : k ≤ 65536 := by have := HY.out.2.2.2.2.2.1; omega
          clear z1 z2 z3 z4 z5 z5' hsame
          cases hW : st.2.W[k]?.getD false with
          | false =>
            rw [hW] at d128
            have HW := Lib.hid hW
            clear hW
            go_wp2_with fail
            go_roundw
            case rel =>
              refine ⟨k + 1, by rfl, by omega, ?_, ?_⟩
              · rw [HN2.out, crS_no HW.out]
              · rw [HN2.out, crS_no HW.out]; exact Lib.hid ⟨HSL.out, hCh.out⟩
            case measure => simp [intOf]; omega
          | true =>
            rw [hW] at d128
            have HW := Lib.hid hW
            clear hW
            have hD0 : 64 * k < x.B.length := by
              have h1 := HY.out.2.2.1.w
              rw [h1] at hlk
              unfold needN at hlk
              omega
            obtain ⟨D, hD⟩ : ∃ D, D = x.B.length - 64 * k := ⟨_, rfl⟩
            obtain ⟨R0, hR⟩ : ∃ R0, R0 = min D 64 := ⟨_, rfl⟩
            have HR0 := Lib.hid (show R0 = min (st.2.B.length - 64 * k) 64 by rw [HSm.out.b, hR, hD])
            have hR64 : R0 ≤ 64 := by omega
            have hxm : x.B.length < 5000000 := by have := HY.out.2.2.2.2.2.2; have := HY.out.2.2.2.2.2.1; omega
            have e2 : (x.B.length : Int) - (k : Int) * 64 = (D : Int) := by omega
            have em := fun ats ty => run_min ats ty (D : Int) 64 (R0 : Int) (by rw [hR]; split <;> omega)
            have e3 : min (D : Int) 64 = (R0 : Int) := by omega
            have hfit : k * 129 + 129 ≤ cs.size := by have := HZ.out.1; have := HZ.out.2.2.2.1; omega
            have HY3 := Lib.hid (show x.W.length ≤ c0 ∧ c0 ≤ maxLen from by rw [hs3]; exact ⟨HZ.out.1, HZ.out.2.1⟩)
            have hcc : c0 * 129 ≤ cs.size := by rw [hs3]; exact HZ.out.2.2.2.1
            have hbit := bit_keep keep st.1
            have HRR := Lib.hid (And.intro hD hR)
            clear hD hR
            cases hkb : keepB keep st.1 with
            | true =>
              rw [hkb] at hbit
              replace hbit : bits .and .u64 ((keep.toNat : Int) / 2 ^ (st.1 % 64)) 1 = 1 := hbit
              have HBk1 := Lib.hid (show Bk wr (gl n) 92 (csA cs st.2 true k) from by rw [csA_true]; exact HZ.out.2.2.1)
              have HCh1 := Lib.hid (show Ch (fun i => 0 < x.W.length ∧ i = gl n) wo wr from hCh.out)
              clear hCh
              go_upto_region 13 with (first
                | (with_reducible refine at_slice ?_; (apply slice_sec2 (g := gl n) (o := k * 129) (kl := .i64) (xl := (R0 : Int)) R0); (case hr => omega); (case hs => kernel_rfl); (case hl => kernel_rfl); (case el => rfl); (case hw => kernel_rfl); intro A6 hA6; replace hA6 := Lib.hid hA6; try go_frame)
                | (with_reducible refine at_clear ?_; (apply cl_any (o := k * 129 + R0) (n := 64 - R0) (c := 64 - R0) (A := A6) HBk1.out); (case hfit => rw [csA_size]; have := hfit; omega); (case hA => intro h0; exact hA6.out (by omega)); (case hx => kernel_rfl); (case hw => kernel_rfl); try go_frame))
              have HBk2 := Lib.hid (show Bk (World.setCells wr (gl n) (k * 129 + R0) (List.replicate (64 - R0) (.int .u8 0))) (gl n) 92 (csB cs st.2 true k R0) from HBk1.out.cells _ _)
              have HCh2 := Lib.hid (show Ch (fun i => 0 < x.W.length ∧ i = gl n) wo (World.setCells wr (gl n) (k * 129 + R0) (List.replicate (64 - R0) (.int .u8 0))) from HCh1.out.cells (.inl ⟨by omega, rfl⟩) _ _)
              generalize World.setCells wr (gl n) (k * 129 + R0) (List.replicate (64 - R0) (.int .u8 0)) = w6 at *
              clear HBk1 HCh1 d128
              have HRg := Lib.hid (show w6.rangeAt (gl n) (k * 129) (bys (nowL st.2 true k)) from HBk2.out.range (fun r hr => by
                rw [bys_len, nowL_len] at hr
                rw [csB_now HZ.out.2.2.2.2 (by have := HSm.out.w; omega) (by have := HSm.out.w; have := HZ.out.1; have := HZ.out.2.2.2.1; omega) HR0.out hr, bys_nowL hr]))
              have HTh := Lib.hid (show w6.there (gl n) (k * 129 + 64) 64 from HBk2.out.there (by rw [csB_size]; omega))
              have HBk3 := Lib.hid (show Bk (w6.setCells (gl n) (k * 129 + 64) (bys (nowL st.2 true k))) (gl n) 92 (csC cs st.2 true k R0) from HBk2.out.cells _ _)
              obtain ⟨v9, k9⟩ := Option.isSome_iff_exists.1 (HBk3.out.isSome (i := k * 129 + 128) (by rw [csC_size]; omega))
              have k9f := HBk3.out.free (k * 129 + 128)
              have HBk4 := Lib.hid (show Bk ((w6.setCells (gl n) (k * 129 + 64) (bys (nowL st.2 true k))).setCell ⟨gl n, k * 129 + 128, none⟩ (.bool false)) (gl n) 92 (csD cs st.2 true k R0) from HBk3.out.set _ _)
              have HCh4 := Lib.hid (show Ch (fun i => 0 < x.W.length ∧ i = gl n) wo ((w6.setCells (gl n) (k * 129 + 64) (bys (nowL st.2 true k))).setCell ⟨gl n, k * 129 + 128, none⟩ (.bool false)) from (HCh2.out.cells (b := gl n) (.inl ⟨by omega, rfl⟩) _ _).set (p := ⟨gl n, k * 129 + 128, none⟩) (.inl ⟨by omega, rfl⟩) _)
              go_wp2_with (first
                | (with_reducible refine at_load 90 ?_; (apply ld_sec (g := gl n) (o := k * 129) (l := nowL st.2 true k)); (case hl => exact nowL_len _ _ _); (case hc => exact HRg.out); (case hx => kernel_rfl); try go_frame)
                | (with_reducible refine at_store 90 ?_; (apply st_sec (g := gl n) (o := k * 129 + 64) (l := nowL st.2 true k)); (case hl => exact nowL_len _ _ _); (case ht => exact HTh.out); (case hx => kernel_rfl); (case hy => kernel_rfl); try go_frame))
              go_roundw
              case rel =>
                have hsl := Lib.hid (show SlQ ((w6.setCells (gl n) (k * 129 + 64) (bys (nowL st.2 true k))).setCell ⟨gl n, k * 129 + 128, none⟩ (.bool false)) (.slice (some ⟨gl n, 0, none⟩) x.W.length c0) (gl n) x.W.length (cellK (crS keep k st).2) from by
                  have e6 := HZ.out
                  have hw2 := HSm.out.w
                  refine ⟨_, _, rfl, HY3.out.1, HY3.out.2, .inr ⟨by omega, rfl, _, HBk4.out, by rw [csD_size]; exact hcc, fun j hj r hr => ?_⟩⟩
                  rw [crS_yes HW.out, hkb, csD_all e6.2.2.2.2 (by omega) (by omega) HSm.out.wf HR0.out j (by omega) r hr])
                refine ⟨k + 1, by rfl, by omega, ?_, ?_⟩
                · rw [HN2.out, crS_yes HW.out]; first | done | rfl
                · rw [HN2.out]; exact Lib.hid ⟨hsl.out, HCh4.out⟩
              case measure => simp [intOf]; omega
            | false =>
              rw [hkb] at hbit
              replace hbit : bits .and .u64 ((keep.toNat : Int) / 2 ^ (st.1 % 64)) 1 = 0 := hbit
              have HRo := Lib.hid (show wr.rangeAt (gl n) (k * 129 + 64) (bys (oldL st.2 k)) from HZ.out.2.2.1.range (fun r hr => by
                rw [bys_len, oldL_len] at hr
                rw [Nat.add_assoc, cs_old HZ.out.2.2.2.2 (by have := HSm.out.w; omega) r hr]))
              have HTo := Lib.hid (show wr.there (gl n) (k * 129) 64 from HZ.out.2.2.1.there (by omega))
              go_upto_region 12 with (first
                | (with_reducible refine at_load 90 ?_; (apply ld_sec (g := gl n) (o := k * 129 + 64) (l := oldL st.2 k)); (case hl => exact oldL_len _ _); (case hc => exact HRo.out); (case hx => kernel_rfl); try go_frame)
                | (with_reducible refine at_store 90 ?_; (apply st_sec (g := gl n) (o := k * 129) (l := oldL st.2 k)); (case hl => exact oldL_len _ _); (case ht => exact HTo.out); (case hx => kernel_rfl); (case hy => kernel_rfl); try go_frame))
              have HBk1 := Lib.hid (show Bk (wr.setCells (gl n) (k * 129) (bys (oldL st.2 k))) (gl n) 92 (csA cs st.2 false k) from bk_old HZ.out.2.2.1)
              have HCh1 := Lib.hid (show Ch (fun i => 0 < x.W.length ∧ i = gl n) wo (wr.setCells (gl n) (k * 129) (bys (oldL st.2 k))) from ch_old hCh.out ⟨by omega, rfl⟩)
              generalize wr.setCells (gl n) (k * 129) (bys (oldL st.2 k)) = w5 at *
              clear hCh
              go_upto_region 13 with (first
                | (with_reducible refine at_slice ?_; (apply slice_sec2 (g := gl n) (o := k * 129) (kl := .i64) (xl := (R0 : Int)) R0); (case hr => omega); (case hs => kernel_rfl); (case hl => kernel_rfl); (case el => rfl); (case hw => kernel_rfl); intro A6 hA6; replace hA6 := Lib.hid hA6; try go_frame)
                | (with_reducible refine at_clear ?_; (apply cl_any (o := k * 129 + R0) (n := 64 - R0) (c := 64 - R0) (A := A6) HBk1.out); (case hfit => rw [csA_size]; have := hfit; omega); (case hA => intro h0; exact hA6.out (by omega)); (case hx => kernel_rfl); (case hw => kernel_rfl); try go_frame))
              have HBk2 := Lib.hid (show Bk (World.setCells w5 (gl n) (k * 129 + R0) (List.replicate (64 - R0) (.int .u8 0))) (gl n) 92 (csB cs st.2 false k R0) from HBk1.out.cells _ _)
              have HCh2 := Lib.hid (show Ch (fun i => 0 < x.W.length ∧ i = gl n) wo (World.setCells w5 (gl n) (k * 129 + R0) (List.replicate (64 - R0) (.int .u8 0))) from HCh1.out.cells (.inl ⟨by omega, rfl⟩) _ _)
              generalize World.setCells w5 (gl n) (k * 129 + R0) (List.replicate (64 - R0) (.int .u8 0)) = w6 at *
              clear HBk1 HCh1 d128
              have HRg := Lib.hid (show w6.rangeAt (gl n) (k * 129) (bys (nowL st.2 false k)) from HBk2.out.range (fun r hr => by
                rw [bys_len, nowL_len] at hr
                rw [csB_now HZ.out.2.2.2.2 (by have := HSm.out.w; omega) (by have := HSm.out.w; have := HZ.out.1; have := HZ.out.2.2.2.1; omega) HR0.out hr, bys_nowL hr]))
              have HTh := Lib.hid (show w6.there (gl n) (k * 129 + 64) 64 from HBk2.out.there (by rw [csB_size]; omega))
              have HBk3 := Lib.hid (show Bk (w6.setCells (gl n) (k * 129 + 64) (bys (nowL st.2 false k))) (gl n) 92 (csC cs st.2 false k R0) from HBk2.out.cells _ _)
              obtain ⟨v9, k9⟩ := Option.isSome_iff_exists.1 (HBk3.out.isSome (i := k * 129 + 128) (by rw [csC_size]; omega))
              have k9f := HBk3.out.free (k * 129 + 128)
              have HBk4 := Lib.hid (show Bk ((w6.setCells (gl n) (k * 129 + 64) (bys (nowL st.2 false k))).setCell ⟨gl n, k * 129 + 128, none⟩ (.bool false)) (gl n) 92 (csD cs st.2 false k R0) from HBk3.out.set _ _)
              have HCh4 := Lib.hid (show Ch (fun i => 0 < x.W.length ∧ i = gl n) wo ((w6.setCells (gl n) (k * 129 + 64) (bys (nowL st.2 false k))).setCell ⟨gl n, k * 129 + 128, none⟩ (.bool false)) from (HCh2.out.cells (b := gl n) (.inl ⟨by omega, rfl⟩) _ _).set (p := ⟨gl n, k * 129 + 128, none⟩) (.inl ⟨by omega, rfl⟩) _)
              go_wp2_with (first
                | (with_reducible refine at_load 90 ?_; (apply ld_sec (g := gl n) (o := k * 129) (l := nowL st.2 false k)); (case hl => exact nowL_len _ _ _); (case hc => exact HRg.out); (case hx => kernel_rfl); try go_frame)
                | (with_reducible refine at_store 90 ?_; (apply st_sec (g := gl n) (o := k * 129 + 64) (l := nowL st.2 false k)); (case hl => exact nowL_len _ _ _); (case ht => exact HTh.out); (case hx => kernel_rfl); (case hy => kernel_rfl); try go_frame))
              go_roundw
              case rel =>
                have hsl := Lib.hid (show SlQ ((w6.setCells (gl n) (k * 129 + 64) (bys (nowL st.2 false k))).setCell ⟨gl n, k * 129 + 128, none⟩ (.bool false)) (.slice (some ⟨gl n, 0, none⟩) x.W.length c0) (gl n) x.W.length (cellK (crS keep k st).2) from by
                  have e6 := HZ.out
                  have hw2 := HSm.out.w
                  refine ⟨_, _, rfl, HY3.out.1, HY3.out.2, .inr ⟨by omega, rfl, _, HBk4.out, by rw [csD_size]; exact hcc, fun j hj r hr => ?_⟩⟩
                  rw [crS_yes HW.out, hkb, csD_all e6.2.2.2.2 (by omega) (by omega) HSm.out.wf HR0.out j (by omega) r hr])
                refine ⟨k + 1, by rfl, by omega, ?_, ?_⟩
                · rw [HN2.out, crS_yes HW.out]; first | done | rfl
                · rw [HN2.out]; exact Lib.hid ⟨hsl.out, HCh4.out⟩
              case measure => simp [intOf]; omega
        · have hkL : k = x.W.length := by omega
          subst hkL
          go_wp2_with fail
          go_roundw
          case rel =>
            obtain ⟨hjx, hat, hwf, _, hsv, hLm, hxB⟩ := id HY.out
            have hcf : crF keep i0 x = crN keep (i0, x) x.W.length := rfl
            have hsm := crF_same hwf keep i0
            have hS0 : findP S n = some x := find_mem HM.out.wf (p := (n, x)) (List.mem_of_getElem? hjx)
            have hgO : 0 < x.W.length → O (gl n) ∧ gl n < w.heap.size := fun h0 => ⟨HO.out _ (.inr (.inr ⟨n, x, hS0, .inr ⟨h0, rfl⟩⟩)), HM.out.lt _ (.inr (.inr ⟨n, x, hS0, .inr ⟨h0, rfl⟩⟩))⟩
            have hgf : 0 < x.W.length → gl n ≠ f := (HR2.out.1.nef hat).2.1
            have hgb : 0 < x.W.length → gl n ≠ bl n := fun h0 => HR2.out.2.2.ne h0
            have hset := HR2.out.1.setF (W' := wr) (S' := crT keep S (j + 1)) (g' := gl n) (sv' := sv n) (y := (crF keep i0 x).2) hat
              ⟨by rw [hsm.b, hsm.s]; exact (HR2.out.1.fl n x hat).hd.ch HI.out.2 (by rintro ⟨h0, e⟩; exact hgb h0 e.symm), by rw [hsm.w, hsv]; exact HI.out.1⟩
              (HR2.out.1.hd.ch HI.out.2 (by rintro ⟨h0, e⟩; exact hgf h0 e.symm))
              (fun i hi n1 n2 n3 => HI.out.2.block i hi (by rintro ⟨h0, e⟩; exact n3 h0 e))
              (fun h0 => .inl ⟨by rw [hsm.w] at h0; exact h0, rfl⟩)
              (fun s => by rw [crT_find HM.out.wf keep hjx, HI0.out.1])
              (Nat.le_refl _) (crT_wf HM.out.wf keep (j + 1))
            have eg : (fun s => if s = n then gl n else gl s) = gl := by funext s; by_cases e : s = n; rw [if_pos e, e]; rw [if_neg e]
            have ev : (fun s => if s = n then sv n else sv s) = sv := by funext s; by_cases e : s = n; rw [if_pos e, e]; rw [if_neg e]
            rw [eg, ev] at hset
            have hR4 : crI keep 0 (S.fs.take (j + 1)) = (crN keep (i0, x) x.W.length).1 := by rw [take_step hjx, crI_app, HI0.out.1, hcf]
            have hR5 := Lib.hid (show FsM wr f m bl gl sv (crT keep S (j + 1)) ∧ Ch (fun i => O i ∧ i < w.heap.size) w2 wr from ⟨hset.1, HR2.out.2.1.trans HI.out.2 (fun i hi => by
              obtain ⟨h0, rfl⟩ := hi
              exact .inl (hgO h0))⟩)
            clear hset
            first
              | exact ⟨j + 1, rfl, by omega, by rw [hR4], hR5⟩
              | ((repeat apply Exists.intro); exact ⟨⟨j + 1, rfl, by omega, by rw [hR4], hR5⟩, rfl⟩)
          case measure => simp [intOf]; omega
    · have hjn : j = S.fs.length := by omega
      subst hjn
      have hf := HR.out.1
      have g2 := hf.hd.free 2
      have g3 := hf.hd.free 3
      have c2 := hf.hd.cell 2
      have c3 := hf.hd.cell 3
      go_wp2_with fail
      go_end0
      have hfO : O f := HO.out f (.inl rfl)
      refine ⟨rfl, ⟨m, bl, gl, sv, hf.upd (S' := crashP S keep) ((hf.hd.set 2 (.int .i64 (-1))).set 3 (.bool false)) (fun i _ hne => (Below.heap_setCell _ ⟨f, 3, none⟩ _ i hne).trans (Below.heap_setCell _ ⟨f, 2, none⟩ _ i hne)) (by rw [crT_all]; rfl) (Nat.le_refl _) (crashP_wf HM.out.wf keep), fun i hi => ?_⟩, ?_⟩
      · refine HO.out i ?_
        rcases hi with rfl | rfl | ⟨n, z, hz, hi⟩
        · exact .inl rfl
        · exact .inr (.inl rfl)
        · have hz2 : findP (crT keep S S.fs.length) n = some z := by rw [crT_all]; exact hz
          obtain ⟨x, hx, hsm⟩ := crT_inv HM.out.wf keep S.fs.length hz2
          rw [hsm.w] at hi
          exact .inr (.inr ⟨n, x, hx, hi⟩)
      · exact (((Ch.of_below HX.out.2.2.2.1 (Nat.le_refl _)).trans HR.out.2 (fun i hi => .inl hi.1)).set (p := ⟨f, 2, none⟩) (.inl hfO) _).set (p := ⟨f, 3, none⟩) (.inl hfO) _
end Go.Proofs.YtoadamkmabkldaaGreatDoor
/- Contracts of package vfs: Sync. -/
namespace Go.Proofs.YtoadamkmabkldaaGreatDoor
open Go.RowKit
attribute [local go_sem ↓] Go.wp_at_zero Go.wp_at_succ

theorem same_syncN {x : FlP} (h : x.WF) : ∀ k, SameF x (syncN x k)
  | 0 => SameF.refl h
  | k + 1 => (same_syncN h k).trans (same_last (same_syncN h k).wf k)
theorem keptF_wf {S : FsP} {n : List UInt8} {x y : FlP} (h : S.WF) (hx : findP S n = some x) (hy : SameF x y) : (keptF S n y).WF := by
  have hb := burntP_wf h
  obtain ⟨e1, e2, e3, e4, _⟩ := burntP_parts S
  unfold keptF
  refine ⟨hb.most1, hb.most2, hb.fuse1, hb.fuse2, fun p hp => ?_, set_sorted h.order, ?_, fun p hp => ?_⟩
  · rcases set_mem hp with rfl | hp
    · exact hy.wf
    · exact h.files p hp
  · have := use_set (x := y) h.order hx
    have := h.room
    have := hy.w
    simp only
    rw [e1]; omega
  · rcases set_mem hp with rfl | hp
    · exact h.names (n, x) (lookup_mem hx)
    · exact h.names p hp
theorem find_kept {S : FsP} {n : List UInt8} {x : FlP} (y : FlP) (hx : findP S n = some x) (s : List UInt8) : findP (keptF S n y) s = if s = n then some y else findP S s := by
  have hx' : S.fs.lookup n = some x := hx
  have := lookup_set (n := n) (x := y) (l := S.fs) s
  rw [hx'] at this
  exact this
/-- A sector that lasts as it is, cell by cell. -/
def csE (cs : Array Value) (x : FlP) (k : Nat) : Array Value := (putA cs (k * 129 + 64) (bys (nowL x true k))).setIfInBounds (k * 129 + 128) (.bool false)
theorem csE_all {cs : Array Value} {x : FlP} {k : Nat} (hc : ∀ j, j < x.W.length → ∀ r, r < 129 → cs[j * 129 + r]? = some (cellK x j r)) (hk : k < x.W.length) (hsz : x.W.length * 129 ≤ cs.size) (hw : x.WF) (j : Nat) (hj : j < x.W.length) (r : Nat) (hr : r < 129) :
    (csE cs x k)[j * 129 + r]? = some (cellK (lastP x k) j r) := by
  have := cell_last hw true hk j r hj hr
  rw [if_pos rfl] at this
  rw [this]
  unfold csE
  by_cases hjk : j = k
  · subst hjk
    rw [if_pos rfl]
    by_cases h1 : r < 64
    · rw [if_pos h1, Array.getElem?_setIfInBounds_ne (by omega), putA_out (by omega), hc j hj r hr, lastV_kept]
      unfold cellK
      rw [if_pos h1]
    · by_cases h2 : r < 128
      · rw [if_neg h1, if_pos h2, Array.getElem?_setIfInBounds_ne (by omega), putA_in (by omega) (by rw [bys_len, nowL_len]; omega) (by rw [bys_len, nowL_len]; omega), show j * 129 + r - (j * 129 + 64) = r - 64 by omega, bys_nowL (by omega)]
      · obtain rfl : r = 128 := by omega
        rw [if_neg h1, if_neg h2, Array.getElem?_setIfInBounds_self, putA_size, if_pos (by omega)]
  · rw [if_neg hjk, Array.getElem?_setIfInBounds_ne (by omega), putA_out (by rw [bys_len, nowL_len]; omega), hc j hj r hr]
set_option maxHeartbeats 4000000 in
set_option maxRecDepth 100000 in
theorem sync_any (f : Nat) (O : Nat → Prop) (S : FsP) (s : ByteArray) (w : World) (h : FsA w O f S) (hs : s.size ≤ 1000000) (hst : S.stamp ≤ 1000000) :
    Calls Tryz.prog 75 #[.pointer (some ⟨f, 0, none⟩), .string s] w fun e w' => e = .returned (.int .i64 ((syncF S s.data.toList).1 : Int)) ∧ FsA w' O f (syncF S s.data.toList).2 ∧ Ch O w w' := by
  have hsm : s.size ≤ maxLen := Nat.le_trans hs (by unfold maxLen; decide)
  have H := Lib.hid h
  obtain ⟨m, bl, gl, sv, hM, hO⟩ := h
  have HM := Lib.hid hM
  have HO := Lib.hid hO
  have HS := Lib.hid (And.intro hsm hst)
  unfold syncF
  cases hd : S.down with
  | true =>
    have HA := Lib.hid (at_down f m bl gl sv S s w hM hsm hd)
    clear hM hO hd hs hsm hst
    go_enter Tryz.func75, Tryz.ntmps75
    go_wp2_with fail
    with_reducible refine HA.out.mono ?_
    rintro e w1 ⟨rfl, hw1⟩; subst hw1
    go_wp2_with fail
    go_ret
    exact ⟨rfl, H.out, Ch.refl _ _⟩
  | false =>
    cases hf : findP S s.data.toList with
    | none =>
      have HA := Lib.hid (at_none f m bl gl sv S s w hM hsm hd hf)
      clear hM hO hd hs hsm hst hf
      go_enter Tryz.func75, Tryz.ntmps75
      go_wp2_with fail
      with_reducible refine HA.out.mono ?_
      rintro e w1 ⟨rfl, hw1⟩; subst hw1
      go_wp2_with fail
      go_ret
      exact ⟨rfl, H.out, Ch.refl _ _⟩
    | some x =>
      have HA := Lib.hid (at_some f m bl gl sv S s w hM hsm hd hf)
      have HF := Lib.hid (And.intro hf hd)
      have HB := Lib.hid (fun W h => burn_fs f m bl gl sv S W h)
      cases hb : burnP S with
      | false =>
        rw [hb] at HB
        clear hM hO hd hs hsm hst hf hb
        go_enter Tryz.func75, Tryz.ntmps75
        go_wp2_with fail
        with_reducible refine HA.out.mono ?_
        rintro e w1 ⟨rfl, hw1⟩; subst hw1
        go_wp2_with fail
        with_reducible refine (HB.out w1 HM.out).mono ?_
        rintro e w3 ⟨rfl, h3, k3⟩
        have H3 := Lib.hid h3
        have K3 := Lib.hid k3
        clear h3 k3
        go_wp2_with fail
        go_ret
        obtain ⟨e1, e2, e3, e4, e5⟩ := burntP_parts S
        exact ⟨rfl, ⟨m, bl, gl, sv, H3.out, fun i hi => HO.out i ((FsO_fs e3 i).1 hi)⟩, K3.out.mono (fun i hi => hi ▸ HO.out f (.inl rfl))⟩
      | true =>
        rw [hb] at HB
        have hxw : x.WF := hM.wf.files _ (lookup_mem hf)
        have hLm : x.W.length ≤ 65536 := by
          have h2 := use_le (lookup_mem hf)
          have h3 := hM.wf.room
          have h4 := hM.wf.most2
          simp only at h2
          omega
        clear hM hO hd hs hsm hst hf hb
        go_enter Tryz.func75, Tryz.ntmps75
        go_wp2_with fail
        with_reducible refine HA.out.mono ?_
        rintro e w1 ⟨rfl, hw1⟩; subst hw1
        go_wp2_with fail
        with_reducible refine (HB.out w1 HM.out).mono ?_
        rintro e w3 ⟨rfl, h3, k3⟩
        have H3 := Lib.hid h3
        have K3 := Lib.hid k3
        obtain ⟨e1, e2, e3, e4, e5⟩ := burntP_parts S
        have hf3 : findP (burntP S) s.data.toList = some x := by have := HF.out.1; unfold findP at this ⊢; rwa [e3]
        have hfl := h3.fl _ x hf3
        obtain ⟨A0, c0, hsv, hc1, hc2⟩ := hfl.sl.form
        have HF3 := Lib.hid (And.intro hf3 (And.intro hfl (And.intro hsv (And.intro hc1 (And.intro hc2 hxw)))))
        have HBR := Lib.hid (And.intro e1 (And.intro e2 e3))
        rw [hsv] at hfl
        generalize hbl : bl s.data.toList = b at *
        generalize hgl : gl s.data.toList = g at *
        have Hbg := Lib.hid (And.intro hbl hgl)
        have d0 : w3.cell? ⟨b, 0, none⟩ = some (.slice A0 x.W.length c0) := hfl.hd.cell 0
        have HI0 := Lib.hid (show SlQ w3 (.slice A0 x.W.length c0) g x.W.length (cellK (syncN x 0)) ∧ w3.cell? ⟨b, 0, none⟩ = some (.slice A0 x.W.length c0) ∧ Ch (fun i => 0 < x.W.length ∧ i = g) w3 w3 from ⟨hfl.sl, d0, Ch.refl _ _⟩)
        have Hng := Lib.hid (show 0 < x.W.length → g ≠ b from fun h0 => hfl.ne h0)
        clear h3 k3 hf3 hfl hsv hc1 hc2 hbl hgl e1 e2 e3 e4 e5 hxw
        go_wp2_with fail
        go_loopw [27] (fun s1 wr => ∃ k : Nat, s1 = .int .i64 (k : Int) ∧ k ≤ x.W.length ∧ Hid (SlQ wr (.slice A0 x.W.length c0) g x.W.length (cellK (syncN x k)) ∧ wr.cell? ⟨b, 0, none⟩ = some (.slice A0 x.W.length c0) ∧ Ch (fun i => 0 < x.W.length ∧ i = g) w3 wr)) (fun s1 _ => x.W.length - (intOf s1).toNat)
        case atStart => exact ⟨0, rfl, Nat.zero_le _, HI0⟩
        case round =>
          obtain ⟨k, rfl, hk, HI⟩ := hrel
          by_cases hlk : k < x.W.length
          · obtain ⟨y, hy⟩ : ∃ y, y = syncN x k := ⟨_, rfl⟩
            have hsame : SameF x y := by rw [hy]; exact same_syncN HF3.out.2.2.2.2.2 k
            have hnext : syncN x (k + 1) = lastP y k := by rw [hy]; rfl
            have HI2 := HI.out
            rw [← hy] at HI2
            obtain ⟨cc, cs, hsl, z1, z2, z3, z4, z5⟩ := HI2.1.pos (by omega)
            injection hsl with hs1 hs2 hs3
            have hCh := Lib.hid HI2.2.2
            have HN2 := Lib.hid hnext
            have HSm := Lib.hid hsame
            have d1 := HI2.2.1
            clear HI HI2 hy hnext hs2
            subst hs1 hs3
            have z5' : ∀ j, j < y.W.length → ∀ r, r < 129 → cs[j * 129 + r]? = some (cellK y j r) := fun j hj => z5 j (by rw [← hsame.w]; exact hj)
            obtain ⟨l0, hl0⟩ : ∃ l0, l0 = nowL y true k := ⟨_, rfl⟩
            have hlen : l0.length = 64 := by rw [hl0]; exact nowL_len _ _ _
            have HRg : wr.rangeAt g (k * 129) (bys l0) := z3.range (fun r hr => by
              rw [hl0, bys_len, nowL_len] at hr
              rw [hl0, bys_nowL hr, z5 k hlk r (by omega), lastV_kept]
              unfold cellK
              rw [if_pos hr])
            have hfit : k * 129 + 129 ≤ cs.size := by omega
            have HTh := Lib.hid (show wr.drew.there g (k * 129 + 64) 64 from (z3.drewN 1).there (by omega))
            have HS0 := Lib.hid (show wr.drew.cell? ⟨b, 0, none⟩ = some (.slice (some ⟨g, 0, none⟩) x.W.length c0) ∧ wr.drew.rangeAt g (k * 129) (bys l0) ∧ wr.drew.there g (k * 129 + 64) 64 from ⟨d1, HRg, HTh.out⟩)
            have hgb := Hng.out (by omega)
            have hB2 : Bk (wr.drew.setCells g (k * 129 + 64) (bys l0)) g 92 (putA cs (k * 129 + 64) (bys l0)) := (z3.drewN 1).cells _ _
            have hq2 : (wr.drew.setCells g (k * 129 + 64) (bys l0)).rangeAt g (k * 129) (bys l0) := hB2.range (fun r hr => by
              rw [bys_len, hlen] at hr
              rw [putA_out (by omega)]
              have := HRg r _ (List.getElem?_eq_getElem (by rw [bys_len, hlen]; exact hr))
              rw [z3.cell] at this
              rw [this]; exact (List.getElem?_eq_getElem _).symm)
            have hq1 : (wr.drew.setCells g (k * 129 + 64) (bys l0)).cell? ⟨b, 0, none⟩ = some (.slice (some ⟨g, 0, none⟩) x.W.length c0) := (World.cell?_of_block (w := wr.drew) (heap_setCells g _ _ _ b (Ne.symm hgb))).trans d1
            have HS1 := Lib.hid (show (wr.drew.setCells g (k * 129 + 64) (bys l0)).cell? ⟨b, 0, none⟩ = some (.slice (some ⟨g, 0, none⟩) x.W.length c0) ∧ (wr.drew.setCells g (k * 129 + 64) (bys l0)).rangeAt g (k * 129) (bys l0) ∧ (wr.drew.setCells g (k * 129 + 64) (bys l0)).there g (k * 129 + 64) 64 from ⟨hq1, hq2, hB2.there (by rw [putA_size]; omega)⟩)
            have HB3 := Lib.hid (hB2.set (k * 129 + 128) (.bool false))
            have HS2 := Lib.hid (show ((wr.drew.setCells g (k * 129 + 64) (bys l0)).setCell ⟨g, k * 129 + 128, none⟩ (.bool false)).cell? ⟨b, 0, none⟩ = some (.slice (some ⟨g, 0, none⟩) x.W.length c0) ∧ ((wr.drew.setCells g (k * 129 + 64) (bys l0)).setCell ⟨g, k * 129 + 128, none⟩ (.bool false)).rangeAt g (k * 129) (bys l0) ∧ ((wr.drew.setCells g (k * 129 + 64) (bys l0)).setCell ⟨g, k * 129 + 128, none⟩ (.bool false)).there g (k * 129 + 64) 64 from ⟨(World.cell?_of_block (w := wr.drew.setCells g (k * 129 + 64) (bys l0)) (Below.heap_setCell _ _ _ b (Ne.symm hgb))).trans hq1, HB3.out.range (fun r hr => by
              rw [bys_len, hlen] at hr
              rw [Array.getElem?_setIfInBounds_ne (by omega)]
              have := hq2 r _ (List.getElem?_eq_getElem (by rw [bys_len, hlen]; exact hr))
              rw [hB2.cell] at this
              rw [this]; exact (List.getElem?_eq_getElem _).symm), HB3.out.there (by rw [Array.size_setIfInBounds, putA_size]; omega)⟩)
            obtain ⟨v9, k9⟩ := Option.isSome_iff_exists.1 (hB2.isSome (i := k * 129 + 128) (by rw [putA_size]; omega))
            have k9f := hB2.free (k * 129 + 128)
            have HC3 := Lib.hid (show Ch (fun i => 0 < x.W.length ∧ i = g) w3 ((wr.drew.setCells g (k * 129 + 64) (bys l0)).setCell ⟨g, k * 129 + 128, none⟩ (.bool false)) from ((hCh.out.drewN 1).cells (b := g) (.inl ⟨by omega, rfl⟩) _ _).set (p := ⟨g, k * 129 + 128, none⟩) (.inl ⟨by omega, rfl⟩) _)
            have Hl0 := Lib.hid hlen
            have HZ := Lib.hid (And.intro z1 (And.intro z2 (And.intro z4 (And.intro z5' (And.intro hfit hl0)))))
            clear z1 z2 z3 z4 z5 z5' hlen hl0 HRg hgb hB2 hq2 hq1 hsame hfit
            have hkm : k ≤ 65536 := by omega
            go_wp2_with fail
            have hu0 := secU'
            have hi0 : (Tryz.prog.info? 90).map (·.size) = some (bys l0).length := by rw [secI, bys_len, Hl0.out]
            have hl1 : (bys l0).length = 64 := by rw [bys_len, Hl0.out]
            have ho0 := bys_one l0
            go_region_held3 (fun w' => w'.cell? ⟨b, 0, none⟩ = some (.slice (some ⟨g, 0, none⟩) x.W.length c0) ∧ w'.rangeAt g (k * 129) (bys l0) ∧ w'.there g (k * 129 + 64) 64)
              (first | exact HS0.out | exact HS1.out | exact HS2.out) (fail)
            go_wp2_with fail
            go_roundw
            case rel =>
              have hw2 := HSm.out.w
              obtain ⟨z1, z2, z4, z5', hfit, hl0⟩ := id HZ.out
              refine ⟨k + 1, by rfl, by omega, ?_⟩
              rw [HN2.out]
              refine Lib.hid ⟨⟨_, _, rfl, z1, z2, .inr ⟨by omega, rfl, _, HB3.out, by rw [Array.size_setIfInBounds, putA_size]; exact z4, fun j hj r hr => ?_⟩⟩, HS2.out.1, HC3.out⟩
              rw [hl0]
              exact csE_all z5' (by omega) (by omega) HSm.out.wf j (by omega) r hr
            case measure => simp [intOf]; omega
          · have hkL : k = x.W.length := by omega
            subst hkL
            go_wp2_with fail
            go_ret
            obtain ⟨hbl, hgl⟩ := Hbg.out
            subst hbl hgl
            obtain ⟨hf3, hfl, hsv, hc1, hc2, hxw⟩ := HF3.out
            obtain ⟨e1, e2, e3⟩ := HBR.out
            have hsm : SameF x (syncP x) := same_syncN hxw x.W.length
            have hOf := HO.out f (.inl rfl)
            have hOg : 0 < x.W.length → O (gl s.data.toList) := fun h0 => HO.out _ (.inr (.inr ⟨_, x, HF.out.1, .inr ⟨h0, rfl⟩⟩))
            have hset := H3.out.setF (W' := wr) (S' := keptF S s.data.toList (syncP x)) (g' := gl s.data.toList) (sv' := sv s.data.toList) (y := syncP x) hf3
              ⟨by rw [hsm.b, hsm.s]; exact hfl.hd.ch HI.out.2.2 (by rintro ⟨h0, e⟩; exact Hng.out h0 e.symm), by rw [hsm.w, hsv]; exact HI.out.1⟩
              (H3.out.hd.ch HI.out.2.2 (by rintro ⟨h0, e⟩; exact (H3.out.nef hf3).2.1 h0 e.symm))
              (fun i hi n1 n2 n3 => HI.out.2.2.block i hi (by rintro ⟨h0, e⟩; exact n3 h0 e))
              (fun h0 => .inl ⟨by rw [hsm.w] at h0; exact h0, rfl⟩)
              (fun u => by
                rw [find_kept (syncP x) HF.out.1 u]
                by_cases e : u = s.data.toList
                · rw [if_pos e, if_pos e]
                · rw [if_neg e, if_neg e]; unfold findP; rw [e3])
              (Nat.le_refl _) (keptF_wf HM.out.wf HF.out.1 hsm)
            refine ⟨rfl, ⟨m, bl, _, _, hset.1, fun i hi => ?_⟩, ?_⟩
            · rcases hi with rfl | rfl | ⟨n, z, hz, hi⟩
              · exact hOf
              · exact HO.out _ (.inr (.inl rfl))
              · rw [find_kept (syncP x) HF.out.1 n] at hz
                by_cases e : n = s.data.toList
                · subst e
                  rw [if_pos rfl] at hz
                  obtain rfl := Option.some.inj hz
                  simp only [if_pos] at hi
                  rw [hsm.w] at hi
                  exact HO.out i (.inr (.inr ⟨_, x, HF.out.1, hi⟩))
                · rw [if_neg e] at hz
                  simp only [if_neg e] at hi
                  exact HO.out i (.inr (.inr ⟨n, z, hz, hi⟩))
            · exact (K3.out.mono (fun i hi => hi ▸ hOf)).trans HI.out.2.2 (fun i hi => .inl (by obtain ⟨h0, rfl⟩ := hi; exact hOg h0))
end Go.Proofs.YtoadamkmabkldaaGreatDoor
