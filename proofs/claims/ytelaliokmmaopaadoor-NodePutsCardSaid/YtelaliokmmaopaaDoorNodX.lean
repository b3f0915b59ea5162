/- Contracts of package node: pack, of inner nodes. -/
import Derived.Test.YtelaliokmmaopaaDoorNod5
import Derived.IntWalk
namespace Go.Proofs.YtelaliokmmaopaaDoor
open Go.RowKit
attribute [local go_sem ↓] Go.wp_at_zero Go.wp_at_succ

set_option maxHeartbeats 4000000 in
set_option maxRecDepth 100000 in
theorem pack_inner (M : NdM) (N : NodP) (w : World) (hr : RdN w w.heap.size M N) (hR : RightP N) (hl : N.leaf = false) :
    Calls Tryd.prog 29 #[.agg (ndC false M)] w fun e w' => ∃ v, e = .returned v ∧ w'.ownsRow w.heap.size 5 1 v (packN N).length (bys (packN N)) ∧ Below w.heap.size w w' := by
  obtain ⟨hcl, hkl⟩ := hr.len
  have Hr := Lib.hid hr
  have Hcl := Lib.hid hcl
  have HR := Lib.hid hR
  have Hl := Lib.hid hl
  have hn6 : M.n ≤ 100000 := by have := hR.1.2.2; omega
  have hm6 : M.m = M.n + 1 := by have := hR.1.2.1 hl; omega
  unfold ndC
  clear hr hcl hR hl hkl
  obtain ⟨A, n, c, K, m, d⟩ := M
  simp only at hn6 hm6 ⊢
  subst hm6
  obtain ⟨bk, ok, k0, rfl, hbk0, hk0, hkc0⟩ := Hr.out.ks.num (k := 0) (by show 0 < n + 1; omega)
  go_enter Tryd.func29, Tryd.ntmps29
  go_wp2_with fail
  have hb3 : Below w.heap.size w (((w.alloc (.cells #[.bool false, .slice A n c, .slice (some ⟨bk, ok, none⟩) (n + 1) d] 27)).alloc (.cells #[.int .u8 2] 5)).alloc (.cells #[.int .i64 (n : Int)] 3)) := (((Below.refl _ _).alloc (Nat.le_refl _) _).alloc (by simp) _).alloc (by simp <;> omega) _
  have hg3 : Bk (((w.alloc (.cells #[.bool false, .slice A n c, .slice (some ⟨bk, ok, none⟩) (n + 1) d] 27)).alloc (.cells #[.int .u8 2] 5)).alloc (.cells #[.int .i64 (n : Int)] 3)) w.heap.size 27 #[.bool false, .slice A n c, .slice (some ⟨bk, ok, none⟩) (n + 1) d] := Bk.alloc (Bk.alloc (Bk.new _ _ _) _) _
  have r1 : Rd (((w.alloc (.cells #[.bool false, .slice A n c, .slice (some ⟨bk, ok, none⟩) (n + 1) d] 27)).alloc (.cells #[.int .u8 2] 5)).alloc (.cells #[.int .i64 (n : Int)] 3)) (((w.alloc (.cells #[.bool false, .slice A n c, .slice (some ⟨bk, ok, none⟩) (n + 1) d] 27)).alloc (.cells #[.int .u8 2] 5)).alloc (.cells #[.int .i64 (n : Int)] 3)).heap.size 1 (some ⟨w.heap.size + 1, 0, none⟩) 1 (bys [2]) := by
    have := Rd.oneB (w.alloc (.cells #[.bool false, .slice A n c, .slice (some ⟨bk, ok, none⟩) (n + 1) d] 27)) 5 (x := 2) (u := 2) rfl
    simp only [World.size_alloc] at this
    exact (this.alloc (by simp) _).more (by simp)
  have r2 : Rd (((w.alloc (.cells #[.bool false, .slice A n c, .slice (some ⟨bk, ok, none⟩) (n + 1) d] 27)).alloc (.cells #[.int .u8 2] 5)).alloc (.cells #[.int .i64 (n : Int)] 3)) (((w.alloc (.cells #[.bool false, .slice A n c, .slice (some ⟨bk, ok, none⟩) (n + 1) d] 27)).alloc (.cells #[.int .u8 2] 5)).alloc (.cells #[.int .i64 (n : Int)] 3)).heap.size 1 (some ⟨w.heap.size + 1 + 1, 0, none⟩) 1 (its [(n : Int)]) := by
    have := Rd.oneI ((w.alloc (.cells #[.bool false, .slice A n c, .slice (some ⟨bk, ok, none⟩) (n + 1) d] 27)).alloc (.cells #[.int .u8 2] 5)) 3 (n : Int)
    simp only [World.size_alloc] at this
    exact this.more (by simp)
  have hp := put_any _ _ 1 1 1 1 2 [2] [(n : Int)] _ r1 r2 (by omega) (by omega)
  have Hp := Lib.hid hp
  have Hb3 := Lib.hid hb3
  have Hg3 := Lib.hid hg3
  clear r1 r2 hp hb3 hg3
  refine Hp.out.mono ?_
  rintro e w4 ⟨v4, rfl, hown4, hb4⟩
  rw [show (wid 2).toNat = 2 by decide] at hown4
  have hz3 := Hb3.out.size
  have hB4 := Hb3.out.trans (hb4.mono hz3)
  have hG4 := Bk.below Hg3.out hb4 (by simp <;> omega)
  have hp0 := putB_len [2] 2 [(n : Int)]
  obtain ⟨A4, c4, rfl, _, _⟩ := own_form hown4
  have ho4 : (w4.alloc (.cells #[.int .i64 k0] 3)).ownsRow w.heap.size 5 1 (.slice A4 (1 + 1 * 2) c4) (1 + 1 * 2) (bys (putB [2] 2 [(n : Int)])) := (own_base hown4 hz3).alloc _
  have hq := put_any A4 (some ⟨w4.heap.size, 0, none⟩) (1 + 1 * 2) c4 1 1 3 (putB [2] 2 [(n : Int)]) [k0] (w4.alloc (.cells #[.int .i64 k0] 3)) (Rd.of_own ho4) ((Rd.oneI w4 3 k0).more (by simp)) (by omega) (by omega)
  have Hq := Lib.hid hq
  have f0 : w4.cell? ⟨w.heap.size, 0, none⟩ = some (.bool false) := hG4.cell 0
  have f2 : w4.cell? ⟨w.heap.size, 2, none⟩ = some (.slice (some ⟨bk, ok, none⟩) (n + 1) d) := hG4.cell 2
  have f3 : w4.cell? ⟨bk, ok, none⟩ = some (.int .i64 k0) := (hB4.cell (p := ⟨bk, ok, none⟩) (by show bk < _; omega)).trans (by simpa using hkc0)
  have HB4 := Lib.hid (hB4.alloc hB4.size (.cells #[.int .i64 k0] 3))
  have HG4 := Lib.hid (hG4.alloc (.cells #[.int .i64 k0] 3))
  have HK0 := Lib.hid hk0
  have hz4 := HB4.out.size
  clear hown4 hb4 hB4 hG4 ho4 hq Hp Hb3 Hg3 hk0 hkc0 hp0
  go_wp2_with fail
  with_reducible refine Hq.out.mono ?_
  rintro e w5 ⟨v5, rfl, hown5, hb5⟩
  rw [show (wid 3).toNat = 3 by decide] at hown5
  have ho5 : w5.ownsRow w.heap.size 5 1 v5 (packTo N 0).length (bys (packTo N 0)) := by
    have e : putB (putB [2] 2 [(n : Int)]) 3 [k0] = packTo N 0 := by
      unfold packTo packH
      rw [Hl.out, Hcl.out, HK0.out]
      simp [putB]
    rw [e] at hown5
    have e2 : 1 + 1 * 2 + 1 * 3 = (packTo N 0).length := by rw [← e, putB_len, putB_len]; rfl
    rw [← e2]
    exact own_base hown5 hz4
  have H4 := Lib.hid (And.intro ho5 (And.intro (HB4.out.trans (hb5.mono hz4)) (Bk.below HG4.out hb5 HG4.out.lt)))
  have f0 : w5.cell? ⟨w.heap.size, 0, none⟩ = some (.bool false) := H4.out.2.2.cell 0
  have f1 : w5.cell? ⟨w.heap.size, 1, none⟩ = some (.slice A n c) := H4.out.2.2.cell 1
  clear ho5 hown5 hb5 Hq HB4 HG4 f2 f3
  go_wp2_with fail
  go_loopw [3, 30] (fun v idx wr => ∃ j : Nat, idx = .int .i64 j ∧ j ≤ n ∧ Hid (wr.ownsRow w.heap.size 5 1 v (packTo N j).length (bys (packTo N j)) ∧ Below w.heap.size w wr ∧ Bk wr w.heap.size 27 #[.bool false, .slice A n c, .slice (some ⟨bk, ok, none⟩) (n + 1) d])) (fun _ idx _ => n - (intOf idx).toNat)
  case atStart => exact ⟨0, rfl, Nat.zero_le _, H4⟩
  case round =>
    obtain ⟨j, rfl, hj, HI⟩ := hrel
    obtain ⟨hown, hbw, hbk⟩ := HI.out
    clear H4 HI f0 f1
    by_cases hlt : j < n
    · obtain ⟨b, o, cc, Ak, nk, ck, Av, nv, cv, rfl, hb, hcj, k0, hrk, hnck, k1, hrv, hncv, k2, k3⟩ := Hr.out.cs.at_ hlt
      have e0 := (hbw.cell (p := ⟨b, o + j * 4, none⟩) (by show b < _; omega)).trans k0
      have e1 := (hbw.cell (p := ⟨b, o + j * 4 + 1, none⟩) (by show b < _; omega)).trans k1
      have e2 := (hbw.cell (p := ⟨b, o + j * 4 + 2, none⟩) (by show b < _; omega)).trans k2
      have e3 := (hbw.cell (p := ⟨b, o + j * 4 + 3, none⟩) (by show b < _; omega)).trans k3
      have t0 : wr.cell? ⟨w.heap.size, 0, none⟩ = some (.bool false) := hbk.cell 0
      have hok := HR.out.2.1.1 j cc (by have := Hcl.out; omega) hcj
      have hkl := hrk.blen
      have hvl := hrv.blen
      have hlen := packTo_len HR.out j (by have := Hcl.out; omega)
      have hL : (packTo N j).length ≤ 30000000 := by omega
      obtain ⟨Ab, cb, rfl, hcb, _⟩ := own_form hown
      have hsz := hbw.size
      have hkk : 1 ≤ nk ∧ nk ≤ 120 := by have := hok.1; omega
      obtain ⟨bk', ok', kj, hKe, _, hkj, hkcj⟩ := Hr.out.ks.num (k := j + 1) (by show j + 1 < n + 1; omega)
      injection hKe with hKe
      injection hKe with hKe1 hKe2
      subst hKe1 hKe2
      have e4 : wr.cell? ⟨bk, ok + (j + 1), none⟩ = some (.int .i64 kj) := (hbw.cell (p := ⟨bk, ok + (j + 1), none⟩) (by show bk < _; omega)).trans hkcj
      have Hkj := Lib.hid hkj
      have Hkc := Lib.hid hkcj
      clear hkj hkcj
      have Hpc := Lib.hid (show packTo N (j + 1) = packTo N j ++ packC false (N.kids[j + 1]?.getD 0) cc by rw [packTo, Hl.out, hcj]; rfl)
      have hzl := hbk.lt
      have Hrk := Lib.hid hrk
      have Hrv := Lib.hid hrv
      have Hown := Lib.hid hown
      have Hbw := Lib.hid hbw
      have Hbk := Lib.hid hbk
      clear k0 k1 k2 k3 hok hlen hrk hrv hown hbw hbk hcj
      have o5 := Lib.hid (Hown.out.alloc (.cells #[.slice Ak nk ck, .slice Av nv cv, .int .i64 cc.over, .int .i64 cc.long] 42))
      have c5 := Lib.hid (Bk.new wr 42 #[.slice Ak nk ck, .slice Av nv cv, .int .i64 cc.over, .int .i64 cc.long])
      have n5 := Lib.hid (Hbk.out.alloc (.cells #[.slice Ak nk ck, .slice Av nv cv, .int .i64 cc.over, .int .i64 cc.long] 42))
      have b5 := Lib.hid (Hbw.out.alloc hsz (.cells #[.slice Ak nk ck, .slice Av nv cv, .int .i64 cc.over, .int .i64 cc.long] 42))
      have z5 : wr.heap.size < (wr.alloc (.cells #[.slice Ak nk ck, .slice Av nv cv, .int .i64 cc.over, .int .i64 cc.long] 42)).heap.size := by simp
      clear Hown Hbw Hbk
      go_upto_region 10 with (fail)
      generalize wr.alloc (.cells #[.slice Ak nk ck, .slice Av nv cv, .int .i64 cc.over, .int .i64 cc.long] 42) = w5 at *
      generalize wr.heap.size = g5 at *
      clear e0 e1 e2 e3 e4 t0
      have s0 : w5.cell? ⟨g5, 0, none⟩ = some (.slice Ak nk ck) := c5.out.cell 0
      have q1 : IntKind.u8.wrap (nk : Int) = (nk : Int) := by rw [IntKind.wrap_u8]; omega
      have HA := Lib.hid (show ∀ W, W = (w5.alloc (.cells #[.int .u8 (nk : Int)] 5)).drew → W.ownsRow w.heap.size 5 1 (.slice Ab (packTo N j).length cb) (packTo N j).length (bys (packTo N j)) ∧ Rd W (w5.heap.size + 1) 1 (some ⟨w5.heap.size, 0, none⟩) 1 (bys [UInt8.ofNat nk]) ∧ Below w.heap.size w W from by
        intro W hW
        subst hW
        exact ⟨own_drewN (o5.out.alloc _) 1, (Rd.oneB w5 5 (by simp; omega)).drew, (b5.out.alloc b5.out.size _).drew⟩)
      have HF := Lib.hid (show ∀ W w8, W = (w5.alloc (.cells #[.int .u8 (nk : Int)] 5)).drew → W.grownBy w8 (Value.slice Ab (packTo N j).length cb).ownBlock → Bk w8 g5 42 #[.slice Ak nk ck, .slice Av nv cv, .int .i64 cc.over, .int .i64 cc.long] ∧ Bk w8 w.heap.size 27 #[.bool false, .slice (some ⟨b, o, none⟩) n c, .slice (some ⟨bk, ok, none⟩) (n + 1) d] from by
        intro W w8 hW hg
        subst hW
        have ho := own_drewN (o5.out.alloc (.cells #[.int .u8 (nk : Int)] 5)) 1
        exact ⟨Bk.grow (Bk.drew (c5.out.alloc _)) ho hg (by decide), Bk.grow (Bk.drew (n5.out.alloc _)) ho hg (by decide)⟩)
      have hzz : w.heap.size ≤ w5.heap.size := by omega
      go_cut [3] (fun v3 wx => Hid (PkM w g5 #[.slice Ak nk ck, .slice Av nv cv, .int .i64 cc.over, .int .i64 cc.long] #[.bool false, .slice (some ⟨b, o, none⟩) n c, .slice (some ⟨bk, ok, none⟩) (n + 1) d] (packTo N j ++ (UInt8.ofNat nk :: cc.key)) v3 wx))
      case first =>
        go_region_law (first
          | (refine ap_step (v := .slice Ab (packTo N j).length cb) (n := (packTo N j).length) (xs := packTo N j) (news := [UInt8.ofNat nk]) (A := some ⟨w5.heap.size, 0, none⟩) (m := 1) (c := 1) (B := w5.heap.size + 1) (base := w.heap.size) (w0 := w) (by exact (HA.out _ rfl).1) (by exact (HA.out _ rfl).2.1) (by exact (HA.out _ rfl).2.2) (by show w.heap.size ≤ (w5.alloc _).heap.size; simp; omega) (by omega) (by rfl) (by rfl) ?_; intro v8 w8 hown8 hb8 hg8 hv8; obtain ⟨c8, n8⟩ := HF.out _ w8 (by rfl) hg8; have s8 : w8.cell? ⟨g5, 0, none⟩ = some (.slice Ak nk ck) := c8.cell 0; obtain ⟨A8, d8, rfl, _, _⟩ := own_form hown8)
          | (refine ap_step (v := .slice A8 ((packTo N j).length + 1) d8) (n := (packTo N j).length + 1) (xs := packTo N j ++ [UInt8.ofNat nk]) (news := cc.key) (A := Ak) (m := nk) (c := ck) (B := w.heap.size) (base := w.heap.size) (w0 := w) hown8 (Hrk.out.below hb8 (Nat.le_refl _)) hb8 hb8.size (by omega) (by rfl) (by rfl) ?_; intro v9 w9 hown9 hb9 hg9 hv9; have c9 := Bk.grow c8 hown8 hg9 (by decide); have n9 := Bk.grow n8 hown8 hg9 (by decide); obtain ⟨A9, d9, rfl, _, _⟩ := own_form hown9))
        all_goals
          have Hm := Lib.hid (show PkM w g5 #[.slice Ak nk ck, .slice Av nv cv, .int .i64 cc.over, .int .i64 cc.long] #[.bool false, .slice (some ⟨b, o, none⟩) n c, .slice (some ⟨bk, ok, none⟩) (n + 1) d] (packTo N j ++ (UInt8.ofNat nk :: cc.key)) (.slice A9 ((packTo N j).length + 1 + nk) d9) w9 from ⟨by
            have e : packTo N j ++ [UInt8.ofNat nk] ++ cc.key = packTo N j ++ (UInt8.ofNat nk :: cc.key) := by simp
            rw [e] at hown9
            have e2 : (packTo N j ++ (UInt8.ofNat nk :: cc.key)).length = (packTo N j).length + 1 + nk := by simp; omega
            rw [e2]; exact hown9, hb9, c9, n9⟩)
          clear hown9 hb9 c9 n9 hg9 hv9 hown8 hb8 hg8 hv8 c8 n8 s8 s0 q1 HA HF o5 c5 n5 b5
          go_wp2_with fail
          go_meet
          exact Hm
      case rest =>
        have Hm := hcut
        clear s0 q1 HA HF o5 c5 n5 b5
        obtain ⟨A9, d9, rfl, hd9, _⟩ := own_form Hm.out.1
        have hL9 : (packTo N j ++ (UInt8.ofNat nk :: cc.key)).length ≤ 40000000 := by simp; omega
        generalize hl1 : packTo N j ++ (UInt8.ofNat nk :: cc.key) = l1 at *
        have Hl1 := Lib.hid hl1
        clear hl1
        have t0 : wc.cell? ⟨w.heap.size, 0, none⟩ = some (.bool false) := Hm.out.2.2.2.cell 0
        have t2 : wc.cell? ⟨w.heap.size, 2, none⟩ = some (.slice (some ⟨bk, ok, none⟩) (n + 1) d) := Hm.out.2.2.2.cell 2
        have t3 : wc.cell? ⟨bk, ok + (j + 1), none⟩ = some (.int .i64 kj) := (Hm.out.2.1.cell (p := ⟨bk, ok + (j + 1), none⟩) (by show bk < _; omega)).trans (Hkc.out)
        have q1 : IntKind.i64.wrap ((j : Int) + 1) = (j : Int) + 1 := IntWalk.i64_in _ (by omega)
        have q3 : (0 : Int) ≤ (j : Int) + 1 := by omega
        have q4 : ((j : Int) + 1).toNat = j + 1 := by omega
        have q5 : (j : Int) + 1 < ((n + 1 : Nat) : Int) := by omega
        have hpk := PkM.put (x := 3) (A2 := some ⟨wc.heap.size, 0, none⟩) (c2 := 1) (z := kj) (Hm.out.alloc (.cells #[.int .i64 kj] 3)) rfl (by omega) (by decide) ((Rd.oneI wc 3 kj).more (by simp))
        have hfin : packTo N (j + 1) = l1 ++ leB kj 3 := by
          rw [Hpc.out, ← Hl1.out, Hkj.out]
          unfold packC
          rw [if_pos rfl, hkl]
          simp
        rw [← hfin] at hpk
        have Hpk := Lib.hid (show Calls Tryd.prog 52 #[.slice A9 l1.length d9, .int .i64 3, .slice (some ⟨wc.heap.size, 0, none⟩) 1 1] (wc.alloc (.cells #[.int .i64 kj] 3)) fun e w' => ∃ v, e = .returned v ∧ PkM w g5 #[.slice Ak nk ck, .slice Av nv cv, .int .i64 cc.over, .int .i64 cc.long] #[.bool false, .slice (some ⟨b, o, none⟩) n c, .slice (some ⟨bk, ok, none⟩) (n + 1) d] (packTo N (j + 1)) v w' ∧ Below (wc.alloc (.cells #[.int .i64 kj] 3)).heap.size (wc.alloc (.cells #[.int .i64 kj] 3)) w' from hpk)
        clear hpk hfin
        go_wp2_with fail
        with_reducible refine Hpk.out.mono ?_
        rintro e w10 ⟨v10, rfl, hm10, _⟩
        have HM10 := Lib.hid (And.intro hm10.1 (And.intro hm10.2.1 hm10.2.2.2))
        obtain ⟨A10, d10, rfl, _, _⟩ := own_form hm10.1
        clear hm10 Hpk q1 q3 q4 q5
        go_wp2_with fail
        go_roundw
        case rel => exact ⟨j + 1, by go_num, by omega, HM10⟩
        case measure => simp [intOf]; omega
    · obtain rfl : n = j := by omega
      obtain ⟨Ab, cb, rfl, hcb, _⟩ := own_form hown
      have hown' : wr.ownsRow w.heap.size 5 1 (.slice Ab (packTo N n).length cb) (packN N).length (bys (packN N)) := by unfold packN; rw [Hcl.out]; exact hown
      have Hown := Lib.hid hown'
      have Hbw := Lib.hid hbw
      clear hown hown' hbw hbk
      go_wp2_with fail
      go_ret
      exact ⟨_, rfl, Hown.out, Hbw.out⟩
end Go.Proofs.YtelaliokmmaopaaDoor
