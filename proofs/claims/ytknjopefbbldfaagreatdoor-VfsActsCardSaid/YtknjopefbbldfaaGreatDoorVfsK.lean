/- Contracts of package vfs: Waits. -/
import Derived.Test.YtknjopefbbldfaaGreatDoorVfsJ
namespace Go.Proofs.YtknjopefbbldfaaGreatDoor
open Go.RowKit
attribute [local go_sem ↓] Go.wp_at_zero Go.wp_at_succ

theorem countP_take {l : List Bool} {k : Nat} (h : k < l.length) : (l.take (k + 1)).countP id = (l.take k).countP id + if l[k]?.getD false then 1 else 0 := by
  rw [take_step (List.getElem?_eq_getElem h), List.countP_append, List.getElem?_eq_getElem h]
  cases l[k] <;> rfl
theorem waits_use (fs : List (List UInt8 × FlP)) : waitsP fs ≤ useP fs := by
  induction fs with
  | nil => exact Nat.le_refl _
  | cons p r ih =>
    have := List.countP_le_length (p := id) (l := p.2.W)
    unfold waitsP useP at *
    simp only [List.map_cons, List.sum_cons]
    omega
set_option maxHeartbeats 4000000 in
set_option maxRecDepth 100000 in
theorem waits_any (f m : Nat) (bl gl : List UInt8 → Nat) (sv : List UInt8 → Value) (S : FsP) (w : World) (h : FsM w f m bl gl sv S) :
    Calls Tryz.prog 30 #[.pointer (some ⟨f, 0, none⟩)] w fun e w' => e = .returned (.int .i64 (if S.down then 0 else (waitsP S.fs : Int))) ∧ Below w.heap.size w w' := by
  have c3 : w.cell? ⟨f, 3, none⟩ = some (.bool S.down) := h.hd.cell 3
  have c4 : w.cell? ⟨f, 4, none⟩ = some (.map (some m)) := h.hd.cell 4
  have H := Lib.hid h
  clear h
  cases hd : S.down with
  | true =>
    rw [hd] at c3
    clear hd
    go_enter Tryz.func30, Tryz.ntmps30
    go_wp2
    go_ret
    exact ⟨rfl, Below.refl _ _⟩
  | false =>
    rw [hd] at c3
    clear hd
    go_enter Tryz.func30, Tryz.ntmps30
    go_wp2_with ((at_range; refine range_files rfl _ rfl H.out.mp (by kernel_rfl) ?_; intro w0 cnt0 hrg0 hg0 hs0; replace hrg0 := Lib.hid hrg0; replace hg0 := Lib.hid hg0; replace hs0 := Lib.hid hs0))
    go_frame
    go_loopw [3] (fun s3 wr => ∃ (L : List UInt8 → Bool) (cnt v : Nat), s3 = .int .i64 (v : Int) ∧ Hid (RngS wr m w.heap.size S.stamp (fun n => (findP S n).map fun _ => bl n) L cnt ∧ v + sumF (fun x => x.W.countP id) S.fs L = waitsP S.fs ∧ Below w.heap.size w wr)) (fun _ wr => wr.rangeLeft m w.heap.size)
    case atStart =>
      refine ⟨_, _, 0, rfl, Lib.hid ⟨hrg0.out, ?_, ⟨hg0.out.os, hg0.out.tape, hg0.out.output, hg0.out.size, fun k hk => hg0.out.block k hk (by simp)⟩⟩⟩
      rw [sumF_all _ _ _ (fun p hp => by rw [find_mem H.out.wf hp]; rfl), Nat.zero_add]
      rfl
    case round =>
      obtain ⟨L, cnt, v, rfl, HR⟩ := hrel
      have hwr := HR.out.2.2.size
      go_wp2_with ((at_next; refine next_files rfl _ rfl (by kernel_rfl) HR.out.1 ?_ ?_))
      · intro hl
        have hs := sumF_none (fun x => x.W.countP id) S.fs L hl
        have HS := Lib.hid hs
        clear hl hs
        try go_frame
        go_wp2_with fail
        go_ret
        refine ⟨?_, HR.out.2.2⟩
        have e1 := HR.out.2.1
        rw [HS.out] at e1
        have e3 : (v : Int) = (waitsP S.fs : Int) := by omega
        show Ending.returned (Value.int .i64 (v : Int)) = _
        rw [e3]
      · intro s b w1 cnt1 hL x hx hb hr hc hg hz hen
        have hB1 : Below w.heap.size w w1 := HR.out.2.2.grown hg hwr (fun k hk => by injection hk with hk; omega)
        have hfl := (H.out.heap (W' := w1) (fun i hi => hB1.block i (H.out.lt i hi))).fl _ x hx
        rw [hb] at hfl
        obtain ⟨A, c, hsv, _, _⟩ := hfl.sl.form
        rw [hsv] at hfl
        have d0 : w1.cell? ⟨b, 0, none⟩ = some (.slice A x.W.length c) := hfl.hd.cell 0
        have hst := sumF_strike (fun x => x.W.countP id) L S.fs s.data.toList x H.out.wf.apart (lookup_mem hx) hL
        have hv : v + sumF (fun x => x.W.countP id) S.fs L = waitsP S.fs := HR.out.2.1
        have hrm := H.out.wf.room
        have hm2 := H.out.wf.most2
        have hwu := waits_use S.fs
        have hLm : x.W.length ≤ 65536 := by
          have h2 := use_le (lookup_mem hx)
          simp only at h2
          omega
        have hvb : v ≤ 65536 := by omega
        have HH := Lib.hid (And.intro hr (And.intro hc (And.intro hB1 (show v + x.W.countP id + sumF (fun x => x.W.countP id) S.fs (fun t => L t && !(t == s.data.toList)) = waitsP S.fs from by omega))))
        have HF := Lib.hid (And.intro hfl hLm)
        obtain ⟨wo, hwo⟩ : ∃ wo : World, wo = wr := ⟨_, rfl⟩
        subst hwo
        generalize gl s.data.toList = g at *
        clear hr hc hg hz hB1 hfl hst hv hrm hm2 hsv hx hb hL hwu hLm
        try go_frame
        go_wp2_with fail
        go_loopw [3, 29] (fun s3 s29 wi => ∃ k : Nat, s29 = .int .i64 (k : Int) ∧ k ≤ x.W.length ∧ s3 = .int .i64 ((v + (x.W.take k).countP id : Nat) : Int) ∧ wi = w1) (fun _ s29 _ => x.W.length - (intOf s29).toNat)
        case atStart => exact ⟨0, rfl, Nat.zero_le _, rfl, rfl⟩
        case round =>
          obtain ⟨k, rfl, hk, rfl, hwi⟩ := hrel
          have hwi2 := hwi.symm
          clear hwi
          subst hwi2
          by_cases hlk : k < x.W.length
          · obtain ⟨cc, cs, hsl, z1, z2, z3, z4, z5⟩ := HF.out.1.sl.pos (by omega)
            injection hsl with hs1 hs2 hs3
            subst hs1
            have dk : w1.cell? ⟨g, k * 129 + 128, none⟩ = some (.bool (x.W[k]?.getD false)) := by rw [z3.cell, z5 k hlk 128 (by omega)]; rfl
            obtain ⟨V, hV⟩ : ∃ V, V = v + (x.W.take k).countP id := ⟨_, rfl⟩
            rw [← hV]
            have hVb : V ≤ 140000 := by
              have h7 : (x.W.take k).countP id ≤ (x.W.take k).length := List.countP_le_length
              rw [List.length_take] at h7
              have := HF.out.2
              omega
            have hn := countP_take hlk
            have HV := Lib.hid (And.intro hV hn)
            have hkm : k ≤ 65536 := by have := HF.out.2; omega
            clear hV hn z1 z2 z3 z4 z5 hs2 hs3
            cases hW : x.W[k]?.getD false with
            | false =>
              rw [hW] at dk HV
              clear hW
              go_wp2_with fail
              go_roundw
              case rel => exact ⟨k + 1, rfl, by omega, by obtain ⟨a1, a2⟩ := HV.out; rw [a2, a1]; rfl, by first | rfl | trivial⟩
              case measure => simp [intOf]; omega
            | true =>
              rw [hW] at dk HV
              clear hW
              go_wp2_with fail
              go_roundw
              case rel => exact ⟨k + 1, rfl, by omega, by obtain ⟨a1, a2⟩ := HV.out; rw [a2, a1]; rfl, by first | rfl | trivial⟩
              case measure => simp [intOf]; omega
          · have hkL : k = x.W.length := by omega
            subst hkL
            have e9 : x.W.take x.W.length = x.W := List.take_length
            rw [e9]
            go_wp2_with fail
            go_roundw
            case rel =>
              have hR := Lib.hid (show RngS w1 m w.heap.size S.stamp (fun n => (findP S n).map fun _ => bl n) (fun t => L t && !(t == s.data.toList)) cnt1 ∧ v + x.W.countP id + sumF (fun x => x.W.countP id) S.fs (fun t => L t && !(t == s.data.toList)) = waitsP S.fs ∧ Below w.heap.size w w1 from ⟨HH.out.1, HH.out.2.2.2, HH.out.2.2.1⟩)
              first
                | exact ⟨_, cnt1, _, rfl, hR⟩
                | ((repeat apply Exists.intro); exact ⟨⟨_, cnt1, _, rfl, hR⟩, rfl⟩)
            case measure => rw [HH.out.1.left, HR.out.1.left]; exact HH.out.2.1
end Go.Proofs.YtknjopefbbldfaaGreatDoor
