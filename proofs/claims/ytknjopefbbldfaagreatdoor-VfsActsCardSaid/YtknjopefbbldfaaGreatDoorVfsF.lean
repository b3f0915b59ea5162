/- Contracts of package vfs: Sync. -/
import Derived.Test.YtknjopefbbldfaaGreatDoorVfsE
import Derived.Test.YtknjopefbbldfaaGreatDoorVfsS
namespace Go.Proofs.YtknjopefbbldfaaGreatDoor
open Go.RowKit
attribute [local go_sem ↓] Go.wp_at_zero Go.wp_at_succ

theorem same_syncN {x : FlP} (h : x.WF) : ∀ k, SameF x (syncN x k)
  | 0 => SameF.refl h
  | k + 1 => (same_syncN h k).trans (same_last (same_syncN h k).wf k)
theorem keptF_wf {S : FsP} {n : List UInt8} {x y : FlP} (h : S.WF) (hx : findP S n = some x) (hy : SameF x y) : (keptF S n y).WF := by
  have hb := burntP_wf h
  obtain ⟨e1, e2, e3, e4, _⟩ := burntP_parts S
  unfold keptF
  refine ⟨hb.most1, hb.most2, hb.fuse1, hb.fuse2, fun p hp => ?_, set_sorted h.order, ?_, fun p hp => ?_⟩
  · rcases set_mem hp with rfl | hp
    · exact hy.wf
    · exact h.files p hp
  · have := use_set (x := y) h.order hx
    have := h.room
    have := hy.w
    simp only
    rw [e1]; omega
  · rcases set_mem hp with rfl | hp
    · exact h.names (n, x) (lookup_mem hx)
    · exact h.names p hp
theorem find_kept {S : FsP} {n : List UInt8} {x : FlP} (y : FlP) (hx : findP S n = some x) (s : List UInt8) : findP (keptF S n y) s = if s = n then some y else findP S s := by
  have hx' : S.fs.lookup n = some x := hx
  have := lookup_set (n := n) (x := y) (l := S.fs) s
  rw [hx'] at this
  exact this
/-- A sector that lasts as it is, cell by cell. -/
def csE (cs : Array Value) (x : FlP) (k : Nat) : Array Value := (putA cs (k * 129 + 64) (bys (nowL x true k))).setIfInBounds (k * 129 + 128) (.bool false)
theorem csE_all {cs : Array Value} {x : FlP} {k : Nat} (hc : ∀ j, j < x.W.length → ∀ r, r < 129 → cs[j * 129 + r]? = some (cellK x j r)) (hk : k < x.W.length) (hsz : x.W.length * 129 ≤ cs.size) (hw : x.WF) (j : Nat) (hj : j < x.W.length) (r : Nat) (hr : r < 129) :
    (csE cs x k)[j * 129 + r]? = some (cellK (lastP x k) j r) := by
  have := cell_last hw true hk j r hj hr
  rw [if_pos rfl] at this
  rw [this]
  unfold csE
  by_cases hjk : j = k
  · subst hjk
    rw [if_pos rfl]
    by_cases h1 : r < 64
    · rw [if_pos h1, Array.getElem?_setIfInBounds_ne (by omega), putA_out (by omega), hc j hj r hr, lastV_kept]
      unfold cellK
      rw [if_pos h1]
    · by_cases h2 : r < 128
      · rw [if_neg h1, if_pos h2, Array.getElem?_setIfInBounds_ne (by omega), putA_in (by omega) (by rw [bys_len, nowL_len]; omega) (by rw [bys_len, nowL_len]; omega), show j * 129 + r - (j * 129 + 64) = r - 64 by omega, bys_nowL (by omega)]
      · obtain rfl : r = 128 := by omega
        rw [if_neg h1, if_neg h2, Array.getElem?_setIfInBounds_self, putA_size, if_pos (by omega)]
  · rw [if_neg hjk, Array.getElem?_setIfInBounds_ne (by omega), putA_out (by rw [bys_len, nowL_len]; omega), hc j hj r hr]
set_option maxHeartbeats 4000000 in
set_option maxRecDepth 100000 in
theorem sync_any (f : Nat) (O : Nat → Prop) (S : FsP) (s : ByteArray) (w : World) (h : FsA w O f S) (hs : s.size ≤ 1000000) (hst : S.stamp ≤ 1000000) :
    Calls Tryz.prog 18 #[.pointer (some ⟨f, 0, none⟩), .string s] w fun e w' => e = .returned (.int .i64 ((syncF S s.data.toList).1 : Int)) ∧ FsA w' O f (syncF S s.data.toList).2 ∧ Ch O w w' := by
  have hsm : s.size ≤ maxLen := Nat.le_trans hs (by unfold maxLen; decide)
  have H := Lib.hid h
  obtain ⟨m, bl, gl, sv, hM, hO⟩ := h
  have HM := Lib.hid hM
  have HO := Lib.hid hO
  have HS := Lib.hid (And.intro hsm hst)
  unfold syncF
  cases hd : S.down with
  | true =>
    have HA := Lib.hid (at_down f m bl gl sv S s w hM hsm hd)
    clear hM hO hd hs hsm hst
    go_enter Tryz.func18, Tryz.ntmps18
    go_wp2_with fail
    with_reducible refine HA.out.mono ?_
    rintro e w1 ⟨rfl, hw1⟩; subst hw1
    go_wp2_with fail
    go_ret
    exact ⟨rfl, H.out, Ch.refl _ _⟩
  | false =>
    cases hf : findP S s.data.toList with
    | none =>
      have HA := Lib.hid (at_none f m bl gl sv S s w hM hsm hd hf)
      clear hM hO hd hs hsm hst hf
      go_enter Tryz.func18, Tryz.ntmps18
      go_wp2_with fail
      with_reducible refine HA.out.mono ?_
      rintro e w1 ⟨rfl, hw1⟩; subst hw1
      go_wp2_with fail
      go_ret
      exact ⟨rfl, H.out, Ch.refl _ _⟩
    | some x =>
      have HA := Lib.hid (at_some f m bl gl sv S s w hM hsm hd hf)
      have HF := Lib.hid (And.intro hf hd)
      have HB := Lib.hid (fun W h => burn_fs f m bl gl sv S W h)
      cases hb : burnP S with
      | false =>
        rw [hb] at HB
        clear hM hO hd hs hsm hst hf hb
        go_enter Tryz.func18, Tryz.ntmps18
        go_wp2_with fail
        with_reducible refine HA.out.mono ?_
        rintro e w1 ⟨rfl, hw1⟩; subst hw1
        go_wp2_with fail
        with_reducible refine (HB.out w1 HM.out).mono ?_
        rintro e w3 ⟨rfl, h3, k3⟩
        have H3 := Lib.hid h3
        have K3 := Lib.hid k3
        clear h3 k3
        go_wp2_with fail
        go_ret
        obtain ⟨e1, e2, e3, e4, e5⟩ := burntP_parts S
        exact ⟨rfl, ⟨m, bl, gl, sv, H3.out, fun i hi => HO.out i ((FsO_fs e3 i).1 hi)⟩, K3.out.mono (fun i hi => hi ▸ HO.out f (.inl rfl))⟩
      | true =>
        rw [hb] at HB
        have hxw : x.WF := hM.wf.files _ (lookup_mem hf)
        have hLm : x.W.length ≤ 65536 := by
          have h2 := use_le (lookup_mem hf)
          have h3 := hM.wf.room
          have h4 := hM.wf.most2
          simp only at h2
          omega
        clear hM hO hd hs hsm hst hf hb
        go_enter Tryz.func18, Tryz.ntmps18
        go_wp2_with fail
        with_reducible refine HA.out.mono ?_
        rintro e w1 ⟨rfl, hw1⟩; subst hw1
        go_wp2_with fail
        with_reducible refine (HB.out w1 HM.out).mono ?_
        rintro e w3 ⟨rfl, h3, k3⟩
        have H3 := Lib.hid h3
        have K3 := Lib.hid k3
        obtain ⟨e1, e2, e3, e4, e5⟩ := burntP_parts S
        have hf3 : findP (burntP S) s.data.toList = some x := by have := HF.out.1; unfold findP at this ⊢; rwa [e3]
        have hfl := h3.fl _ x hf3
        obtain ⟨A0, c0, hsv, hc1, hc2⟩ := hfl.sl.form
        have HF3 := Lib.hid (And.intro hf3 (And.intro hfl (And.intro hsv (And.intro hc1 (And.intro hc2 hxw)))))
        have HBR := Lib.hid (And.intro e1 (And.intro e2 e3))
        rw [hsv] at hfl
        generalize hbl : bl s.data.toList = b at *
        generalize hgl : gl s.data.toList = g at *
        have Hbg := Lib.hid (And.intro hbl hgl)
        have d0 : w3.cell? ⟨b, 0, none⟩ = some (.slice A0 x.W.length c0) := hfl.hd.cell 0
        have HI0 := Lib.hid (show SlQ w3 (.slice A0 x.W.length c0) g x.W.length (cellK (syncN x 0)) ∧ w3.cell? ⟨b, 0, none⟩ = some (.slice A0 x.W.length c0) ∧ Ch (fun i => 0 < x.W.length ∧ i = g) w3 w3 from ⟨hfl.sl, d0, Ch.refl _ _⟩)
        have Hng := Lib.hid (show 0 < x.W.length → g ≠ b from fun h0 => hfl.ne h0)
        clear h3 k3 hf3 hfl hsv hc1 hc2 hbl hgl e1 e2 e3 e4 e5 hxw
        go_wp2_with fail
        go_loopw [27] (fun s1 wr => ∃ k : Nat, s1 = .int .i64 (k : Int) ∧ k ≤ x.W.length ∧ Hid (SlQ wr (.slice A0 x.W.length c0) g x.W.length (cellK (syncN x k)) ∧ wr.cell? ⟨b, 0, none⟩ = some (.slice A0 x.W.length c0) ∧ Ch (fun i => 0 < x.W.length ∧ i = g) w3 wr)) (fun s1 _ => x.W.length - (intOf s1).toNat)
        case atStart => exact ⟨0, rfl, Nat.zero_le _, HI0⟩
        case round =>
          obtain ⟨k, rfl, hk, HI⟩ := hrel
          by_cases hlk : k < x.W.length
          · obtain ⟨y, hy⟩ : ∃ y, y = syncN x k := ⟨_, rfl⟩
            have hsame : SameF x y := by rw [hy]; exact same_syncN HF3.out.2.2.2.2.2 k
            have hnext : syncN x (k + 1) = lastP y k := by rw [hy]; rfl
            have HI2 := HI.out
            rw [← hy] at HI2
            obtain ⟨cc, cs, hsl, z1, z2, z3, z4, z5⟩ := HI2.1.pos (by omega)
            injection hsl with hs1 hs2 hs3
            have hCh := Lib.hid HI2.2.2
            have HN2 := Lib.hid hnext
            have HSm := Lib.hid hsame
            have d1 := HI2.2.1
            clear HI HI2 hy hnext hs2
            subst hs1 hs3
            have z5' : ∀ j, j < y.W.length → ∀ r, r < 129 → cs[j * 129 + r]? = some (cellK y j r) := fun j hj => z5 j (by rw [← hsame.w]; exact hj)
            obtain ⟨l0, hl0⟩ : ∃ l0, l0 = nowL y true k := ⟨_, rfl⟩
            have hlen : l0.length = 64 := by rw [hl0]; exact nowL_len _ _ _
            have HRg : wr.rangeAt g (k * 129) (bys l0) := z3.range (fun r hr => by
              rw [hl0, bys_len, nowL_len] at hr
              rw [hl0, bys_nowL hr, z5 k hlk r (by omega), lastV_kept]
              unfold cellK
              rw [if_pos hr])
            have hfit : k * 129 + 129 ≤ cs.size := by omega
            have HTh := Lib.hid (show wr.drew.there g (k * 129 + 64) 64 from (z3.drewN 1).there (by omega))
            have HS0 := Lib.hid (show wr.drew.cell? ⟨b, 0, none⟩ = some (.slice (some ⟨g, 0, none⟩) x.W.length c0) ∧ wr.drew.rangeAt g (k * 129) (bys l0) ∧ wr.drew.there g (k * 129 + 64) 64 from ⟨d1, HRg, HTh.out⟩)
            have hgb := Hng.out (by omega)
            have hB2 : Bk (wr.drew.setCells g (k * 129 + 64) (bys l0)) g 81 (putA cs (k * 129 + 64) (bys l0)) := (z3.drewN 1).cells _ _
            have hq2 : (wr.drew.setCells g (k * 129 + 64) (bys l0)).rangeAt g (k * 129) (bys l0) := hB2.range (fun r hr => by
              rw [bys_len, hlen] at hr
              rw [putA_out (by omega)]
              have := HRg r _ (List.getElem?_eq_getElem (by rw [bys_len, hlen]; exact hr))
              rw [z3.cell] at this
              rw [this]; exact (List.getElem?_eq_getElem _).symm)
            have hq1 : (wr.drew.setCells g (k * 129 + 64) (bys l0)).cell? ⟨b, 0, none⟩ = some (.slice (some ⟨g, 0, none⟩) x.W.length c0) := (World.cell?_of_block (w := wr.drew) (heap_setCells g _ _ _ b (Ne.symm hgb))).trans d1
            have HS1 := Lib.hid (show (wr.drew.setCells g (k * 129 + 64) (bys l0)).cell? ⟨b, 0, none⟩ = some (.slice (some ⟨g, 0, none⟩) x.W.length c0) ∧ (wr.drew.setCells g (k * 129 + 64) (bys l0)).rangeAt g (k * 129) (bys l0) ∧ (wr.drew.setCells g (k * 129 + 64) (bys l0)).there g (k * 129 + 64) 64 from ⟨hq1, hq2, hB2.there (by rw [putA_size]; omega)⟩)
            have HB3 := Lib.hid (hB2.set (k * 129 + 128) (.bool false))
            have HS2 := Lib.hid (show ((wr.drew.setCells g (k * 129 + 64) (bys l0)).setCell ⟨g, k * 129 + 128, none⟩ (.bool false)).cell? ⟨b, 0, none⟩ = some (.slice (some ⟨g, 0, none⟩) x.W.length c0) ∧ ((wr.drew.setCells g (k * 129 + 64) (bys l0)).setCell ⟨g, k * 129 + 128, none⟩ (.bool false)).rangeAt g (k * 129) (bys l0) ∧ ((wr.drew.setCells g (k * 129 + 64) (bys l0)).setCell ⟨g, k * 129 + 128, none⟩ (.bool false)).there g (k * 129 + 64) 64 from ⟨(World.cell?_of_block (w := wr.drew.setCells g (k * 129 + 64) (bys l0)) (Below.heap_setCell _ _ _ b (Ne.symm hgb))).trans hq1, HB3.out.range (fun r hr => by
              rw [bys_len, hlen] at hr
              rw [Array.getElem?_setIfInBounds_ne (by omega)]
              have := hq2 r _ (List.getElem?_eq_getElem (by rw [bys_len, hlen]; exact hr))
              rw [hB2.cell] at this
              rw [this]; exact (List.getElem?_eq_getElem _).symm), HB3.out.there (by rw [Array.size_setIfInBounds, putA_size]; omega)⟩)
            obtain ⟨v9, k9⟩ := Option.isSome_iff_exists.1 (hB2.isSome (i := k * 129 + 128) (by rw [putA_size]; omega))
            have k9f := hB2.free (k * 129 + 128)
            have HC3 := Lib.hid (show Ch (fun i => 0 < x.W.length ∧ i = g) w3 ((wr.drew.setCells g (k * 129 + 64) (bys l0)).setCell ⟨g, k * 129 + 128, none⟩ (.bool false)) from ((hCh.out.drewN 1).cells (b := g) (.inl ⟨by omega, rfl⟩) _ _).set (p := ⟨g, k * 129 + 128, none⟩) (.inl ⟨by omega, rfl⟩) _)
            have Hl0 := Lib.hid hlen
            have HZ := Lib.hid (And.intro z1 (And.intro z2 (And.intro z4 (And.intro z5' (And.intro hfit hl0)))))
            clear z1 z2 z3 z4 z5 z5' hlen hl0 HRg hgb hB2 hq2 hq1 hsame hfit
            have hkm : k ≤ 65536 := by omega
            go_wp2_with fail
            have hu0 := secU'
            have hi0 : (Tryz.prog.info? 79).map (·.size) = some (bys l0).length := by rw [secI, bys_len, Hl0.out]
            have hl1 : (bys l0).length = 64 := by rw [bys_len, Hl0.out]
            have ho0 := bys_one l0
            go_region_held3 (fun w' => w'.cell? ⟨b, 0, none⟩ = some (.slice (some ⟨g, 0, none⟩) x.W.length c0) ∧ w'.rangeAt g (k * 129) (bys l0) ∧ w'.there g (k * 129 + 64) 64)
              (first | exact HS0.out | exact HS1.out | exact HS2.out) (fail)
            go_wp2_with fail
            go_roundw
            case rel =>
              have hw2 := HSm.out.w
              obtain ⟨z1, z2, z4, z5', hfit, hl0⟩ := id HZ.out
              refine ⟨k + 1, by rfl, by omega, ?_⟩
              rw [HN2.out]
              refine Lib.hid ⟨⟨_, _, rfl, z1, z2, .inr ⟨by omega, rfl, _, HB3.out, by rw [Array.size_setIfInBounds, putA_size]; exact z4, fun j hj r hr => ?_⟩⟩, HS2.out.1, HC3.out⟩
              rw [hl0]
              exact csE_all z5' (by omega) (by omega) HSm.out.wf j (by omega) r hr
            case measure => simp [intOf]; omega
          · have hkL : k = x.W.length := by omega
            subst hkL
            go_wp2_with fail
            go_ret
            obtain ⟨hbl, hgl⟩ := Hbg.out
            subst hbl hgl
            obtain ⟨hf3, hfl, hsv, hc1, hc2, hxw⟩ := HF3.out
            obtain ⟨e1, e2, e3⟩ := HBR.out
            have hsm : SameF x (syncP x) := same_syncN hxw x.W.length
            have hOf := HO.out f (.inl rfl)
            have hOg : 0 < x.W.length → O (gl s.data.toList) := fun h0 => HO.out _ (.inr (.inr ⟨_, x, HF.out.1, .inr ⟨h0, rfl⟩⟩))
            have hset := H3.out.setF (W' := wr) (S' := keptF S s.data.toList (syncP x)) (g' := gl s.data.toList) (sv' := sv s.data.toList) (y := syncP x) hf3
              ⟨by rw [hsm.b, hsm.s]; exact hfl.hd.ch HI.out.2.2 (by rintro ⟨h0, e⟩; exact Hng.out h0 e.symm), by rw [hsm.w, hsv]; exact HI.out.1⟩
              (H3.out.hd.ch HI.out.2.2 (by rintro ⟨h0, e⟩; exact (H3.out.nef hf3).2.1 h0 e.symm))
              (fun i hi n1 n2 n3 => HI.out.2.2.block i hi (by rintro ⟨h0, e⟩; exact n3 h0 e))
              (fun h0 => .inl ⟨by rw [hsm.w] at h0; exact h0, rfl⟩)
              (fun u => by
                rw [find_kept (syncP x) HF.out.1 u]
                by_cases e : u = s.data.toList
                · rw [if_pos e, if_pos e]
                · rw [if_neg e, if_neg e]; unfold findP; rw [e3])
              (Nat.le_refl _) (keptF_wf HM.out.wf HF.out.1 hsm)
            refine ⟨rfl, ⟨m, bl, _, _, hset.1, fun i hi => ?_⟩, ?_⟩
            · rcases hi with rfl | rfl | ⟨n, z, hz, hi⟩
              · exact hOf
              · exact HO.out _ (.inr (.inl rfl))
              · rw [find_kept (syncP x) HF.out.1 n] at hz
                by_cases e : n = s.data.toList
                · subst e
                  rw [if_pos rfl] at hz
                  obtain rfl := Option.some.inj hz
                  simp only [if_pos] at hi
                  rw [hsm.w] at hi
                  exact HO.out i (.inr (.inr ⟨_, x, HF.out.1, hi⟩))
                · rw [if_neg e] at hz
                  simp only [if_neg e] at hi
                  exact HO.out i (.inr (.inr ⟨n, z, hz, hi⟩))
            · exact (K3.out.mono (fun i hi => hi ▸ hOf)).trans HI.out.2.2 (fun i hi => .inl (by obtain ⟨h0, rfl⟩ := hi; exact hOg h0))
end Go.Proofs.YtknjopefbbldfaaGreatDoor
