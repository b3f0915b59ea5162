/- Contracts of package vfs: Cut. -/
import Derived.Test.YtoadamkmabkldaaGreatDoorJn08
set_option linter.unusedVariables false
set_option linter.unusedSimpArgs false
namespace Go.Proofs.YtoadamkmabkldaaGreatDoor
open Go.RowKit
attribute [local go_sem ↓] Go.wp_at_zero Go.wp_at_succ

theorem byP_take {l : List UInt8} {n i : Nat} : byP (l.take n) i = if i < n then byP l i else 0 := by
  unfold byP
  rw [List.getElem?_take]
  split <;> rfl
theorem cutP_len {x : FlP} (h : x.WF) {n : Nat} (hn : n ≤ x.B.length) : (cutP x n).W.length = needN n ∧ (cutP x n).B.length = n ∧ needN n ≤ x.W.length := by
  have h1 := needN_le hn
  rw [← h.w] at h1
  refine ⟨?_, by unfold cutP; simp only [List.length_take]; omega, h1⟩
  unfold cutP
  dsimp only
  split
  · rw [List.length_take]; omega
  · rw [List.length_set, List.length_take]; omega
theorem cutP_wf {x : FlP} (h : x.WF) {n : Nat} (hn : n ≤ x.B.length) : (cutP x n).WF := by
  obtain ⟨h1, h2, h3⟩ := cutP_len h hn
  refine ⟨by rw [h1, h2], ?_⟩
  rw [h1]
  have := h.o
  unfold cutP
  simp only [List.length_take]
  omega
theorem cutP_cell {x : FlP} (h : x.WF) {n : Nat} (hn : n ≤ x.B.length) {j r : Nat} (hj : j < needN n) (hr : r < 129) :
    cellK (cutP x n) j r = if r < 64 then (if 64 * j + r < n then cellK x j r else .int .u8 0) else if r < 128 then cellK x j r else if n % 64 ≠ 0 ∧ j = n / 64 then .bool true else cellK x j r := by
  obtain ⟨h1, h2, h3⟩ := cutP_len h hn
  by_cases e1 : r < 64
  · rw [if_pos e1]
    unfold cellK cutP
    simp only [if_pos e1]
    rw [byP_take]
    by_cases e2 : 64 * j + r < n
    · rw [if_pos e2, if_pos e2]
    · rw [if_neg e2, if_neg e2]; rfl
  · by_cases e2 : r < 128
    · rw [if_neg e1, if_pos e2]
      unfold cellK cutP
      simp only [if_neg e1, if_pos e2]
      rw [byP_take, if_pos (by omega)]
    · rw [if_neg e1, if_neg e2]
      unfold cellK cutP
      simp only [if_neg e1, if_neg e2]
      by_cases e3 : n % 64 = 0
      · rw [if_pos e3, if_neg (by omega), List.getElem?_take_of_lt hj]
      · rw [if_neg e3]
        by_cases e4 : j = n / 64
        · rw [if_pos ⟨e3, e4⟩, e4, List.getElem?_set_self (by rw [List.length_take]; omega)]; rfl
        · rw [if_neg (by omega), List.getElem?_set_ne (by omega), List.getElem?_take_of_lt hj]
/-- The last sector of a file that is cut, cell by cell. -/
def csG (cs : Array Value) (k r0 : Nat) : Array Value := (putA cs (k * 129 + r0) (List.replicate (64 - r0) (.int .u8 0))).setIfInBounds (k * 129 + 128) (.bool true)
theorem csG_size {cs : Array Value} {k r0 : Nat} : (csG cs k r0).size = cs.size := by unfold csG; rw [Array.size_setIfInBounds, putA_size]
theorem csG_all {cs : Array Value} {x : FlP} {n : Nat} (hc : ∀ j, j < x.W.length → ∀ r, r < 129 → cs[j * 129 + r]? = some (cellK x j r)) (h : x.WF) (hn : n ≤ x.B.length) (h0 : n % 64 ≠ 0) (hsz : x.W.length * 129 ≤ cs.size) {j r : Nat} (hj : j < needN n) (hr : r < 129) :
    (csG cs (n / 64) (n % 64))[j * 129 + r]? = some (cellK (cutP x n) j r) := by
  obtain ⟨h1, h2, h3⟩ := cutP_len h hn
  have hN : needN n = n / 64 + 1 := by unfold needN; omega
  rw [cutP_cell h hn hj hr]
  unfold csG
  by_cases e1 : r < 64
  · rw [if_pos e1, Array.getElem?_setIfInBounds_ne (by omega)]
    by_cases e2 : 64 * j + r < n
    · rw [if_pos e2, putA_out (by omega), hc j (by omega) r hr]
    · rw [if_neg e2, putA_in (by omega) (by rw [List.length_replicate]; omega) (by rw [List.length_replicate]; omega), List.getElem?_replicate, if_pos (by omega)]
  · by_cases e2 : r < 128
    · rw [if_neg e1, if_pos e2, Array.getElem?_setIfInBounds_ne (by omega), putA_out (by rw [List.length_replicate]; omega), hc j (by omega) r hr]
    · rw [if_neg e1, if_neg e2]
      by_cases e3 : j = n / 64
      · subst e3
        obtain rfl : r = 128 := by omega
        rw [if_pos ⟨h0, rfl⟩, Array.getElem?_setIfInBounds_self, putA_size, if_pos (by omega)]
      · rw [if_neg (by omega), Array.getElem?_setIfInBounds_ne (by omega), putA_out (by rw [List.length_replicate]; omega), hc j (by omega) r hr]
theorem csG_even {cs : Array Value} {x : FlP} {n : Nat} (hc : ∀ j, j < x.W.length → ∀ r, r < 129 → cs[j * 129 + r]? = some (cellK x j r)) (h : x.WF) (hn : n ≤ x.B.length) (h0 : n % 64 = 0) {j r : Nat} (hj : j < needN n) (hr : r < 129) :
    cs[j * 129 + r]? = some (cellK (cutP x n) j r) := by
  obtain ⟨h1, h2, h3⟩ := cutP_len h hn
  have hN : needN n = n / 64 := by unfold needN; omega
  rw [cutP_cell h hn hj hr, hc j (by omega) r hr]
  by_cases e1 : r < 64
  · rw [if_pos e1, if_pos (by omega)]
  · by_cases e2 : r < 128
    · rw [if_neg e1, if_pos e2]
    · rw [if_neg e1, if_neg e2, if_neg (by omega)]
set_option maxHeartbeats 4000000 in
set_option maxRecDepth 100000 in
theorem cut_any (f : Nat) (O : Nat → Prop) (S : FsP) (s : ByteArray) (q : Int) (w : World) (h : FsA w O f S) (hs : s.size ≤ 1000000) (hst : S.stamp ≤ 1000000) :
    Calls Tryz.prog 62 #[.pointer (some ⟨f, 0, none⟩), .string s, .int .i64 q] w fun e w' => e = .returned (.int .i64 ((cutF S s.data.toList q).1 : Int)) ∧ FsA w' O f (cutF S s.data.toList q).2 ∧ Ch O w w' := by
  have hsm : s.size ≤ maxLen := Nat.le_trans hs (by unfold maxLen; decide)
  have H := Lib.hid h
  obtain ⟨m, bl, gl, sv, hM, hO⟩ := h
  have HM := Lib.hid hM
  have HO := Lib.hid hO
  have HS := Lib.hid (And.intro hsm hst)
  unfold cutF
  cases hd : S.down with
  | true =>
    have HA := Lib.hid (at_down f m bl gl sv S s w hM hsm hd)
    clear hM hO hd hs hsm hst
    go_enter Tryz.func62, Tryz.ntmps62
    go_wp2_with fail
    with_reducible refine HA.out.mono ?_
    rintro e w1 ⟨rfl, hw1⟩; subst hw1
    go_wp2_with fail
    go_ret
    exact ⟨rfl, H.out, Ch.refl _ _⟩
  | false =>
    cases hf : findP S s.data.toList with
    | none =>
      have HA := Lib.hid (at_none f m bl gl sv S s w hM hsm hd hf)
      clear hM hO hd hs hsm hst hf
      go_enter Tryz.func62, Tryz.ntmps62
      go_wp2_with fail
      with_reducible refine HA.out.mono ?_
      rintro e w1 ⟨rfl, hw1⟩; subst hw1
      go_wp2_with fail
      go_ret
      exact ⟨rfl, H.out, Ch.refl _ _⟩
    | some x =>
      have HA := Lib.hid (at_some f m bl gl sv S s w hM hsm hd hf)
      have HF := Lib.hid (And.intro hf hd)
      have hxw : x.WF := hM.wf.files _ (lookup_mem hf)
      have hLm : x.W.length ≤ 65536 := by
        have h2 := use_le (lookup_mem hf)
        have h3 := hM.wf.room
        have h4 := hM.wf.most2
        simp only at h2
        omega
      have hxB : x.B.length ≤ 4300000 := by
        have h1 := needN_ge x.B.length
        rw [← hxw.w] at h1
        omega
      have c1 : w.cell? ⟨bl s.data.toList, 1, none⟩ = some (.int .i64 (x.B.length : Int)) := (hM.fl _ x hf).hd.cell 1
      have HB := Lib.hid (fun W h => burn_fs f m bl gl sv S W h)
      by_cases h1 : q < 0
      · simp only [if_pos (Or.inl h1 : q < 0 ∨ (x.B.length : Int) < q)]
        have HXW := Lib.hid hxw
        clear hM hO hd hs hsm hst hf hxw hLm hxB
        go_enter Tryz.func62, Tryz.ntmps62
        go_wp2_with fail
        with_reducible refine HA.out.mono ?_
        rintro e w1 ⟨rfl, hw1⟩; subst hw1
        go_wp2_with fail
        go_ret
        exact ⟨rfl, H.out, Ch.refl _ _⟩
      · obtain ⟨N, rfl⟩ : ∃ k : Nat, q = (k : Int) := ⟨q.toNat, by omega⟩
        have n1 : ¬ ((N : Int) < 0) := h1
        clear h1
        by_cases h2 : x.B.length < N
        · simp only [if_pos (Or.inr (by omega) : (N : Int) < 0 ∨ (x.B.length : Int) < (N : Int))]
          clear hM hO hd hs hsm hst hf hxw hLm hxB
          go_enter Tryz.func62, Tryz.ntmps62
          go_wp2_with fail
          with_reducible refine HA.out.mono ?_
          rintro e w1 ⟨rfl, hw1⟩; subst hw1
          go_wp2_with fail
          go_ret
          exact ⟨rfl, H.out, Ch.refl _ _⟩
        · have hN : N ≤ x.B.length := by omega
          simp only [if_neg (by omega : ¬ ((N : Int) < 0 ∨ (x.B.length : Int) < (N : Int))), Int.toNat_natCast]
          cases hb : burnP S with
          | false =>
            rw [hb] at HB
            clear hM hO hd hs hsm hst hf hb hxw hLm hxB hN
            go_enter Tryz.func62, Tryz.ntmps62
            go_wp2_with fail
            with_reducible refine HA.out.mono ?_
            rintro e w1 ⟨rfl, hw1⟩; subst hw1
            go_wp2_with fail
            with_reducible refine (HB.out w1 HM.out).mono ?_
            rintro e w3 ⟨rfl, h3, k3⟩
            have H3 := Lib.hid h3
            have K3 := Lib.hid k3
            clear h3 k3
            go_wp2_with fail
            go_ret
            obtain ⟨e1, e2, e3, e4, e5⟩ := burntP_parts S
            exact ⟨rfl, ⟨m, bl, gl, sv, H3.out, fun i hi => HO.out i ((FsO_fs e3 i).1 hi)⟩, K3.out.mono (fun i hi => hi ▸ HO.out f (.inl rfl))⟩
          | true =>
            rw [hb] at HB
            clear hM hO hd hs hsm hst hf hb
            go_enter Tryz.func62, Tryz.ntmps62
            go_wp2_with fail
            with_reducible refine HA.out.mono ?_
            rintro e w1 ⟨rfl, hw1⟩; subst hw1
            go_wp2_with fail
            with_reducible refine (HB.out w1 HM.out).mono ?_
            rintro e w3 ⟨rfl, h3, k3⟩
            have H3 := Lib.hid h3
            have K3 := Lib.hid k3
            obtain ⟨e1, e2, e3, e4, e5⟩ := burntP_parts S
            have hf3 : findP (burntP S) s.data.toList = some x := by have := HF.out.1; unfold findP at this ⊢; rwa [e3]
            have hfl := h3.fl _ x hf3
            obtain ⟨A0, c0, hsv, hc1, hc2⟩ := hfl.sl.form
            have HF3 := Lib.hid (And.intro hf3 (And.intro hfl (And.intro hsv (And.intro hc1 (And.intro hc2 hxw)))))
            have HBR := Lib.hid (And.intro e1 (And.intro e2 e3))
            rw [hsv] at hfl
            generalize hbl : bl s.data.toList = b at *
            generalize hgl : gl s.data.toList = g at *
            have Hbg := Lib.hid (And.intro hbl hgl)
            have d0 : w3.cell? ⟨b, 0, none⟩ = some (.slice A0 x.W.length c0) := hfl.hd.cell 0
            have d1 : w3.cell? ⟨b, 1, none⟩ = some (.int .i64 (x.B.length : Int)) := hfl.hd.cell 1
            have f0 := hfl.hd.free 0
            have f1 := hfl.hd.free 1
            have Hng := Lib.hid (show 0 < x.W.length → g ≠ b from fun h0 => hfl.ne h0)
            have hcl := cutP_len hxw hN
            obtain ⟨NN, hNN⟩ : ∃ NN, NN = needN N := ⟨_, rfl⟩
            have HNd := Lib.hid (show ∀ W, Calls Tryz.prog 91 #[.int .i64 (N : Int)] W fun e w' => e = .returned (.int .i64 (NN : Int)) ∧ w' = W from fun W => by rw [hNN]; exact need_any N W (by omega))
            have hNL : NN ≤ c0 := by rw [hNN]; omega
            have hNLi : (NN : Int) ≤ (c0 : Int) := by omega
            have hB8 : Bk ((w3.drew.setCell ⟨b, 1, none⟩ (.int .i64 (N : Int))).setCell ⟨b, 0, none⟩ (.slice A0 NN NN)) b 87 #[.slice A0 NN NN, .int .i64 (N : Int), .int .i64 (x.stamp : Int)] := ((hfl.hd.drewN 1).set 1 _).set 0 _
            have HC8 := Lib.hid (show Ch (fun i => i = b) w3 ((w3.drew.setCell ⟨b, 1, none⟩ (.int .i64 (N : Int))).setCell ⟨b, 0, none⟩ (.slice A0 NN NN)) from (((Ch.refl (fun i => i = b) w3).drewN 1).set (p := ⟨b, 1, none⟩) (.inl rfl) _).set (p := ⟨b, 0, none⟩) (.inl rfl) _)
            have HB8 := Lib.hid hB8
            have HX := Lib.hid (And.intro hN (And.intro hxB (And.intro hNN (And.intro hcl hLm))))
            by_cases hL : x.W.length = 0
            · have hz : N = 0 := by
                have h5 := hxw.w
                unfold needN at h5
                omega
              have hNz : NN = 0 := by rw [hNN, hz]; rfl
              subst hz hNz
              have HL := Lib.hid hL
              rcases A0 with _ | a0
              · clear h3 k3 hf3 hfl hsv hc1 hc2 hbl hgl e1 e2 e3 e4 e5 hxw hcl hNN hNL hB8 hLm hxB hN hL
                go_upto_region 8 with fail
                go_cut [] (fun wx => wx = (w3.drew.setCell ⟨b, 1, none⟩ (.int .i64 0)).setCell ⟨b, 0, none⟩ (.slice none 0 0))
                case first =>
                  go_region_law (first | (go_simp; go_at_call 91; refine (HNd.out _).mono ?_; rintro e w5 ⟨rfl, hw5⟩; subst hw5))
                  all_goals (first | (go_meet; exact rfl) | (go_wp2_with fail; go_meet; exact rfl))
                subst hcut
                generalize (w3.drew.setCell ⟨b, 1, none⟩ (.int .i64 0)).setCell ⟨b, 0, none⟩ (.slice none 0 0) = w7 at *
                have HB7 := Lib.hid (show Bk w7 b 87 #[.slice none 0 0, .int .i64 0, .int .i64 (x.stamp : Int)] from HB8.out)
                have HC7 := Lib.hid (show Ch (fun i => i = b ∨ (0 < x.W.length ∧ i = g)) w3 w7 from HC8.out.mono (fun _ h => .inl h))
                have HSL7 := Lib.hid (show SlQ w7 (.slice none 0 0) g 0 (cellK (cutP x 0)) from SlQ.nil _ _ _)
                have hd3 := H3.out.hd
                rw [HBR.out.2.1] at hd3
                have hd7 := hd3.ch HC7.out (by rintro (e | ⟨h0, e⟩); exact (H3.out.nef HF3.out.1).1 (by rw [Hbg.out.1]; exact e.symm); exact (H3.out.nef HF3.out.1).2.1 h0 (by rw [Hbg.out.2]; exact e.symm))
                have HCH := Lib.hid (changed_any f b S.stamp _ _ _ _ _ _ _ w7 hd7 HB7.out HS.out.2)
                clear hd3 hd7
                go_wp2_with fail
                with_reducible refine HCH.out.mono ?_
                rintro e w9 ⟨rfl, y1, y2, y3⟩
                have Y1 := Lib.hid y1
                have Y2 := Lib.hid y2
                have Y3 := Lib.hid y3
                clear y1 y2 y3
                go_wp2_with fail
                go_ret
                obtain ⟨hbl, hgl⟩ := Hbg.out
                subst hbl hgl
                obtain ⟨hf3, hfl, hsv, hc1, hc2, hxw⟩ := HF3.out
                obtain ⟨e1, e2, e3⟩ := HBR.out
                obtain ⟨hN, hxB, hNN, hcl, hLm⟩ := HX.out
                have hOf := HO.out f (.inl rfl)
                have hOb : O (bl s.data.toList) := HO.out _ (.inr (.inr ⟨_, x, HF.out.1, .inl rfl⟩))
                have hOg : 0 < x.W.length → O (gl s.data.toList) := fun h0 => HO.out _ (.inr (.inr ⟨_, x, HF.out.1, .inr ⟨h0, rfl⟩⟩))
                have s7 := HC7.out.size
                have hset := H3.out.setF (W' := w9) (S' := stampF S s.data.toList (cutP x 0)) (g' := gl s.data.toList) (sv' := .slice none 0 0) (y := { cutP x 0 with stamp := S.stamp + 1 }) hf3
                  ⟨by show Bk w9 _ _ #[_, .int .i64 (((cutP x 0).B.length : Nat) : Int), _]; rw [hcl.2.1]; exact Y2.out, by
                    show SlQ w9 _ _ (cutP x 0).W.length (cellK (cutP x 0))
                    rw [hcl.1, ← hNN]
                    exact HSL7.out.heap (fun h0 => Y3.out.block _ (HSL7.out.lt h0) (by
                      have h0L : 0 < x.W.length := by rw [hNN] at h0; omega
                      rintro (e | e)
                      · exact (H3.out.nef hf3).2.1 h0L e
                      · exact Hng.out h0L e))⟩
                  Y1.out
                  (fun i hi n1 n2 n3 => (Y3.out.block i (by omega) (by rintro (e | e); exact n1 e; exact n2 e)).trans (HC7.out.block i hi (by rintro (e | ⟨h0, e⟩); exact n2 e; exact n3 h0 e)))
                  (fun h0 => .inl ⟨by have h0' : 0 < (cutP x 0).W.length := h0; rw [hcl.1] at h0'; omega, rfl⟩)
                  (fun u => by
                    rw [find_stamp (cutP x 0) HF.out.1 u]
                    by_cases e : u = s.data.toList
                    · rw [if_pos e, if_pos e]
                    · rw [if_neg e, if_neg e]; unfold findP; rw [e3])
                  (by rw [e2]; exact Nat.le_succ _) (stampF_wf HM.out.wf HF.out.1 (cutP_wf hxw hN) (by rw [hcl.1]; have := HM.out.wf.room; omega))
                refine ⟨rfl, ⟨m, bl, _, _, hset.1, fun i hi => ?_⟩, ?_⟩
                · rcases hi with rfl | rfl | ⟨n, z, hz, hi⟩
                  · exact hOf
                  · exact HO.out _ (.inr (.inl rfl))
                  · rw [find_stamp (cutP x 0) HF.out.1 n] at hz
                    by_cases e : n = s.data.toList
                    · subst e
                      rw [if_pos rfl] at hz
                      obtain rfl := Option.some.inj hz
                      simp only [if_pos] at hi
                      rcases hi with rfl | ⟨h0, rfl⟩
                      · exact hOb
                      · have h0' : 0 < (cutP x 0).W.length := h0
                        rw [hcl.1] at h0'
                        exact hOg (by omega)
                    · rw [if_neg e] at hz
                      simp only [if_neg e] at hi
                      exact HO.out i (.inr (.inr ⟨n, z, hz, hi⟩))
                · exact ((K3.out.mono (fun i hi => hi ▸ hOf)).trans HC7.out (fun i hi => .inl (by rcases hi with rfl | ⟨h0, rfl⟩; exact hOb; exact hOg h0))).trans Y3.out (fun i hi => .inl (by rcases hi with rfl | rfl; exact hOf; exact hOb))
              · clear h3 k3 hf3 hfl hsv hc1 hc2 hbl hgl e1 e2 e3 e4 e5 hxw hcl hNN hNL hB8 hLm hxB hN hL
                go_upto_region 8 with fail
                go_cut [] (fun wx => wx = (w3.drew.setCell ⟨b, 1, none⟩ (.int .i64 0)).setCell ⟨b, 0, none⟩ (.slice (some a0) 0 0))
                case first =>
                  go_region_law (first | (go_simp; go_at_call 91; refine (HNd.out _).mono ?_; rintro e w5 ⟨rfl, hw5⟩; subst hw5))
                  all_goals (first | (go_meet; exact rfl) | (go_wp2_with fail; go_meet; exact rfl))
                subst hcut
                generalize (w3.drew.setCell ⟨b, 1, none⟩ (.int .i64 0)).setCell ⟨b, 0, none⟩ (.slice (some a0) 0 0) = w7 at *
                have HB7 := Lib.hid (show Bk w7 b 87 #[.slice (some a0) 0 0, .int .i64 0, .int .i64 (x.stamp : Int)] from HB8.out)
                have HC7 := Lib.hid (show Ch (fun i => i = b ∨ (0 < x.W.length ∧ i = g)) w3 w7 from HC8.out.mono (fun _ h => .inl h))
                have HSL7 := Lib.hid (show SlQ w7 (.slice (some a0) 0 0) g 0 (cellK (cutP x 0)) from ⟨_, 0, rfl, Nat.le_refl _, Nat.zero_le _, .inl ⟨rfl, rfl⟩⟩)
                have hd3 := H3.out.hd
                rw [HBR.out.2.1] at hd3
                have hd7 := hd3.ch HC7.out (by rintro (e | ⟨h0, e⟩); exact (H3.out.nef HF3.out.1).1 (by rw [Hbg.out.1]; exact e.symm); exact (H3.out.nef HF3.out.1).2.1 h0 (by rw [Hbg.out.2]; exact e.symm))
                have HCH := Lib.hid (changed_any f b S.stamp _ _ _ _ _ _ _ w7 hd7 HB7.out HS.out.2)
                clear hd3 hd7
                go_wp2_with fail
                with_reducible refine HCH.out.mono ?_
                rintro e w9 ⟨rfl, y1, y2, y3⟩
                have Y1 := Lib.hid y1
                have Y2 := Lib.hid y2
                have Y3 := Lib.hid y3
                clear y1 y2 y3
                go_wp2_with fail
                go_ret
                obtain ⟨hbl, hgl⟩ := Hbg.out
                subst hbl hgl
                obtain ⟨hf3, hfl, hsv, hc1, hc2, hxw⟩ := HF3.out
                obtain ⟨e1, e2, e3⟩ := HBR.out
                obtain ⟨hN, hxB, hNN, hcl, hLm⟩ := HX.out
                have hOf := HO.out f (.inl rfl)
                have hOb : O (bl s.data.toList) := HO.out _ (.inr (.inr ⟨_, x, HF.out.1, .inl rfl⟩))
                have hOg : 0 < x.W.length → O (gl s.data.toList) := fun h0 => HO.out _ (.inr (.inr ⟨_, x, HF.out.1, .inr ⟨h0, rfl⟩⟩))
                have s7 := HC7.out.size
                have hset := H3.out.setF (W' := w9) (S' := stampF S s.data.toList (cutP x 0)) (g' := gl s.data.toList) (sv' := .slice (some a0) 0 0) (y := { cutP x 0 with stamp := S.stamp + 1 }) hf3
                  ⟨by show Bk w9 _ _ #[_, .int .i64 (((cutP x 0).B.length : Nat) : Int), _]; rw [hcl.2.1]; exact Y2.out, by
                    show SlQ w9 _ _ (cutP x 0).W.length (cellK (cutP x 0))
                    rw [hcl.1, ← hNN]
                    exact HSL7.out.heap (fun h0 => Y3.out.block _ (HSL7.out.lt h0) (by
                      have h0L : 0 < x.W.length := by rw [hNN] at h0; omega
                      rintro (e | e)
                      · exact (H3.out.nef hf3).2.1 h0L e
                      · exact Hng.out h0L e))⟩
                  Y1.out
                  (fun i hi n1 n2 n3 => (Y3.out.block i (by omega) (by rintro (e | e); exact n1 e; exact n2 e)).trans (HC7.out.block i hi (by rintro (e | ⟨h0, e⟩); exact n2 e; exact n3 h0 e)))
                  (fun h0 => .inl ⟨by have h0' : 0 < (cutP x 0).W.length := h0; rw [hcl.1] at h0'; omega, rfl⟩)
                  (fun u => by
                    rw [find_stamp (cutP x 0) HF.out.1 u]
                    by_cases e : u = s.data.toList
                    · rw [if_pos e, if_pos e]
                    · rw [if_neg e, if_neg e]; unfold findP; rw [e3])
                  (by rw [e2]; exact Nat.le_succ _) (stampF_wf HM.out.wf HF.out.1 (cutP_wf hxw hN) (by rw [hcl.1]; have := HM.out.wf.room; omega))
                refine ⟨rfl, ⟨m, bl, _, _, hset.1, fun i hi => ?_⟩, ?_⟩
                · rcases hi with rfl | rfl | ⟨n, z, hz, hi⟩
                  · exact hOf
                  · exact HO.out _ (.inr (.inl rfl))
                  · rw [find_stamp (cutP x 0) HF.out.1 n] at hz
                    by_cases e : n = s.data.toList
                    · subst e
                      rw [if_pos rfl] at hz
                      obtain rfl := Option.some.inj hz
                      simp only [if_pos] at hi
                      rcases hi with rfl | ⟨h0, rfl⟩
                      · exact hOb
                      · have h0' : 0 < (cutP x 0).W.length := h0
                        rw [hcl.1] at h0'
                        exact hOg (by omega)
                    · rw [if_neg e] at hz
                      simp only [if_neg e] at hi
                      exact HO.out i (.inr (.inr ⟨n, z, hz, hi⟩))
                · exact ((K3.out.mono (fun i hi => hi ▸ hOf)).trans HC7.out (fun i hi => .inl (by rcases hi with rfl | ⟨h0, rfl⟩; exact hOb; exact hOg h0))).trans Y3.out (fun i hi => .inl (by rcases hi with rfl | rfl; exact hOf; exact hOb))
            · obtain ⟨cc, cs, hsl, z1, z2, z3, z4, z5⟩ := hfl.sl.pos (by omega)
              injection hsl with hs1 hs2 hs3
              subst hs1 hs3
              clear hs2
              have hgb := Hng.out (by omega)
              have HZ := Lib.hid (And.intro z3 (And.intro z4 (And.intro z5 (And.intro hgb hL))))
              by_cases h64 : N % 64 = 0
              · have he : ¬ ((0 : Int) < (N : Int) % 64) := by omega
                have H64 := Lib.hid h64
                clear z1 z2 z3 z4 z5 hgb h64
                clear h3 k3 hf3 hfl hsv hc1 hc2 hbl hgl e1 e2 e3 e4 e5 hxw hcl hNN hNL hB8 hLm hxB hN hL
                go_upto_region 8 with fail
                go_cut [] (fun wx => wx = (w3.drew.setCell ⟨b, 1, none⟩ (.int .i64 (N : Int))).setCell ⟨b, 0, none⟩ (.slice (some ⟨g, 0, none⟩) NN NN))
                case first =>
                  go_region_law (first | (go_simp; go_at_call 91; refine (HNd.out _).mono ?_; rintro e w5 ⟨rfl, hw5⟩; subst hw5))
                  all_goals (first | (go_meet; exact rfl) | (go_wp2_with fail; go_meet; exact rfl))
                subst hcut
                have HBg := Lib.hid (HZ.out.1.ch HC8.out HZ.out.2.2.2.1)
                generalize (w3.drew.setCell ⟨b, 1, none⟩ (.int .i64 (N : Int))).setCell ⟨b, 0, none⟩ (.slice (some ⟨g, 0, none⟩) NN NN) = w7 at *
                have HB7 := Lib.hid (show Bk w7 b 87 #[.slice (some ⟨g, 0, none⟩) NN NN, .int .i64 (N : Int), .int .i64 (x.stamp : Int)] from HB8.out)
                have HC7 := Lib.hid (show Ch (fun i => i = b ∨ (0 < x.W.length ∧ i = g)) w3 w7 from HC8.out.mono (fun _ h => .inl h))
                have HSL7 := Lib.hid (show SlQ w7 (.slice (some ⟨g, 0, none⟩) NN NN) g NN (cellK (cutP x N)) from by
                  obtain ⟨hN, hxB, hNN, hcl, hLm⟩ := HX.out
                  obtain ⟨z3, z4, z5, hgb, hL⟩ := HZ.out
                  have hc9 := HF3.out.2.2.2.1
                  have hc8 := hcl.2.2
                  refine ⟨_, _, rfl, Nat.le_refl _, by unfold maxLen; omega, ?_⟩
                  rcases Nat.eq_zero_or_pos NN with h0 | h0
                  · exact .inl ⟨h0, h0⟩
                  · refine .inr ⟨h0, rfl, cs, HBg.out, by omega, fun j hj r hr => csG_even z5 HF3.out.2.2.2.2.2 hN H64.out (by omega) hr⟩)
                have hd3 := H3.out.hd
                rw [HBR.out.2.1] at hd3
                have hd7 := hd3.ch HC7.out (by rintro (e | ⟨h0, e⟩); exact (H3.out.nef HF3.out.1).1 (by rw [Hbg.out.1]; exact e.symm); exact (H3.out.nef HF3.out.1).2.1 h0 (by rw [Hbg.out.2]; exact e.symm))
                have HCH := Lib.hid (changed_any f b S.stamp _ _ _ _ _ _ _ w7 hd7 HB7.out HS.out.2)
                clear hd3 hd7
                go_wp2_with fail
                with_reducible refine HCH.out.mono ?_
                rintro e w9 ⟨rfl, y1, y2, y3⟩
                have Y1 := Lib.hid y1
                have Y2 := Lib.hid y2
                have Y3 := Lib.hid y3
                clear y1 y2 y3
                go_wp2_with fail
                go_ret
                obtain ⟨hbl, hgl⟩ := Hbg.out
                subst hbl hgl
                obtain ⟨hf3, hfl, hsv, hc1, hc2, hxw⟩ := HF3.out
                obtain ⟨e1, e2, e3⟩ := HBR.out
                obtain ⟨hN, hxB, hNN, hcl, hLm⟩ := HX.out
                have hOf := HO.out f (.inl rfl)
                have hOb : O (bl s.data.toList) := HO.out _ (.inr (.inr ⟨_, x, HF.out.1, .inl rfl⟩))
                have hOg : 0 < x.W.length → O (gl s.data.toList) := fun h0 => HO.out _ (.inr (.inr ⟨_, x, HF.out.1, .inr ⟨h0, rfl⟩⟩))
                have s7 := HC7.out.size
                have hset := H3.out.setF (W' := w9) (S' := stampF S s.data.toList (cutP x N)) (g' := gl s.data.toList) (sv' := .slice (some ⟨gl s.data.toList, 0, none⟩) NN NN) (y := { cutP x N with stamp := S.stamp + 1 }) hf3
                  ⟨by show Bk w9 _ _ #[_, .int .i64 (((cutP x N).B.length : Nat) : Int), _]; rw [hcl.2.1]; exact Y2.out, by
                    show SlQ w9 _ _ (cutP x N).W.length (cellK (cutP x N))
                    rw [hcl.1, ← hNN]
                    exact HSL7.out.heap (fun h0 => Y3.out.block _ (HSL7.out.lt h0) (by
                      have h0L : 0 < x.W.length := by rw [hNN] at h0; omega
                      rintro (e | e)
                      · exact (H3.out.nef hf3).2.1 h0L e
                      · exact Hng.out h0L e))⟩
                  Y1.out
                  (fun i hi n1 n2 n3 => (Y3.out.block i (by omega) (by rintro (e | e); exact n1 e; exact n2 e)).trans (HC7.out.block i hi (by rintro (e | ⟨h0, e⟩); exact n2 e; exact n3 h0 e)))
                  (fun h0 => .inl ⟨by have h0' : 0 < (cutP x N).W.length := h0; rw [hcl.1] at h0'; omega, rfl⟩)
                  (fun u => by
                    rw [find_stamp (cutP x N) HF.out.1 u]
                    by_cases e : u = s.data.toList
                    · rw [if_pos e, if_pos e]
                    · rw [if_neg e, if_neg e]; unfold findP; rw [e3])
                  (by rw [e2]; exact Nat.le_succ _) (stampF_wf HM.out.wf HF.out.1 (cutP_wf hxw hN) (by rw [hcl.1]; have := HM.out.wf.room; omega))
                refine ⟨rfl, ⟨m, bl, _, _, hset.1, fun i hi => ?_⟩, ?_⟩
                · rcases hi with rfl | rfl | ⟨n, z, hz, hi⟩
                  · exact hOf
                  · exact HO.out _ (.inr (.inl rfl))
                  · rw [find_stamp (cutP x N) HF.out.1 n] at hz
                    by_cases e : n = s.data.toList
                    · subst e
                      rw [if_pos rfl] at hz
                      obtain rfl := Option.some.inj hz
                      simp only [if_pos] at hi
                      rcases hi with rfl | ⟨h0, rfl⟩
                      · exact hOb
                      · have h0' : 0 < (cutP x N).W.length := h0
                        rw [hcl.1] at h0'
                        exact hOg (by omega)
                    · rw [if_neg e] at hz
                      simp only [if_neg e] at hi
                      exact HO.out i (.inr (.inr ⟨n, z, hz, hi⟩))
                · exact ((K3.out.mono (fun i hi => hi ▸ hOf)).trans HC7.out (fun i hi => .inl (by rcases hi with rfl | ⟨h0, rfl⟩; exact hOb; exact hOg h0))).trans Y3.out (fun i hi => .inl (by rcases hi with rfl | rfl; exact hOf; exact hOb))
              · obtain ⟨K, hK⟩ : ∃ K, K = N / 64 := ⟨_, rfl⟩
                obtain ⟨R0, hR0⟩ : ∃ R0, R0 = N % 64 := ⟨_, rfl⟩
                have hNK : NN = K + 1 := by rw [hNN, hK]; unfold needN; omega
                have he : (0 : Int) < (N : Int) % 64 := by omega
                have eK : (NN : Int) - 1 = (K : Int) := by omega
                have iK : (K : Int) < (NN : Int) := by omega
                have iK0 : K < NN := by omega
                have hKb : K < 70000 := by have := hcl.2.2; omega
                have hR64 : R0 ≤ 64 := by omega
                have HeR := Lib.hid (show (N : Int) % 64 = (R0 : Int) by omega)
                have HR := Lib.hid (And.intro hK (And.intro hR0 (And.intro hNK h64)))
                have hfit : K * 129 + 129 ≤ cs.size := by omega
                clear z1 z2 z3 z4 z5 hgb h64 hK hR0 hNK
                clear h3 k3 hf3 hfl hsv hc1 hc2 hbl hgl e1 e2 e3 e4 e5 hxw hcl hNN hNL hB8 hLm hxB hN hL
                go_upto_region 8 with fail
                go_cut [] (fun wx => wx = (w3.drew.setCell ⟨b, 1, none⟩ (.int .i64 (N : Int))).setCell ⟨b, 0, none⟩ (.slice (some ⟨g, 0, none⟩) NN NN))
                case first =>
                  go_region_law (first | (go_simp; go_at_call 91; refine (HNd.out _).mono ?_; rintro e w5 ⟨rfl, hw5⟩; subst hw5))
                  all_goals (first | (go_meet; exact rfl) | (go_wp2_with fail; go_meet; exact rfl))
                subst hcut
                have HBg := Lib.hid (HZ.out.1.ch HC8.out HZ.out.2.2.2.1)
                generalize (w3.drew.setCell ⟨b, 1, none⟩ (.int .i64 (N : Int))).setCell ⟨b, 0, none⟩ (.slice (some ⟨g, 0, none⟩) NN NN) = w8 at *
                clear d0 d1 f0 f1
                have d0 : w8.cell? ⟨b, 0, none⟩ = some (.slice (some ⟨g, 0, none⟩) NN NN) := HB8.out.cell 0
                go_wp2_with fail
                go_quiet (fail)
                go_upto_region 14 with (first
                  | (with_reducible refine at_slice ?_; (apply slice_sec2 (g := g) (o := K * 129) (kl := .i64) (xl := (N : Int) % 64) R0); (case hr => omega); (case hs => kernel_rfl); (case hl => kernel_rfl); (case el => exact HeR.out); (case hw => kernel_rfl); intro A6 hA6; replace hA6 := Lib.hid hA6; try go_frame)
                  | (with_reducible refine at_clear ?_; (apply cl_any (o := K * 129 + R0) (n := 64 - R0) (c := 64 - R0) (A := A6) (HBg.out.drewN nq)); (case hfit => have := hfit; omega); (case hA => intro h0; exact hA6.out (by omega)); (case hx => kernel_rfl); (case hw => kernel_rfl); (have hB9 := (HBg.out.drewN nq).cells (List.replicate (64 - R0) (.int .u8 0)) (K * 129 + R0)); (obtain ⟨v9, k9⟩ := Option.isSome_iff_exists.1 (hB9.isSome (i := K * 129 + 128) (by rw [putA_size]; omega))); (have k9f := hB9.free (K * 129 + 128)); (have HB9 := Lib.hid hB9); clear hB9; try go_frame))
                have HB7 := Lib.hid (show Bk (((w8.drewN nq).setCells g (K * 129 + R0) (List.replicate (64 - R0) (.int .u8 0))).setCell ⟨g, K * 129 + 128, none⟩ (.bool true)) b 87 #[.slice (some ⟨g, 0, none⟩) NN NN, .int .i64 (N : Int), .int .i64 (x.stamp : Int)] from
                  ((Below.heap_setCell _ _ _ b (Ne.symm HZ.out.2.2.2.1)).trans (heap_setCells g _ _ _ b (Ne.symm HZ.out.2.2.2.1))).trans (HB8.out.drewN nq))
                have HC7 := Lib.hid (show Ch (fun i => i = b ∨ (0 < x.W.length ∧ i = g)) w3 (((w8.drewN nq).setCells g (K * 129 + R0) (List.replicate (64 - R0) (.int .u8 0))).setCell ⟨g, K * 129 + 128, none⟩ (.bool true)) from
                  (((HC8.out.mono (fun _ h => .inl h)).drewN nq).cells (b := g) (.inl (.inr ⟨by have := HZ.out.2.2.2.2; omega, rfl⟩)) _ _).set (p := ⟨g, K * 129 + 128, none⟩) (.inl (.inr ⟨by have := HZ.out.2.2.2.2; omega, rfl⟩)) _)
                have HBg7 := Lib.hid (HB9.out.set (K * 129 + 128) (.bool true))
                generalize ((w8.drewN nq).setCells g (K * 129 + R0) (List.replicate (64 - R0) (.int .u8 0))).setCell ⟨g, K * 129 + 128, none⟩ (.bool true) = w7 at *
                clear k9 k9f HB9 d0
                have HSL7 := Lib.hid (show SlQ w7 (.slice (some ⟨g, 0, none⟩) NN NN) g NN (cellK (cutP x N)) from by
                  obtain ⟨hN, hxB, hNN, hcl, hLm⟩ := HX.out
                  obtain ⟨z3, z4, z5, hgb, hL⟩ := HZ.out
                  have hc9 := HF3.out.2.2.2.1
                  have hc8 := hcl.2.2
                  obtain ⟨hK, hR0, hNK, h64⟩ := HR.out
                  refine ⟨_, _, rfl, Nat.le_refl _, by unfold maxLen; omega, .inr ⟨by omega, rfl, _, HBg7.out, ?_, fun j hj r hr => ?_⟩⟩
                  · rw [Array.size_setIfInBounds, putA_size]; omega
                  · have := csG_all z5 HF3.out.2.2.2.2.2 hN h64 (by omega) (j := j) (r := r) (by omega) hr
                    rw [← hK, ← hR0] at this
                    exact this)
                have hd3 := H3.out.hd
                rw [HBR.out.2.1] at hd3
                have hd7 := hd3.ch HC7.out (by rintro (e | ⟨h0, e⟩); exact (H3.out.nef HF3.out.1).1 (by rw [Hbg.out.1]; exact e.symm); exact (H3.out.nef HF3.out.1).2.1 h0 (by rw [Hbg.out.2]; exact e.symm))
                have HCH := Lib.hid (changed_any f b S.stamp _ _ _ _ _ _ _ w7 hd7 HB7.out HS.out.2)
                clear hd3 hd7
                go_wp2_with fail
                with_reducible refine HCH.out.mono ?_
                rintro e w9 ⟨rfl, y1, y2, y3⟩
                have Y1 := Lib.hid y1
                have Y2 := Lib.hid y2
                have Y3 := Lib.hid y3
                clear y1 y2 y3
                go_wp2_with fail
                go_ret
                obtain ⟨hbl, hgl⟩ := Hbg.out
                subst hbl hgl
                obtain ⟨hf3, hfl, hsv, hc1, hc2, hxw⟩ := HF3.out
                obtain ⟨e1, e2, e3⟩ := HBR.out
                obtain ⟨hN, hxB, hNN, hcl, hLm⟩ := HX.out
                have hOf := HO.out f (.inl rfl)
                have hOb : O (bl s.data.toList) := HO.out _ (.inr (.inr ⟨_, x, HF.out.1, .inl rfl⟩))
                have hOg : 0 < x.W.length → O (gl s.data.toList) := fun h0 => HO.out _ (.inr (.inr ⟨_, x, HF.out.1, .inr ⟨h0, rfl⟩⟩))
                have s7 := HC7.out.size
                have hset := H3.out.setF (W' := w9) (S' := stampF S s.data.toList (cutP x N)) (g' := gl s.data.toList) (sv' := .slice (some ⟨gl s.data.toList, 0, none⟩) NN NN) (y := { cutP x N with stamp := S.stamp + 1 }) hf3
                  ⟨by show Bk w9 _ _ #[_, .int .i64 (((cutP x N).B.length : Nat) : Int), _]; rw [hcl.2.1]; exact Y2.out, by
                    show SlQ w9 _ _ (cutP x N).W.length (cellK (cutP x N))
                    rw [hcl.1, ← hNN]
                    exact HSL7.out.heap (fun h0 => Y3.out.block _ (HSL7.out.lt h0) (by
                      have h0L : 0 < x.W.length := by rw [hNN] at h0; omega
                      rintro (e | e)
                      · exact (H3.out.nef hf3).2.1 h0L e
                      · exact Hng.out h0L e))⟩
                  Y1.out
                  (fun i hi n1 n2 n3 => (Y3.out.block i (by omega) (by rintro (e | e); exact n1 e; exact n2 e)).trans (HC7.out.block i hi (by rintro (e | ⟨h0, e⟩); exact n2 e; exact n3 h0 e)))
                  (fun h0 => .inl ⟨by have h0' : 0 < (cutP x N).W.length := h0; rw [hcl.1] at h0'; omega, rfl⟩)
                  (fun u => by
                    rw [find_stamp (cutP x N) HF.out.1 u]
                    by_cases e : u = s.data.toList
                    · rw [if_pos e, if_pos e]
                    · rw [if_neg e, if_neg e]; unfold findP; rw [e3])
                  (by rw [e2]; exact Nat.le_succ _) (stampF_wf HM.out.wf HF.out.1 (cutP_wf hxw hN) (by rw [hcl.1]; have := HM.out.wf.room; omega))
                refine ⟨rfl, ⟨m, bl, _, _, hset.1, fun i hi => ?_⟩, ?_⟩
                · rcases hi with rfl | rfl | ⟨n, z, hz, hi⟩
                  · exact hOf
                  · exact HO.out _ (.inr (.inl rfl))
                  · rw [find_stamp (cutP x N) HF.out.1 n] at hz
                    by_cases e : n = s.data.toList
                    · subst e
                      rw [if_pos rfl] at hz
                      obtain rfl := Option.some.inj hz
                      simp only [if_pos] at hi
                      rcases hi with rfl | ⟨h0, rfl⟩
                      · exact hOb
                      · have h0' : 0 < (cutP x N).W.length := h0
                        rw [hcl.1] at h0'
                        exact hOg (by omega)
                    · rw [if_neg e] at hz
                      simp only [if_neg e] at hi
                      exact HO.out i (.inr (.inr ⟨n, z, hz, hi⟩))
                · exact ((K3.out.mono (fun i hi => hi ▸ hOf)).trans HC7.out (fun i hi => .inl (by rcases hi with rfl | ⟨h0, rfl⟩; exact hOb; exact hOg h0))).trans Y3.out (fun i hi => .inl (by rcases hi with rfl | rfl; exact hOf; exact hOb))
end Go.Proofs.YtoadamkmabkldaaGreatDoor
