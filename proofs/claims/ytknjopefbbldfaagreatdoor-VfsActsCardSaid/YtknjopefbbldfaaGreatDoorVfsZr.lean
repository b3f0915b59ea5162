/- The document's store: byteAt, last, Sync. -/
import Derived.Test.YtknjopefbbldfaaGreatDoorVfsZo
import Derived.Test.YtknjopefbbldfaaGreatDoorVfsF
namespace Go.Proofs.YtknjopefbbldfaaGreatDoor
open Go.RowKit
attribute [local go_sem ↓] Go.wp_at_zero Go.wp_at_succ

set_option maxHeartbeats 1000000 in
theorem byteAt_any (R : RfR) (nm : List UInt8) (x : FlP) (i : Nat) (w : World) (h : RfF w R nm x) (hB : x.B.length ≤ 100000000) (hi : i ≤ 100000000) :
    Calls Tryz.prog 59 #[.pointer (some ⟨R.b, 0, none⟩), .int .i64 (i : Int)] w fun e w' => e = .returned (.int .u8 ((byP x.B i).toNat : Int)) ∧ w' = w := by
  obtain ⟨AB, cB, AO, cO, AW, cW, dB, _, _⟩ := h.heads
  obtain ⟨L, hL⟩ : ∃ L, L = x.B.length := ⟨_, rfl⟩
  rw [← hL] at dB hB
  by_cases hlt : i < L
  · obtain ⟨g, c, hv, _, hc, _⟩ := h.rowB (by omega)
    obtain ⟨u, hu⟩ : ∃ u, x.B[i]? = some u := ⟨_, List.getElem?_eq_getElem (by rw [← hL]; exact hlt)⟩
    have x1 := hc i u hu
    have x0 : w.cell? ⟨R.b, 1, none⟩ = some (.slice (some ⟨g, 0, none⟩) L c) := by rw [hL, ← hv]; exact h.hd.cell 1
    have e : byP x.B i = u := by unfold byP; rw [hu]; rfl
    rw [e]
    have hi1 : (i : Int) < (L : Int) := by omega
    generalize R.b = b at *
    clear hu hv hc h dB hL e
    go_enter Tryz.func59, Tryz.ntmps59
    go_wp2
    go_ret
    exact ⟨rfl, by first | rfl | trivial⟩
  · have e : byP x.B i = 0 := byP_end (by omega)
    rw [e]
    have hi1 : ¬ (i : Int) < (L : Int) := by omega
    generalize R.b = b at *
    clear h hL e
    go_enter Tryz.func59, Tryz.ntmps59
    go_wp2
    go_ret
    exact ⟨rfl, by first | rfl | trivial⟩
/-- Old, when so many bytes of a sector last. -/
def lstO (x : FlP) (k j : Nat) : List UInt8 := x.O.mapIdx fun i o => if i / 64 = k ∧ i < 64 * k + j then byP x.B i else o
theorem lstO_len (x : FlP) (k j : Nat) : (lstO x k j).length = x.O.length := by simp [lstO]
theorem lstO_zero (x : FlP) (k : Nat) : lstO x k 0 = x.O := by
  unfold lstO
  apply List.ext_getElem?
  intro i
  rw [List.getElem?_mapIdx]
  cases x.O[i]? with
  | none => rfl
  | some v => simp only [Option.map_some]; rw [if_neg (by omega)]
theorem lstO_step (x : FlP) (k j : Nat) (hj : j < 64) : (lstO x k j).set (64 * k + j) (byP x.B (64 * k + j)) = lstO x k (j + 1) := by
  unfold lstO
  apply List.ext_getElem?
  intro i
  rw [List.getElem?_set, List.getElem?_mapIdx, List.getElem?_mapIdx, List.length_mapIdx]
  by_cases e : 64 * k + j = i
  · subst e
    rw [if_pos rfl]
    by_cases hl : 64 * k + j < x.O.length
    · rw [if_pos hl, List.getElem?_eq_getElem hl]; simp only [Option.map_some]; rw [if_pos (by omega)]
    · rw [if_neg hl, List.getElem?_eq_none (by omega)]; rfl
  · rw [if_neg e]
    cases x.O[i]? with
    | none => rfl
    | some v =>
      simp only [Option.map_some]
      by_cases h1 : i / 64 = k ∧ i < 64 * k + j
      · rw [if_pos h1, if_pos (by omega)]
      · rw [if_neg h1, if_neg (by omega)]
theorem lstO_all (x : FlP) (k : Nat) : lastP x k = { x with O := lstO x k 64, W := x.W.set k false } := by
  unfold lastP lstO
  congr 1
  apply List.ext_getElem?
  intro i
  rw [List.getElem?_mapIdx, List.getElem?_mapIdx]
  cases x.O[i]? with
  | none => rfl
  | some v =>
    simp only [Option.map_some]
    by_cases h1 : i / 64 = k
    · rw [if_pos h1, if_pos (by omega)]
    · rw [if_neg h1, if_neg (by omega)]
set_option maxHeartbeats 4000000 in
set_option maxRecDepth 100000 in
theorem last_any (R : RfR) (nm : List UInt8) (x : FlP) (k : Nat) (w : World) (h : RfF w R nm x) (hw : x.WF) (hk : k < x.W.length) (hW : x.W.length ≤ 100000) :
    Calls Tryz.prog 52 #[.pointer (some ⟨R.b, 0, none⟩), .int .i64 (k : Int)] w fun e w' => e = .returned (.tuple #[]) ∧ RfF w' R nm (lastP x k) ∧ Ch R.has w w' := by
  obtain ⟨LO, hLO⟩ : ∃ L, L = x.O.length := ⟨_, rfl⟩
  obtain ⟨LW, hLW⟩ : ∃ L, L = x.W.length := ⟨_, rfl⟩
  have hO64 : LO = 64 * LW := by rw [hLO, hLW]; exact hw.o
  have hBb : x.B.length ≤ 100000000 := by have h1 := hw.w; have h2 := needN_ge x.B.length; omega
  rw [← hLW] at hk hW
  obtain ⟨K, hK⟩ : ∃ K, K = 64 * k := ⟨_, rfl⟩
  have e1 : IntKind.i64.wrap (64 * (k : Int)) = (K : Int) := by rw [IntWalk.i64_in _ (by omega)]; omega
  have e2 : IntKind.i64.wrap ((K : Int) + 64) = ((K + 64 : Nat) : Int) := by rw [IntWalk.i64_in _ (by omega)]; omega
  have HX := Lib.hid (And.intro hLO (And.intro hLW (And.intro hO64 (And.intro hBb hK))))
  have H0 := Lib.hid (show RfF w R nm { x with O := lstO x k 0 } ∧ Ch R.has w w from ⟨by rw [lstO_zero]; exact h, Ch.refl _ _⟩)
  generalize hs1 : ((K + 64 : Nat) : Int) = s1 at *
  have hKb : K + 64 ≤ 6400000 ∧ K + 64 ≤ LO := by omega
  obtain ⟨hKb, hKO⟩ := hKb
  have hLOb : LO ≤ 6400000 := by omega
  clear h hw hLO hLW hO64 hBb hK
  go_enter Tryz.func52, Tryz.ntmps52
  go_wp2_with fail
  go_loopw [4] (fun s4 wr => ∃ j : Nat, s4 = .int .i64 ((K + j : Nat) : Int) ∧ j ≤ 64 ∧ Hid (RfF wr R nm { x with O := lstO x k j } ∧ Ch R.has w wr)) (fun s4 _ => K + 64 - (intOf s4).toNat)
  case atStart => exact ⟨0, by simp, by omega, H0⟩
  case round =>
    obtain ⟨j, rfl, hj, HI⟩ := hrel
    obtain ⟨P, hP⟩ : ∃ P, P = K + j := ⟨_, rfl⟩
    rw [← hP]
    by_cases hlt : j < 64
    · have hl : (lstO x k j).length = LO := by rw [lstO_len, HX.out.1]
      obtain ⟨g, c, hv, _, hc, hfz⟩ := HI.out.1.rowO (by dsimp only; rw [hl]; omega)
      dsimp only at hv hc
      rw [hl] at hv
      have x1 : wr.cell? ⟨R.b, 2, none⟩ = some (.slice (some ⟨g, 0, none⟩) LO c) := by rw [← hv]; exact HI.out.1.hd.cell 2
      have hPO : P < LO := by omega
      obtain ⟨u, hu⟩ : ∃ u, (lstO x k j)[P]? = some u := ⟨_, List.getElem?_eq_getElem (by rw [hl]; exact hPO)⟩
      have x2 := hc P u hu
      have x2f := hfz P
      have hPi : (P : Int) < (LO : Int) := by omega
      have hP0 : (0 : Int) ≤ (P : Int) := by omega
      have hPs : (P : Int) < s1 := by omega
      have HBy := Lib.hid (show Calls Tryz.prog 59 #[.pointer (some ⟨R.b, 0, none⟩), .int .i64 (P : Int)] wr.drew fun e w' => e = .returned (.int .u8 ((byP x.B P).toNat : Int)) ∧ w' = wr.drew from
        byteAt_any R nm { x with O := lstO x k j } P wr.drew (HI.out.1.heap (fun _ _ => rfl)) HX.out.2.2.2.1 (by omega))
      have hn := HI.out.1.byteO (g := g) (L := LO) (c := c) hv P (byP x.B P)
      have HN := Lib.hid (show RfF (wr.setCell ⟨g, P, none⟩ (.int .u8 ((byP x.B P).toNat : Int))) R nm { x with O := lstO x k (j + 1) } ∧ Ch R.has w (wr.setCell ⟨g, P, none⟩ (.int .u8 ((byP x.B P).toNat : Int))) from
        ⟨by
          have e := lstO_step x k j hlt
          rw [← HX.out.2.2.2.2, ← hP] at e
          rw [← e]; exact hn, HI.out.2.set (p := ⟨g, P, none⟩) (.inl (.inr (.inr (.inl (by rw [hv]; rfl))))) _⟩)
      have X1 := Lib.hid (show (wr.setCell ⟨g, P, none⟩ (.int .u8 ((byP x.B P).toNat : Int))).cell? ⟨R.b, 2, none⟩ = some (.slice (some ⟨g, 0, none⟩) LO c) from by rw [← hv]; exact hn.hd.cell 2)
      obtain ⟨U, hU⟩ : ∃ U : Int, U = ((byP x.B P).toNat : Int) := ⟨_, rfl⟩
      rw [← hU] at HBy HN X1
      have HP := Lib.hid hP
      generalize hRb : R.b = b at *
      have HRb := Lib.hid hRb
      clear hl hv hc hfz hu hn hU hP HI hRb
      go_wp2_with fail
      go_region_held3 (fun w' => w'.cell? ⟨b, 2, none⟩ = some (.slice (some ⟨g, 0, none⟩) LO c)) (first | exact x1 | exact X1.out | go_keep) ((go_at_call 59; with_reducible refine (HBy.out).mono ?_; rintro e w5 ⟨rfl, hw5⟩; subst hw5))
      go_wp2_with fail
      go_roundw
      case rel => exact ⟨j + 1, by have := HP.out; congr 1; omega, by omega, Lib.hid ⟨HN.out.1.heap (fun _ _ => rfl), HN.out.2.drew⟩⟩
      case measure => simp [intOf]; omega
    · have hj64 : j = 64 := by omega
      have hPs : (P : Int) = s1 := by omega
      have hPs2 : ¬ (P : Int) < s1 := by omega
      have hlW : x.W.length = LW := HX.out.2.1.symm
      obtain ⟨g, c, hv, _, hc, hfz⟩ := HI.out.1.rowW (by dsimp only; rw [hlW]; omega)
      dsimp only at hv hc
      rw [hlW] at hv
      have x1 : wr.cell? ⟨R.b, 3, none⟩ = some (.slice (some ⟨g, 0, none⟩) LW c) := by rw [← hv]; exact HI.out.1.hd.cell 3
      obtain ⟨t, ht⟩ : ∃ t, x.W[k]? = some t := ⟨_, List.getElem?_eq_getElem (by rw [hlW]; exact hk)⟩
      have x2 := hc k t ht
      have x2f := hfz k
      have hki : (k : Int) < (LW : Int) := by omega
      have HN := Lib.hid (show RfF (wr.setCell ⟨g, k, none⟩ (.bool false)) R nm (lastP x k) ∧ Ch R.has w (wr.setCell ⟨g, k, none⟩ (.bool false)) from
        ⟨by rw [lstO_all, ← hj64]; exact HI.out.1.boolW (g := g) (L := LW) (c := c) hv k false, HI.out.2.set (p := ⟨g, k, none⟩) (.inl (.inr (.inr (.inr (by rw [hv]; rfl))))) _⟩)
      generalize hRb : R.b = b at *
      clear hv hc hfz ht hlW hP HI hj64 hRb hPs
      go_wp2_with fail
      go_end0
      exact ⟨rfl, HN.out.1, HN.out.2⟩
theorem syncN_len (x : FlP) (hw : x.WF) (k : Nat) : (syncN x k).W.length = x.W.length := (same_syncN hw k).w
set_option maxHeartbeats 4000000 in
set_option maxRecDepth 100000 in
theorem rsync_any (r : Nat) (O : Nat → Prop) (S : FsP) (s : ByteArray) (w : World) (h : RfA w O r S) (hm : S.fs.length ≤ 1000) :
    Calls Tryz.prog 25 #[.pointer (some ⟨r, 0, none⟩), .string s] w fun e w' => e = .returned (.int .i64 ((syncF S s.data.toList).1 : Int)) ∧ RfA w' (fun i => O i ∨ w.heap.size ≤ i) r (syncF S s.data.toList).2 ∧ Ch O w w' := by
  have H := Lib.hid h
  obtain ⟨vL, Rs, hM, hO⟩ := h
  have HM := Lib.hid hM
  have HO := Lib.hid hO
  have d4 : w.cell? ⟨r, 4, none⟩ = some (.bool S.down) := hM.hd.cell 4
  have HF := Lib.hid (find_any r vL Rs S s w hM)
  have HB := Lib.hid (rburn_fs r vL Rs S w hM)
  have HX := Lib.hid hm
  have hwf := hM.wf
  clear hO hm
  unfold syncF
  cases hd : S.down with
  | true =>
    rw [hd] at d4
    clear hd hwf hM
    go_enter Tryz.func25, Tryz.ntmps25
    go_wp2_with fail
    go_ret
    exact ⟨rfl, H.out.wide, Ch.refl _ _⟩
  | false =>
    rw [hd] at d4
    cases hf : findP S s.data.toList with
    | none =>
      have hi := idx_no hwf hf
      rw [hi] at HF
      clear hd hwf hf hi hM
      go_enter Tryz.func25, Tryz.ntmps25
      go_wp2_with fail
      with_reducible refine (HF.out).mono ?_
      rintro e wz ⟨rfl, hwz⟩
      replace hwz := hwz.symm
      subst hwz
      go_wp2_with fail
      go_ret
      exact ⟨rfl, H.out.wide, Ch.refl _ _⟩
    | some x =>
      obtain ⟨i, hi, hfs⟩ := idx_yes hwf hf
      rw [hi] at HF
      have hi0 : ¬ (i : Int) < (0 : Int) := by omega
      cases hb : burnP S with
      | false =>
        rw [hb] at HB
        clear hd hwf hf hi hb hfs hM
        go_enter Tryz.func25, Tryz.ntmps25
        go_wp2_with fail
        with_reducible refine (HF.out).mono ?_
        rintro e wz ⟨rfl, hwz⟩
        replace hwz := hwz.symm
        subst hwz
        go_wp2_with fail
        with_reducible refine (HB.out).mono ?_
        rintro e w1 ⟨rfl, h1, k1⟩
        have H1 := Lib.hid h1
        have K1 := Lib.hid k1
        clear h1 k1
        go_wp2_with fail
        go_ret
        obtain ⟨e1, e2, e3, e4, e5⟩ := burntP_parts S
        refine ⟨rfl, ⟨vL, Rs, H1.out, fun i hi => .inl (HO.out i hi)⟩, K1.out.mono (fun i hi => by rw [hi]; exact HO.out r (.inl rfl))⟩
      | true =>
        rw [hb] at HB
        have huse : x.W.length ≤ 65536 := by
          have h1 := use_le (lookup_mem hf)
          have h2 := hwf.room
          have h3 := hwf.most2
          simp only at h1
          omega
        obtain ⟨R, gL, cL, hR, hvL, hiR, dp, hff⟩ := hM.file hfs
        have hNb : Rs.length ≤ 1000 := by rw [hM.len]; exact HX.out
        obtain ⟨N, hN⟩ : ∃ k, k = Rs.length := ⟨_, rfl⟩
        obtain ⟨LW, hLW⟩ : ∃ k, k = x.W.length := ⟨_, rfl⟩
        rw [← hN] at hNb hiR
        rw [← hLW] at huse
        have HL := Lib.hid (And.intro hR (And.intro hvL (And.intro hN (And.intro hLW (And.intro (hwf.files _ (lookup_mem hf)) (And.intro hfs (And.intro hf hwf)))))))
        clear hd hwf hf hi hb hfs hM hR hvL hN hLW hff dp
        go_enter Tryz.func25, Tryz.ntmps25
        go_wp2_with fail
        with_reducible refine (HF.out).mono ?_
        rintro e wz ⟨rfl, hwz⟩
        replace hwz := hwz.symm
        subst hwz
        go_wp2_with fail
        with_reducible refine (HB.out).mono ?_
        rintro e w1 ⟨rfl, h1, k1⟩
        have H1 := Lib.hid h1
        have K1 := Lib.hid k1
        clear h1 k1
        go_wp2_with fail
        have hx1 : (burntP S).fs[i]? = some (s.data.toList, x) := by rw [(burntP_parts S).2.2.1]; exact HL.out.2.2.2.2.2.1
        have HI0 := Lib.hid (show RfF w1 R s.data.toList (syncN x 0) ∧ Ch R.has w1 w1 from ⟨H1.out.fl i R _ HL.out.1 hx1, Ch.refl _ _⟩)
        have Hx1 := Lib.hid hx1
        clear hx1 d4
        go_loopw [6] (fun s6 wr => ∃ k : Nat, s6 = .int .i64 (k : Int) ∧ k ≤ LW ∧ Hid (RfF wr R s.data.toList (syncN x k) ∧ Ch R.has w1 wr)) (fun s6 _ => LW - (intOf s6).toNat)
        case atStart => exact ⟨0, rfl, Nat.zero_le _, HI0⟩
        case round =>
          obtain ⟨k, rfl, hk, HI⟩ := hrel
          obtain ⟨hR, hvL, hN, hLW, hwx, hfs, hf, hwf⟩ := id HL.out
          have hgr : gL ≠ r := H1.out.ner gL (.inl (by rw [hvL]; rfl))
          have hrR : ¬ R.has r := fun e => (H1.out.fl i R _ hR Hx1.out).ner H1.out.hd r e rfl
          have hgR : ¬ R.has gL := fun e => (H1.out.fl i R _ hR Hx1.out).nel H1.out.row gL e (by rw [hvL]; rfl)
          have y0 : wr.cell? ⟨r, 0, none⟩ = some (.slice (some ⟨gL, 0, none⟩) N cL) := by rw [hN, ← hvL]; exact (H1.out.hd.ch HI.out.2 hrR).cell 0
          have yp : wr.cell? ⟨gL, i, none⟩ = some (.pointer (some ⟨R.b, 0, none⟩)) := by
            obtain ⟨R', g', c', h1, h2, h3, h4, _⟩ := H1.out.file Hx1.out
            rw [hR] at h1
            injection h1 with h1
            rw [hvL] at h2
            injection h2 with h2
            injection h2 with h2
            injection h2 with h2
            rw [h1, h2]
            rw [← h2] at h4
            refine (World.cell?_of_block (a := ⟨g', i, none⟩) (HI.out.2.block g' ?_ ?_)).trans (by rw [← h2]; exact h4)
            · have := (H1.out.row.lt gL (by rw [hvL]; rfl)).2; rw [← h2]; exact this
            · rw [← h2]; exact hgR
          obtain ⟨AB, cB, AO, cO, AW, cW, _, _, dW⟩ := HI.out.1.heads
          rw [syncN_len x hwx, ← hLW] at dW
          by_cases hlt : k < LW
          · have hla := last_any R s.data.toList (syncN x k) k wr HI.out.1 (same_syncN hwx k).wf (by rw [syncN_len x hwx, ← hLW]; exact hlt) (by rw [syncN_len x hwx, ← hLW]; omega)
            have HLa := Lib.hid hla
            clear hR hvL hN hLW hwx hfs hf hwf hgr hrR hgR hla
            generalize R.b = b at *
            go_wp2_with fail
            with_reducible refine HLa.out.mono ?_
            rintro e w3 ⟨rfl, h3, k3⟩
            have HN := Lib.hid (show RfF w3 R s.data.toList (syncN x (k + 1)) ∧ Ch R.has w1 w3 from ⟨h3, HI.out.2.trans k3 (fun j hj => .inl hj)⟩)
            clear h3 k3
            go_wp2_with fail
            go_roundw
            case rel => exact ⟨k + 1, by rfl, by omega, HN⟩
            case measure => simp [intOf]; omega
          · have hkL : k = LW := by omega
            have hki : ¬ (k : Int) < (LW : Int) := by omega
            have hset := H1.out.setF (S' := keptF S s.data.toList (syncP x)) (R' := R) (n' := s.data.toList) (y := syncP x) hR rfl (by have := HI.out.1; rw [hkL, hLW] at this; exact this) (by
                obtain ⟨u1, u2, u3, u4, u5⟩ := burntP_parts S
                exact (H1.out.hd.ch HI.out.2 hrR)) (fun j h1 _ h3 => HI.out.2.block j h1 h3) (fun j hj => .inl hj) (by
                show setP s.data.toList (syncP x) S.fs = _
                rw [set_at _ hwf.order hfs, (burntP_parts S).2.2.1]) (keptF_wf hwf hf (same_syncN hwx x.W.length))
            have HE := Lib.hid (show RfA wr (fun j => O j ∨ w.heap.size ≤ j) r (keptF S s.data.toList (syncP x)) ∧ Ch O w wr from ⟨⟨vL, _, hset.1, fun j hj => by
              rcases hset.2 j hj with h1 | h1
              · exact .inl (HO.out j h1)
              · have := K1.out.size; exact .inr (by omega)⟩, (K1.out.mono (fun j hj => by rw [hj]; exact HO.out r (.inl rfl))).trans HI.out.2 (fun j hj => .inl (HO.out j (.inr (.inr ⟨R, List.mem_of_getElem? hR, hj⟩))))⟩)
            clear hR hvL hN hLW hwx hfs hf hwf hgr hrR hgR hset
            generalize R.b = b at *
            go_wp2_with fail
            go_ret
            exact ⟨rfl, HE.out.1, HE.out.2⟩
end Go.Proofs.YtknjopefbbldfaaGreatDoor
/- The document's store: Crash. -/
namespace Go.Proofs.YtknjopefbbldfaaGreatDoor
open Go.RowKit
attribute [local go_sem ↓] Go.wp_at_zero Go.wp_at_succ

theorem crT_here {S : FsP} {j : Nat} {n : List UInt8} {x : FlP} (keep : UInt64) (hj : S.fs[j]? = some (n, x)) :
    (crT keep S j).fs[j]? = some (n, x) ∧ (crT keep S (j + 1)).fs = (crT keep S j).fs.set j (n, (crF keep (crI keep 0 (S.fs.take j)) x).2) := by
  obtain ⟨e1, e2⟩ := crT_split keep hj
  have hl : (crashL keep 0 (S.fs.take j)).length = j := by rw [crashL_len, List.length_take]; have := (List.getElem?_eq_some_iff.1 hj).1; omega
  constructor
  · rw [e1, List.getElem?_append_right (by omega), hl, Nat.sub_self]; rfl
  · rw [e1, e2, List.set_append_right _ _ (by omega), hl, Nat.sub_self, List.set_cons_zero]
theorem set_same {α : Type} {l : List α} {i : Nat} {x : α} (h : l[i]? = some x) : l.set i x = l := by
  obtain ⟨hi, rfl⟩ := List.getElem?_eq_some_iff.1 h
  exact List.set_getElem_self hi
/-- The bytes, when so many of a sector have gone back. -/
def bckB (x : FlP) (k j : Nat) : List UInt8 := x.B.mapIdx fun i v => if i / 64 = k ∧ i < 64 * k + j then byP x.O i else v
theorem bckB_len (x : FlP) (k j : Nat) : (bckB x k j).length = x.B.length := by simp [bckB]
theorem bckB_zero (x : FlP) (k : Nat) : bckB x k 0 = x.B := by
  unfold bckB
  apply List.ext_getElem?
  intro i
  rw [List.getElem?_mapIdx]
  cases x.B[i]? with
  | none => rfl
  | some v => simp only [Option.map_some]; rw [if_neg (by omega)]
theorem bckB_step (x : FlP) (k j : Nat) (hj : j < 64) : (bckB x k j).set (64 * k + j) (byP x.O (64 * k + j)) = bckB x k (j + 1) := by
  unfold bckB
  apply List.ext_getElem?
  intro i
  rw [List.getElem?_set, List.getElem?_mapIdx, List.getElem?_mapIdx, List.length_mapIdx]
  by_cases e : 64 * k + j = i
  · subst e
    rw [if_pos rfl]
    by_cases hl : 64 * k + j < x.B.length
    · rw [if_pos hl, List.getElem?_eq_getElem hl]; simp only [Option.map_some]; rw [if_pos (by omega)]
    · rw [if_neg hl, List.getElem?_eq_none (by omega)]; rfl
  · rw [if_neg e]
    cases x.B[i]? with
    | none => rfl
    | some v =>
      simp only [Option.map_some]
      by_cases h1 : i / 64 = k ∧ i < 64 * k + j
      · rw [if_pos h1, if_pos (by omega)]
      · rw [if_neg h1, if_neg (by omega)]
theorem bckB_all (x : FlP) (k j : Nat) (hj : j = 64 ∨ x.B.length ≤ 64 * k + j) : backP x k = { x with B := bckB x k j } := by
  unfold backP bckB
  congr 1
  apply List.ext_getElem?
  intro i
  rw [List.getElem?_mapIdx, List.getElem?_mapIdx]
  by_cases hi : i < x.B.length
  · rw [List.getElem?_eq_getElem hi]
    simp only [Option.map_some]
    by_cases h1 : i / 64 = k
    · rw [if_pos h1, if_pos (by omega)]
    · rw [if_neg h1, if_neg (by omega)]
  · rw [List.getElem?_eq_none (by omega)]; rfl
set_option maxHeartbeats 4000000 in
set_option maxRecDepth 100000 in
theorem rcrash_any (r : Nat) (O : Nat → Prop) (S : FsP) (keep : UInt64) (w : World) (h : RfA w O r S) (hm : S.fs.length ≤ 1000) :
    Calls Tryz.prog 26 #[.pointer (some ⟨r, 0, none⟩), .int .u64 (keep.toNat : Int)] w fun e w' => e = .returned (.tuple #[]) ∧ RfA w' (fun i => O i ∨ w.heap.size ≤ i) r (crashP S keep) ∧ Ch O w w' := by
  obtain ⟨vL, Rs, hM, hO⟩ := h
  have HM := Lib.hid hM
  have HO := Lib.hid hO
  obtain ⟨N, hN⟩ : ∃ k, k = S.fs.length := ⟨_, rfl⟩
  have hNb : N ≤ 1000 := by omega
  obtain ⟨AL, cL, hvL, _, _⟩ := own_form hM.row
  rw [hM.len, ← hN] at hvL
  have HN := Lib.hid (And.intro hN hvL)
  have H0 := Lib.hid (show RfM w r vL Rs (crT keep S 0) ∧ Ch O w w from ⟨by rw [crT_zero]; exact hM, Ch.refl _ _⟩)
  have HK := Lib.hid (show 0 = crI keep 0 (S.fs.take 0) from rfl)
  clear hM hO hm hN hvL
  go_enter Tryz.func26, Tryz.ntmps26
  go_wp2_with fail
  go_loopw [4, 5, 6, 7, 8] (fun s4 s5 s6 s7 s8 wr => ∃ i i0 : Nat, s5 = .int .i64 (i : Int) ∧ i ≤ N ∧ s4 = .int .i64 (i0 : Int) ∧ i0 ≤ 65536 ∧ Hid (i0 = crI keep 0 (S.fs.take i) ∧ RfM wr r vL Rs (crT keep S i) ∧ Ch O w wr)) (fun _ s5 _ _ _ _ => N - (intOf s5).toNat)
  case atStart => exact ⟨0, 0, rfl, Nat.zero_le _, rfl, by omega, Lib.hid ⟨rfl, H0.out.1, H0.out.2⟩⟩
  case round =>
    obtain ⟨i, i0, rfl, hiN, rfl, hi0, HR⟩ := hrel
    obtain ⟨hN, hvL⟩ := id HN.out
    have y0 : wr.cell? ⟨r, 0, none⟩ = some (.slice AL N cL) := by rw [← hvL]; exact HR.out.2.1.hd.cell 0
    by_cases hlt : i < N
    · obtain ⟨n, x, hjx⟩ : ∃ n x, S.fs[i]? = some (n, x) := ⟨_, _, List.getElem?_eq_getElem (by omega)⟩
      obtain ⟨hhere, hnext⟩ := crT_here keep hjx
      obtain ⟨R, gL, cL', hR, hvL', hiR, dp, hff⟩ := HR.out.2.1.file hhere
      rw [hvL] at hvL'
      injection hvL' with hA hA2 hA3
      subst hA
      clear hA2 hA3
      have hwx : x.WF := HM.out.wf.files _ (List.mem_of_getElem? hjx)
      have huse : x.W.length ≤ 65536 := by
        have h1 := use_le (List.mem_of_getElem? hjx)
        have h2 := HM.out.wf.room
        have h3 := HM.out.wf.most2
        simp only at h1
        omega
      obtain ⟨LW, hLW⟩ : ∃ k, k = x.W.length := ⟨_, rfl⟩
      obtain ⟨LB, hLB⟩ : ∃ k, k = x.B.length := ⟨_, rfl⟩
      have hLBW : LB ≤ 64 * LW := by have := needN_ge x.B.length; have := hwx.w; omega
      have hLWB : ∀ k, k < LW → 64 * k < LB := fun k hk => by have := hwx.w; unfold needN at this; omega
      rw [← hLW] at huse
      have HI0 := Lib.hid (show RfF wr R n (crN keep (i0, x) 0).2 ∧ Ch R.has wr wr from ⟨hff, Ch.refl _ _⟩)
      have HX := Lib.hid (And.intro hjx (And.intro hhere (And.intro hnext (And.intro hR (And.intro hwx (And.intro hLW (And.intro hLB hLWB)))))))
      obtain ⟨wo, hwo⟩ : ∃ wo : World, wo = wr := ⟨_, rfl⟩
      subst hwo
      generalize hRb : R.b = b at *
      have HRb := Lib.hid hRb
      clear hjx hhere hnext hR hwx hLW hLB hLWB hff hRb hiR hN hvL
      go_wp2_with fail
      go_loopw [4, 7, 8] (fun s4 s7 s8 wi => ∃ k i1 : Nat, s7 = .int .i64 (k : Int) ∧ k ≤ LW ∧ s4 = .int .i64 (i1 : Int) ∧ i1 ≤ 131072 ∧ Hid (i1 = (crN keep (i0, x) k).1 ∧ RfF wi R n (crN keep (i0, x) k).2 ∧ Ch R.has wo wi)) (fun _ s7 _ _ => LW - (intOf s7).toNat)
      case atStart => exact ⟨0, i0, rfl, Nat.zero_le _, rfl, by omega, Lib.hid ⟨rfl, HI0.out.1, HI0.out.2⟩⟩
      case round =>
        obtain ⟨k, i1, rfl, hk, rfl, hi1, HI⟩ := hrel
        have hsame : SameF x (crN keep (i0, x) k).2 := same_crN (s := (i0, x)) HX.out.2.2.2.2.1 keep k
        have hstep : crN keep (i0, x) (k + 1) = crS keep k (crN keep (i0, x) k) := rfl
        have hile := crN_le keep (i0, x) (k + 1)
        obtain ⟨st, hst⟩ : ∃ st, st = crN keep (i0, x) k := ⟨_, rfl⟩
        have hi1st := HI.out.1
        rw [← hst] at hsame hstep hi1st
        obtain ⟨AB, cB, AO, cO, AW, cW, dB, dO, dW⟩ := HI.out.2.1.heads
        rw [← hst] at dB dO dW
        rw [hsame.b, ← HX.out.2.2.2.2.2.2.1, HRb.out] at dB
        rw [hsame.w, ← HX.out.2.2.2.2.2.1, HRb.out] at dW
        by_cases hlk : k < LW
        · have HF := Lib.hid (show RfF wr R n st.2 ∧ Ch R.has wo wr from by rw [hst]; exact HI.out.2)
          have hlW : st.2.W.length = LW := by rw [hsame.w]; exact HX.out.2.2.2.2.2.1.symm
          obtain ⟨gW, cW2, hvW, _, hcW, _⟩ := HF.out.1.rowW (by rw [hlW]; omega)
          rw [hlW] at hvW
          have x1 : wr.cell? ⟨b, 3, none⟩ = some (.slice (some ⟨gW, 0, none⟩) LW cW2) := by rw [← hvW, ← HRb.out]; exact HF.out.1.hd.cell 3
          obtain ⟨t, ht⟩ : ∃ t, st.2.W[k]? = some t := ⟨_, List.getElem?_eq_getElem (by rw [hlW]; exact hlk)⟩
          have x2 := hcW k t ht
          have hgt : st.2.W[k]?.getD false = t := by rw [ht]; rfl
          have hki : (k : Int) < (LW : Int) := by omega
          have HSt := Lib.hid (And.intro hsame (And.intro hstep (And.intro hi1st (And.intro hst (And.intro hgt hlW)))))
          have hil : i0 + LW ≤ 131072 := by omega
          have Hil := Lib.hid (show (crN keep (i0, x) (k + 1)).1 ≤ i0 + (k + 1) from hile)
          clear hsame hstep hst hi1st hile hvW hcW ht hgt hlW HI dW
          cases t with
          | false =>
            go_wp2_with fail
            go_roundw
            case rel =>
              obtain ⟨a1, a2, a3, a4, a5, a6⟩ := HSt.out
              refine ⟨k + 1, i1, by rfl, by omega, by rfl, by omega, ?_⟩
              rw [a2, crS_no a5]
              exact Lib.hid ⟨a3, HF.out.1, HF.out.2⟩
            case measure => simp [intOf]; omega
          | true =>
            have hbit := bit_keep keep i1
            have hi1b : i1 + 1 ≤ 131073 := by omega
            cases hkb : keepB keep i1 with
            | true =>
              rw [hkb] at hbit
              replace hbit : bits .and .u64 ((keep.toNat : Int) / 2 ^ (i1 % 64)) 1 = 1 := hbit
              have HLa := Lib.hid (by have := last_any R n st.2 k wr HF.out.1 HSt.out.1.wf (by rw [HSt.out.2.2.2.2.2]; exact hlk) (by rw [HSt.out.2.2.2.2.2]; omega); rw [HRb.out] at this; exact this)
              have HZ := Lib.hid (show (crN keep (i0, x) (k + 1)) = (i1 + 1, lastP st.2 k) from by
                obtain ⟨a1, a2, a3, a4, a5, a6⟩ := HSt.out
                rw [a2, crS_yes a5, ← a3, hkb]; rfl)
              clear hkb
              go_wp2_with fail
              with_reducible refine HLa.out.mono ?_
              rintro e w3 ⟨rfl, h3, k3⟩
              have HN3 := Lib.hid (And.intro h3 (HF.out.2.trans k3 (fun q hq => .inl hq)))
              clear h3 k3
              go_wp2_with fail
              go_roundw
              case rel =>
                have HZ2 := Lib.hid (show i1 + 1 ≤ 131072 from by have h1 := Hil.out; have h2 := congrArg Prod.fst HZ.out; simp only at h2; omega)
                have HZ3 := Lib.hid (show i1 + 1 = (crN keep (i0, x) (k + 1)).1 ∧ RfF w3 R n (crN keep (i0, x) (k + 1)).2 ∧ Ch R.has wo w3 from by rw [HZ.out]; exact ⟨rfl, HN3.out.1, HN3.out.2⟩)
                first
                  | exact ⟨k + 1, i1 + 1, by rfl, by omega, by rfl, HZ2.out, HZ3⟩
                  | ((repeat apply Exists.intro); exact ⟨⟨k + 1, i1 + 1, by rfl, by omega, by rfl, HZ2.out, HZ3⟩, rfl⟩)
              case measure => simp [intOf]; omega
            | false =>
              rw [hkb] at hbit
              replace hbit : bits .and .u64 ((keep.toNat : Int) / 2 ^ (i1 % 64)) 1 = 0 := hbit
              obtain ⟨K, hK⟩ : ∃ K, K = 64 * k := ⟨_, rfl⟩
              have e1 : IntKind.i64.wrap (64 * (k : Int)) = (K : Int) := by rw [IntWalk.i64_in _ (by omega)]; omega
              have e2 : IntKind.i64.wrap ((K : Int) + 64) = ((K + 64 : Nat) : Int) := by rw [IntWalk.i64_in _ (by omega)]; omega
              have hKB : K < LB := by rw [hK]; exact HX.out.2.2.2.2.2.2.2 k hlk
              have hLBb : LB ≤ 4300000 := by omega
              obtain ⟨LO, hLO⟩ : ∃ L, L = 64 * LW := ⟨_, rfl⟩
              have hLBO : LB ≤ LO := by omega
              have HZ := Lib.hid (show (crN keep (i0, x) (k + 1)) = (i1 + 1, lastP (backP st.2 k) k) from by
                obtain ⟨a1, a2, a3, a4, a5, a6⟩ := HSt.out
                rw [a2, crS_yes a5, ← a3, hkb]; rfl)
              have HJ0 := Lib.hid (show RfF wr R n { st.2 with B := bckB st.2 k 0 } ∧ Ch R.has wo wr from ⟨by rw [bckB_zero]; exact HF.out.1, HF.out.2⟩)
              have HKO := Lib.hid (And.intro hK (show st.2.O.length = LO ∧ st.2.B.length = LB from ⟨by
                have := HSt.out.1.wf.o
                rw [HSt.out.2.2.2.2.2] at this
                omega, by rw [HSt.out.1.b]; exact HX.out.2.2.2.2.2.2.1.symm⟩))
              generalize hs1 : ((K + 64 : Nat) : Int) = s1 at *
              clear hkb hK dB hLO
              go_wp2_with fail
              go_loopw [8] (fun s8 wj => ∃ j : Nat, s8 = .int .i64 ((K + j : Nat) : Int) ∧ j ≤ 64 ∧ K + j ≤ LB ∧ Hid (RfF wj R n { st.2 with B := bckB st.2 k j } ∧ Ch R.has wo wj)) (fun s8 _ => LB - (intOf s8).toNat)
              case atStart => exact ⟨0, by simp, by omega, by omega, HJ0⟩
              case round =>
                obtain ⟨j, rfl, hj, hjB, HJ⟩ := hrel
                obtain ⟨P, hP⟩ : ∃ P, P = K + j := ⟨_, rfl⟩
                rw [← hP]
                have hlB : (bckB st.2 k j).length = LB := by rw [bckB_len]; exact HKO.out.2.2
                obtain ⟨gB, cB2, hvB, _, hcB, hfB⟩ := HJ.out.1.rowB (by dsimp only; rw [hlB]; omega)
                dsimp only at hvB hcB
                rw [hlB] at hvB
                have x3 : wr.cell? ⟨b, 1, none⟩ = some (.slice (some ⟨gB, 0, none⟩) LB cB2) := by rw [← hvB, ← HRb.out]; exact HJ.out.1.hd.cell 1
                have hPb : P ≤ 4300000 := by omega
                by_cases hj64 : j < 64
                · have hPs : (P : Int) < s1 := by omega
                  by_cases hPB : P < LB
                  · have hlO : st.2.O.length = LO := HKO.out.2.1
                    obtain ⟨gO, cO2, hvO, _, hcO, _⟩ := HJ.out.1.rowO (by dsimp only; rw [hlO]; omega)
                    dsimp only at hvO hcO
                    rw [hlO] at hvO
                    have x4 : wr.cell? ⟨b, 2, none⟩ = some (.slice (some ⟨gO, 0, none⟩) LO cO2) := by rw [← hvO, ← HRb.out]; exact HJ.out.1.hd.cell 2
                    obtain ⟨u, hu⟩ : ∃ u, st.2.O[P]? = some u := ⟨_, List.getElem?_eq_getElem (by rw [hlO]; omega)⟩
                    have x5 := hcO P u hu
                    have hub : byP st.2.O P = u := by unfold byP; rw [hu]; rfl
                    obtain ⟨v, hv⟩ : ∃ v, (bckB st.2 k j)[P]? = some v := ⟨_, List.getElem?_eq_getElem (by rw [hlB]; exact hPB)⟩
                    have x6 := hcB P v hv
                    have x6f := hfB P
                    have hn := HJ.out.1.byteB (g := gB) (L := LB) (c := cB2) hvB P u
                    have hgg : gO ≠ gB := fun e => HJ.out.1.ne gB (by rw [hvB]; rfl) (by rw [hvO, e]; rfl)
                    have X1 := Lib.hid (show (wr.setCell ⟨gB, P, none⟩ (.int .u8 (u.toNat : Int))).cell? ⟨b, 1, none⟩ = some (.slice (some ⟨gB, 0, none⟩) LB cB2) ∧ (wr.setCell ⟨gB, P, none⟩ (.int .u8 (u.toNat : Int))).cell? ⟨b, 2, none⟩ = some (.slice (some ⟨gO, 0, none⟩) LO cO2) ∧ (wr.setCell ⟨gB, P, none⟩ (.int .u8 (u.toNat : Int))).cell? ⟨gO, P, none⟩ = some (.int .u8 (u.toNat : Int)) from
                      ⟨by rw [← hvB, ← HRb.out]; exact hn.hd.cell 1, by rw [← hvO, ← HRb.out]; exact hn.hd.cell 2, (World.cell?_of_block (a := ⟨gO, P, none⟩) (Below.heap_setCell wr ⟨gB, P, none⟩ _ gO hgg)).trans x5⟩)
                    have HN2 := Lib.hid (show RfF (wr.setCell ⟨gB, P, none⟩ (.int .u8 (u.toNat : Int))) R n { st.2 with B := bckB st.2 k (j + 1) } ∧ Ch R.has wo (wr.setCell ⟨gB, P, none⟩ (.int .u8 (u.toNat : Int))) from
                      ⟨by
                        have e := bckB_step st.2 k j hj64
                        rw [← HKO.out.1, ← hP, hub] at e
                        rw [← e]; exact hn, HJ.out.2.set (p := ⟨gB, P, none⟩) (.inl (.inr (.inl (by rw [hvB]; rfl)))) _⟩)
                    have hPi : (P : Int) < (LB : Int) := by omega
                    have hPo : (P : Int) < (LO : Int) := by omega
                    have hP0 : (0 : Int) ≤ (P : Int) := by omega
                    have HP := Lib.hid hP
                    obtain ⟨U, hU⟩ : ∃ U : Int, U = (u.toNat : Int) := ⟨_, rfl⟩
                    rw [← hU] at x5 X1 HN2
                    clear hlB hvB hcB hfB hlO hvO hcO hu hub hv hn hU hP HJ
                    go_wp2_with fail
                    go_region_held3 (fun w' => w'.cell? ⟨b, 1, none⟩ = some (.slice (some ⟨gB, 0, none⟩) LB cB2) ∧ w'.cell? ⟨b, 2, none⟩ = some (.slice (some ⟨gO, 0, none⟩) LO cO2) ∧ w'.cell? ⟨gO, P, none⟩ = some (.int .u8 U)) (first | exact ⟨x3, x4, x5⟩ | exact X1.out | go_keep) (fail)
                    go_wp2_with fail
                    go_roundw
                    case rel => exact ⟨j + 1, by have := HP.out; congr 1; omega, by omega, by have := HP.out; omega, Lib.hid ⟨HN2.out.1.heap (fun _ _ => rfl), HN2.out.2.drew⟩⟩
                    case measure => simp [intOf]; omega
                  · have hPi : ¬ (P : Int) < (LB : Int) := by omega
                    have HBk := Lib.hid (show RfF wr R n (backP st.2 k) ∧ Ch R.has wo wr from ⟨by rw [bckB_all st.2 k j (.inr (by rw [HKO.out.2.2, ← HKO.out.1, ← hP]; omega))]; exact HJ.out.1, HJ.out.2⟩)
                    have HLa := Lib.hid (by have := last_any R n (backP st.2 k) k wr HBk.out.1 (backP_wf HSt.out.1.wf k) (by show k < st.2.W.length; rw [HSt.out.2.2.2.2.2]; exact hlk) (by show st.2.W.length ≤ _; rw [HSt.out.2.2.2.2.2]; omega); rw [HRb.out] at this; exact this)
                    have HF := Lib.hid HBk.out
                    clear hlB hvB hcB hfB hP HJ
                    go_wp2_with fail
                    with_reducible refine HLa.out.mono ?_
                    rintro e w3 ⟨rfl, h3, k3⟩
                    have HN3 := Lib.hid (And.intro h3 (HF.out.2.trans k3 (fun q hq => .inl hq)))
                    clear h3 k3
                    go_wp2_with fail
                    go_roundw
                    case rel =>
                      have HZ2 := Lib.hid (show i1 + 1 ≤ 131072 from by have h1 := Hil.out; have h2 := congrArg Prod.fst HZ.out; simp only at h2; omega)
                      have HZ3 := Lib.hid (show i1 + 1 = (crN keep (i0, x) (k + 1)).1 ∧ RfF w3 R n (crN keep (i0, x) (k + 1)).2 ∧ Ch R.has wo w3 from by rw [HZ.out]; exact ⟨rfl, HN3.out.1, HN3.out.2⟩)
                      first
                        | exact ⟨k + 1, i1 + 1, by rfl, by omega, by rfl, HZ2.out, HZ3⟩
                        | ((repeat apply Exists.intro); exact ⟨⟨k + 1, i1 + 1, by rfl, by omega, by rfl, HZ2.out, HZ3⟩, rfl⟩)
                    case measure => simp [intOf]; omega
                · have hPs : ¬ (P : Int) < s1 := by omega
                  have HBk := Lib.hid (show RfF wr R n (backP st.2 k) ∧ Ch R.has wo wr from ⟨by rw [bckB_all st.2 k j (.inl (by omega))]; exact HJ.out.1, HJ.out.2⟩)
                  have HLa := Lib.hid (by have := last_any R n (backP st.2 k) k wr HBk.out.1 (backP_wf HSt.out.1.wf k) (by show k < st.2.W.length; rw [HSt.out.2.2.2.2.2]; exact hlk) (by show st.2.W.length ≤ _; rw [HSt.out.2.2.2.2.2]; omega); rw [HRb.out] at this; exact this)
                  have HF := Lib.hid HBk.out
                  clear hlB hvB hcB hfB hP HJ
                  go_wp2_with fail
                  with_reducible refine HLa.out.mono ?_
                  rintro e w3 ⟨rfl, h3, k3⟩
                  have HN3 := Lib.hid (And.intro h3 (HF.out.2.trans k3 (fun q hq => .inl hq)))
                  clear h3 k3
                  go_wp2_with fail
                  go_roundw
                  case rel =>
                    have HZ2 := Lib.hid (show i1 + 1 ≤ 131072 from by have h1 := Hil.out; have h2 := congrArg Prod.fst HZ.out; simp only at h2; omega)
                    have HZ3 := Lib.hid (show i1 + 1 = (crN keep (i0, x) (k + 1)).1 ∧ RfF w3 R n (crN keep (i0, x) (k + 1)).2 ∧ Ch R.has wo w3 from by rw [HZ.out]; exact ⟨rfl, HN3.out.1, HN3.out.2⟩)
                    first
                      | exact ⟨k + 1, i1 + 1, by rfl, by omega, by rfl, HZ2.out, HZ3⟩
                      | ((repeat apply Exists.intro); exact ⟨⟨k + 1, i1 + 1, by rfl, by omega, by rfl, HZ2.out, HZ3⟩, rfl⟩)
                  case measure => simp [intOf]; omega
        · have hkL : k = LW := by omega
          have hki : ¬ (k : Int) < (LW : Int) := by omega
          have HE := Lib.hid (show i1 = crI keep 0 (S.fs.take (i + 1)) ∧ i1 ≤ 65536 ∧ RfM wr r vL Rs (crT keep S (i + 1)) ∧ Ch O w wr from by
            obtain ⟨hjx, hhere, hnext, hR, hwx, hLW, hLB, hLWB⟩ := HX.out
            have hcf : crF keep i0 x = crN keep (i0, x) k := by rw [hkL, hLW]; rfl
            have h1 : i1 = crI keep 0 (S.fs.take (i + 1)) := by rw [take_step hjx, crI_app, ← HR.out.1, hcf]; exact HI.out.1
            have hff := (HR.out.2.1.fl i R _ hR hhere)
            have hset := HR.out.2.1.setF (S' := crT keep S (i + 1)) (R' := R) (n' := n) (y := (crF keep i0 x).2) hR rfl (by rw [hcf]; exact HI.out.2.1) (HR.out.2.1.hd.ch HI.out.2.2 (fun e => hff.ner HR.out.2.1.hd r e rfl)) (fun j h1 _ h3 => HI.out.2.2.block j h1 h3) (fun j hj => .inl hj) (by rw [hnext, ← HR.out.1]) (crT_wf HM.out.wf keep (i + 1))
            rw [set_same hR] at hset
            exact ⟨h1, by rw [h1]; exact crI_use HM.out.wf keep _, hset.1, HR.out.2.2.trans HI.out.2.2 (fun j hj => .inl (HO.out j (.inr (.inr ⟨R, List.mem_of_getElem? hR, hj⟩))))⟩)
          clear hsame hstep hile hi1st hst
          go_wp2_with fail
          go_roundw
          case rel =>
            first
              | exact ⟨i + 1, i1, by rfl, by omega, by rfl, HE.out.2.1, Lib.hid ⟨HE.out.1, HE.out.2.2.1, HE.out.2.2.2⟩⟩
              | ((repeat apply Exists.intro); exact ⟨⟨i + 1, i1, by rfl, by omega, by rfl, HE.out.2.1, Lib.hid ⟨HE.out.1, HE.out.2.2.1, HE.out.2.2.2⟩⟩, rfl⟩)
          case measure => simp [intOf]; omega
    · have hiN2 : N = i := by omega
      have g3 := HR.out.2.1.hd.free 3
      have g4 := HR.out.2.1.hd.free 4
      have c3 := HR.out.2.1.hd.cell 3
      have c4 := HR.out.2.1.hd.cell 4
      have hcr : (crT keep S i).fs = crashL keep 0 S.fs := by
        have := crT_all keep S
        rw [← hN, hiN2] at this
        rw [this]
      have Hcr := Lib.hid hcr
      clear hcr hN hvL
      subst hiN2
      go_wp2_with fail
      go_end0
      have hf := HR.out.2.1
      have hrO : O r := HO.out r (.inl rfl)
      refine ⟨rfl, ⟨vL, Rs, hf.upd (S' := crashP S keep) ((hf.hd.set 3 (.int .i64 (-1))).set 4 (.bool false)) (fun i _ hne => (Below.heap_setCell _ ⟨r, 4, none⟩ _ i hne).trans (Below.heap_setCell _ ⟨r, 3, none⟩ _ i hne)) hf.ner Hcr.out.symm (crashP_wf HM.out.wf keep), fun i hi => .inl (HO.out i hi)⟩, (HR.out.2.2.set (p := ⟨r, 3, none⟩) (.inl hrO) _).set (p := ⟨r, 4, none⟩) (.inl hrO) _⟩
end Go.Proofs.YtknjopefbbldfaaGreatDoor
/- The document's store: Waits. -/
namespace Go.Proofs.YtknjopefbbldfaaGreatDoor
open Go.RowKit
attribute [local go_sem ↓] Go.wp_at_zero Go.wp_at_succ

theorem waits_app (a b : List (List UInt8 × FlP)) : waitsP (a ++ b) = waitsP a + waitsP b := by simp [waitsP]
theorem waits_take {l : List (List UInt8 × FlP)} {i : Nat} {n : List UInt8} {x : FlP} (h : l[i]? = some (n, x)) : waitsP (l.take (i + 1)) = waitsP (l.take i) + x.W.countP id := by
  rw [take_step h, waits_app]; simp [waitsP]
theorem waits_le {l : List (List UInt8 × FlP)} (i : Nat) : waitsP (l.take i) ≤ waitsP l := by
  have := waits_app (l.take i) (l.drop i)
  rw [List.take_append_drop] at this
  omega
set_option maxHeartbeats 4000000 in
set_option maxRecDepth 100000 in
theorem rwaits_any (r : Nat) (vL : Value) (Rs : List RfR) (S : FsP) (w : World) (h : RfM w r vL Rs S) (hm : S.fs.length ≤ 1000) :
    Calls Tryz.prog 36 #[.pointer (some ⟨r, 0, none⟩)] w fun e w' => e = .returned (.int .i64 (waitsP S.fs : Int)) ∧ w' = w := by
  have H := Lib.hid h
  obtain ⟨N, hN⟩ : ∃ k, k = S.fs.length := ⟨_, rfl⟩
  have hNb : N ≤ 1000 := by omega
  obtain ⟨AL, cL, hvL, _, _⟩ := own_form h.row
  rw [h.len, ← hN] at hvL
  have y0 : w.cell? ⟨r, 0, none⟩ = some (.slice AL N cL) := by rw [← hvL]; exact h.hd.cell 0
  have hwb : waitsP S.fs ≤ 65536 := by
    have h1 := waits_use S.fs
    have h2 := h.wf.room
    have h3 := h.wf.most2
    omega
  have HN := Lib.hid (And.intro hN (And.intro hvL hwb))
  clear h hm hN hvL hwb
  go_enter Tryz.func36, Tryz.ntmps36
  go_wp2_with fail
  go_loopw [3, 4, 5] (fun s3 s4 s5 wr => ∃ i v : Nat, s4 = .int .i64 (i : Int) ∧ i ≤ N ∧ s3 = .int .i64 (v : Int) ∧ v ≤ 65536 ∧ wr = w ∧ Hid (v = waitsP (S.fs.take i))) (fun _ s4 _ _ => N - (intOf s4).toNat)
  case atStart => exact ⟨0, 0, rfl, Nat.zero_le _, rfl, by omega, rfl, Lib.hid rfl⟩
  case round =>
    obtain ⟨i, v, rfl, hi, rfl, hv, hw, HV⟩ := hrel
    replace hw := hw.symm
    subst hw
    by_cases hlt : i < N
    · obtain ⟨n, x, hjx⟩ : ∃ n x, S.fs[i]? = some (n, x) := ⟨_, _, List.getElem?_eq_getElem (by rw [← HN.out.1]; exact hlt)⟩
      obtain ⟨R, gL, cL', hR, hvL', hiR, dp, hff⟩ := H.out.file hjx
      rw [HN.out.2.1] at hvL'
      injection hvL' with hA hA2 hA3
      subst hA
      clear hA2 hA3
      have huse : x.W.length ≤ 65536 := by
        have h1 := use_le (List.mem_of_getElem? hjx)
        have h2 := H.out.wf.room
        have h3 := H.out.wf.most2
        simp only at h1
        omega
      obtain ⟨LW, hLW⟩ : ∃ k, k = x.W.length := ⟨_, rfl⟩
      rw [← hLW] at huse
      obtain ⟨AB, cB, AO, cO, AW, cW, _, _, dW⟩ := hff.heads
      rw [← hLW] at dW
      have hstep := waits_take hjx
      have hle := waits_le (l := S.fs) (i + 1)
      have HX := Lib.hid (And.intro hLW (And.intro (show v + x.W.countP id = waitsP (S.fs.take (i + 1)) by rw [hstep, ← HV.out]) (And.intro (show v + x.W.countP id ≤ 65536 by have := HN.out.2.2; have := HV.out; omega) hff)))
      generalize hRb : R.b = b at *
      have HRb := Lib.hid hRb
      clear hjx hR hiR hff hLW hstep hle hRb
      go_wp2_with fail
      go_loopw [3, 5] (fun s3 s5 wi => ∃ k : Nat, s5 = .int .i64 (k : Int) ∧ k ≤ LW ∧ s3 = .int .i64 ((v + (x.W.take k).countP id : Nat) : Int) ∧ wi = w) (fun _ s5 _ => LW - (intOf s5).toNat)
      case atStart => exact ⟨0, rfl, Nat.zero_le _, rfl, rfl⟩
      case round =>
        obtain ⟨k, rfl, hk, rfl, hwi⟩ := hrel
        replace hwi := hwi.symm
        subst hwi
        obtain ⟨V, hV⟩ : ∃ V, V = v + (x.W.take k).countP id := ⟨_, rfl⟩
        rw [← hV]
        have hVb : V ≤ 140000 := by
          have h7 : (x.W.take k).countP id ≤ (x.W.take k).length := List.countP_le_length
          rw [List.length_take] at h7
          omega
        by_cases hlk : k < LW
        · obtain ⟨gW, cW2, hvW, _, hcW, _⟩ := HX.out.2.2.2.rowW (by rw [← HX.out.1]; omega)
          obtain ⟨t, ht⟩ : ∃ t, x.W[k]? = some t := ⟨_, List.getElem?_eq_getElem (by rw [← HX.out.1]; exact hlk)⟩
          have x2 := hcW k t ht
          have hAW : AW = some ⟨gW, 0, none⟩ := by
            have h1 := HX.out.2.2.2.hd.cell 3
            rw [HRb.out] at h1
            have h2 := dW.symm.trans h1
            rw [show (#[Value.string ⟨n.toArray⟩, R.vB, R.vO, R.vW, Value.int .i64 (x.stamp : Int)] : Array Value)[3]? = some R.vW from rfl, hvW] at h2
            injection h2 with h2
            injection h2 with h2
          subst hAW
          have hki : (k : Int) < (LW : Int) := by omega
          have hn := countP_take (l := x.W) (k := k) (by rw [← HX.out.1]; exact hlk)
          rw [ht] at hn
          have HV2 := Lib.hid (And.intro hV hn)
          clear hvW hcW ht hV hn
          cases t with
          | false =>
            go_wp2_with fail
            go_roundw
            case rel => exact ⟨k + 1, rfl, by omega, by obtain ⟨a1, a2⟩ := HV2.out; rw [a2, a1]; rfl, by first | rfl | trivial⟩
            case measure => simp [intOf]; omega
          | true =>
            go_wp2_with fail
            go_roundw
            case rel => exact ⟨k + 1, rfl, by omega, by obtain ⟨a1, a2⟩ := HV2.out; rw [a2, a1]; rfl, by first | rfl | trivial⟩
            case measure => simp [intOf]; omega
        · have hkL : k = LW := by omega
          have hki : ¬ (k : Int) < (LW : Int) := by omega
          have e9 : x.W.take k = x.W := List.take_of_length_le (by rw [hkL, HX.out.1]; exact Nat.le_refl _)
          rw [e9] at hV
          have HE := Lib.hid (show V = waitsP (S.fs.take (i + 1)) ∧ V ≤ 65536 from by rw [hV]; exact ⟨HX.out.2.1, HX.out.2.2.1⟩)
          clear e9 hV
          go_wp2_with fail
          go_roundw
          case rel =>
            first
              | exact ⟨i + 1, V, by rfl, by omega, by rfl, HE.out.2, by first | rfl | trivial, Lib.hid HE.out.1⟩
              | ((repeat apply Exists.intro); exact ⟨⟨i + 1, V, by rfl, by omega, by rfl, HE.out.2, by first | rfl | trivial, Lib.hid HE.out.1⟩, rfl⟩)
          case measure => simp [intOf]; omega
    · have hiN : N = i := by omega
      have hq : (v : Int) = (waitsP S.fs : Int) := by
        have h1 := HV.out
        rw [List.take_of_length_le (by rw [← HN.out.1]; omega)] at h1
        omega
      have Hq := Lib.hid hq
      clear hq
      subst hiN
      go_wp2_with fail
      go_ret
      exact ⟨by (show Ending.returned (Value.int .i64 (v : Int)) = _); rw [Hq.out], by first | rfl | trivial⟩
end Go.Proofs.YtknjopefbbldfaaGreatDoor
