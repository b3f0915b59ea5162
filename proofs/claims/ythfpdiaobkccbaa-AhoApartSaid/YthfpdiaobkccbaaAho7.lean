/- Contract of package aho: Put. -/
import Derived.Test.YthfpdiaobkccbaaAho6
import Derived.Deep.RegionLaw
namespace Go.Proofs.Ythfpdiaobkccbaa
open Go.RowKit
attribute [local go_sem ↓] Go.wp_at_zero Go.wp_at_succ

/-- While a scan sees bytes. -/
structure PS (w wr : World) (base W0 S0 g : Nat) (T : Tt) (ws : List (List UInt8)) (a seen : Nat) (found : Int) (l : List Int) : Prop where
  at_ : AT wr base W0 (ws.length : Int) T
  sb : Bk wr S0 53 #[.pointer (some ⟨W0, 0, none⟩), .int .i64 (a : Int), .int .i64 (seen : Int), .int .i64 found, .slice (some ⟨g, 0, none⟩) ws.length ws.length]
  fb : Bk wr g 3 (its l).toArray
  hd : ∀ i, i < T.S.length → (T.V i).ownBlock ≠ some g
  ch : Ch (fun k => k = S0 ∨ k = g) w wr
section
variable {w wr : World} {base W0 S0 g : Nat} {T : Tt} {ws : List (List UInt8)} {a seen : Nat} {found : Int} {l : List Int}
theorem AT.setScan (h : AT wr base W0 (ws.length : Int) T) {cs : Array Value} (hs : Bk wr S0 53 cs) (i : Nat) (u : Value) : AT (wr.setCell ⟨S0, i, none⟩ u) base W0 (ws.length : Int) T := by
  obtain ⟨cs', h1, _⟩ := h.st
  refine h.kept (gb_set (World.grownBy.refl _ _) i u) fun b hb => ?_
  injection hb with hb
  subst hb
  exact ⟨hs.ne h.wd (by decide), hs.ne h1 (by decide), fun i hi => (h.mp i hi).ne hs, fun i hi => own_ne (h.en i hi) hs (by decide)⟩
theorem PS.drew (h : PS w wr base W0 S0 g T ws a seen found l) : PS w wr.drew base W0 S0 g T ws a seen found l := ⟨h.at_.frame (fun _ _ _ => rfl), h.sb, h.fb, h.hd, h.ch.drew⟩
theorem PS.drewN (h : PS w wr base W0 S0 g T ws a seen found l) (q : Nat) : PS w (wr.drewN q) base W0 S0 g T ws a seen found l := ⟨h.at_.drewN q, h.sb, h.fb, h.hd, h.ch.drewN q⟩
theorem PS.setAt (h : PS w wr base W0 S0 g T ws a seen found l) (x : Nat) : PS w (wr.setCell ⟨S0, 1, none⟩ (.int .i64 (x : Int))) base W0 S0 g T ws x seen found l :=
  ⟨h.at_.setScan h.sb _ _, by have := h.sb.set 1 (.int .i64 (x : Int)); simpa only [List.setIfInBounds_toArray, List.set_cons_zero, List.set_cons_succ] using this, h.fb.far (p := ⟨S0, 1, none⟩) (h.fb.ne h.sb (by decide)) _, h.hd, h.ch.set (p := ⟨S0, 1, none⟩) (.inl (.inl rfl)) _⟩
theorem PS.setSeen (h : PS w wr base W0 S0 g T ws a seen found l) (x : Nat) : PS w (wr.setCell ⟨S0, 2, none⟩ (.int .i64 (x : Int))) base W0 S0 g T ws a x found l :=
  ⟨h.at_.setScan h.sb _ _, by have := h.sb.set 2 (.int .i64 (x : Int)); simpa only [List.setIfInBounds_toArray, List.set_cons_zero, List.set_cons_succ] using this, h.fb.far (p := ⟨S0, 2, none⟩) (h.fb.ne h.sb (by decide)) _, h.hd, h.ch.set (p := ⟨S0, 2, none⟩) (.inl (.inl rfl)) _⟩
theorem PS.setFound (h : PS w wr base W0 S0 g T ws a seen found l) (x : Int) : PS w (wr.setCell ⟨S0, 3, none⟩ (.int .i64 x)) base W0 S0 g T ws a seen x l :=
  ⟨h.at_.setScan h.sb _ _, by have := h.sb.set 3 (.int .i64 x); simpa only [List.setIfInBounds_toArray, List.set_cons_zero, List.set_cons_succ] using this, h.fb.far (p := ⟨S0, 3, none⟩) (h.fb.ne h.sb (by decide)) _, h.hd, h.ch.set (p := ⟨S0, 3, none⟩) (.inl (.inl rfl)) _⟩
theorem PS.setFirst (h : PS w wr base W0 S0 g T ws a seen found l) (k : Nat) (x : Int) : PS w (wr.setCell ⟨g, k, none⟩ (.int .i64 x)) base W0 S0 g T ws a seen found (l.set k x) :=
  ⟨h.at_.kept_int (gb_set (World.grownBy.refl _ _) k _) (v := .slice (some ⟨g, 0, none⟩) 0 0) (fun b hb => by injection hb with hb; subst hb; exact ⟨rfl, _, h.fb⟩) (fun i hi b hb e => by
      have : b = g := by simpa [Value.ownBlock] using e.symm
      subst this; exact h.hd i hi hb),
    h.sb.far (p := ⟨g, k, none⟩) (h.sb.ne h.fb (by decide)) _, by have := h.fb.set k (.int .i64 x); rwa [List.setIfInBounds_toArray, its_set] at this, h.hd, h.ch.set (p := ⟨g, k, none⟩) (.inl (.inr rfl)) _⟩
theorem PS.cells (h : PS w wr base W0 S0 g T ws a seen found l) : (wr.cell? ⟨S0, 0, none⟩ = some (.pointer (some ⟨W0, 0, none⟩)) ∧ wr.cell? ⟨S0, 1, none⟩ = some (.int .i64 (a : Int)) ∧ wr.cell? ⟨S0, 2, none⟩ = some (.int .i64 (seen : Int)) ∧ wr.cell? ⟨S0, 3, none⟩ = some (.int .i64 found) ∧ wr.cell? ⟨S0, 4, none⟩ = some (.slice (some ⟨g, 0, none⟩) ws.length ws.length)) ∧ (∀ i, wr.frozen? ⟨S0, i, none⟩ = false) ∧ ∀ i, wr.frozen? ⟨g, i, none⟩ = false :=
  ⟨⟨h.sb.cell 0, h.sb.cell 1, h.sb.cell 2, h.sb.cell 3, h.sb.cell 4⟩, fun i => h.sb.free i, fun i => h.fb.free i⟩
theorem PS.first (h : PS w wr base W0 S0 g T ws a seen found l) {k : Nat} {y : Int} (hy : l[k]? = some y) : wr.cell? ⟨g, k, none⟩ = some (.int .i64 y) := by
  rw [h.fb.cell]; simp [its, hy]
end
/-- Bytes that lie apart from a scan's blocks. -/
theorem Rd.apart {w w' : World} {B n S0 g : Nat} {A : Option Addr} {xs : List Value} (h : Rd w B 1 A n xs) (hB : B ≤ w.heap.size) (hne : 0 < n → ∀ b o, A = some ⟨b, o, none⟩ → b ≠ S0 ∧ b ≠ g) (hc : Ch (fun k => k = S0 ∨ k = g) w w') : Rd w' w'.heap.size 1 A n xs := by
  refine ⟨h.1, fun hn => ?_⟩
  obtain ⟨b, o, e, hb, hcell⟩ := h.2 hn
  obtain ⟨h1, h2⟩ := hne hn b o e
  have hs := hc.size
  refine ⟨b, o, e, by omega, fun j u hu => ?_⟩
  rw [World.cell?_of_block (a := ⟨b, o + j, none⟩) (hc.block b (by omega) (fun hk => by rcases hk with hk | hk <;> omega))]
  exact hcell j u hu
set_option maxHeartbeats 4000000 in
set_option maxRecDepth 100000 in
theorem put_scan (base W0 S0 g : Nat) (T : Tt) (ws : List (List UInt8)) (t b : List UInt8) (A : Option Addr) (n c : Nat) (w : World) (hA : AT w base W0 (ws.length : Int) T) (hF : SemF T ws) (hs : SC w W0 S0 g T.S ws t) (hd : ∀ i, i < T.S.length → (T.V i).ownBlock ≠ some g)
    (hr : ∀ w', Ch (fun k => k = S0 ∨ k = g) w w' → Rd w' w'.heap.size 1 A n (bys b)) (hn : n ≤ 100000) (ht : t.length ≤ 1000000) (hn8 : ws.length ≤ 8) :
    Calls Try.prog 12 #[.pointer (some ⟨S0, 0, none⟩), .slice A n c] w fun e w' => e = .returned (.int .i64 ((cntF (firsts ws (t ++ b)) : Int) - (cntF (firsts ws t) : Int))) ∧ AT w' base W0 (ws.length : Int) T ∧ SC w' W0 S0 g T.S ws (t ++ b) ∧ Ch (fun k => k = S0 ∨ k = g) w w' := by
  have hps : PS w w base W0 S0 g T ws (ix T.S (ls T.S t)) t.length (cntF (firsts ws t)) (firsts ws t) := ⟨hA, hs.sb, hs.fb, hd, Ch.refl _ _⟩
  obtain ⟨⟨_, _, _, c3, _⟩, _, _⟩ := hps.cells
  have hbl := Lib.hid (hr w (Ch.refl _ _)).blen
  have Hps := Lib.hid hps
  have Hr := Lib.hid hr
  have HF := Lib.hid hF
  clear hps hr hF hA hs hd
  go_enter Try.func12, Try.ntmps12
  go_wp2_with fail
  go_loopw [18] (fun i wr => ∃ (k : Nat), i = .int .i64 k ∧ k ≤ n ∧ Hid (PS w wr base W0 S0 g T ws (ix T.S (ls T.S (t ++ b.take k))) (t.length + k) (cntF (firsts ws (t ++ b.take k))) (firsts ws (t ++ b.take k)))) (fun i _ => n - (intOf i).toNat)
  case atStart => exact ⟨0, rfl, Nat.zero_le _, Lib.hid (by simpa using Hps.out)⟩
  case round =>
    obtain ⟨k, rfl, hk, hP⟩ := hrel
    clear Hps
    by_cases hlt : k < n
    · have hP0 := hP.out
      obtain ⟨bb, o, u, rfl, hbB, hu, hu8, hcu⟩ := (Hr.out _ hP0.ch).byte hlt
      obtain ⟨⟨s0, s1, s2, s3, s4⟩, sf, _⟩ := hP0.cells
      have f2 := sf 2
      have Hts := Lib.hid (take_step hu)
      have hP1 := hP0.setSeen (t.length + k + 1)
      rw [show ((t.length + k + 1 : Nat) : Int) = (t.length : Int) + k + 1 by omega] at hP1
      have HP1 := Lib.hid hP1
      clear hP0 hu sf hP1
      have hP2 := HP1.out
      generalize hat : ix T.S (ls T.S (t ++ b.take k)) = a at *
      have Hat := Lib.hid hat
      clear hat hP2
      go_wp2_with fail
      have hF := HF.out
      have hat2 : a < T.S.length := by rw [← Hat.out]; exact ix_lt (ls_mem hF.tr.mem0 _)
      have hsa : str T.S a = ls T.S (t ++ b.take k) := by rw [← Hat.out]; exact str_ix (ls_mem hF.tr.mem0 _)
      have hsl : (str T.S a).length ≤ 64 := hF.le _ (str_mem hat2)
      have hgo : go T.S a u = ix T.S (ls T.S (t ++ b.take (k + 1))) := by
        unfold go
        rw [hsa, Hts.out, ← List.append_assoc, ls_step hF.tr u (t ++ b.take k)]
      have hnn := hF.nn
      have hst := step_any base W0 64 a (ws.length : Int) T u _ HP1.out.drew.at_ hF.tr (fun i hi h0 _ => hF.bk i hi h0) hat2 hsl (by omega)
      rw [hgo] at hst
      have hps3 := HP1.out.setAt (ix T.S (ls T.S (t ++ b.take (k + 1))))
      have Hps3 := Lib.hid hps3
      have Hst := Lib.hid hst
      obtain ⟨⟨e0, e1, _⟩, ef, _⟩ := HP1.out.cells
      have ef1 := ef 1
      have hxn : ix T.S (ls T.S (t ++ b.take (k + 1))) < T.S.length := ix_lt (ls_mem hF.tr.mem0 _)
      have Hsx := Lib.hid (show str T.S (ix T.S (ls T.S (t ++ b.take (k + 1)))) = ls T.S (t ++ b.take (k + 1)) from str_ix (ls_mem hF.tr.mem0 _))
      clear hgo hst hps3 hsa ef hF
      generalize hix : ix T.S (ls T.S (t ++ b.take (k + 1))) = x at *
      have Hix := Lib.hid hix
      clear hix
      go_region_with (first
        | ((go_at_call 21; (with_reducible refine Hst.out.mono ?_); rintro e w' ⟨rfl, rfl⟩)))
      all_goals
        have hps4 : PS w (((wr.setCell ⟨S0, 2, none⟩ (.int .i64 ((t.length : Int) + k + 1))).setCell ⟨S0, 1, none⟩ (.int .i64 (x : Int))).drew) base W0 S0 g T ws x (t.length + k + 1) (cntF (firsts ws (t ++ b.take k))) (firsts ws (t ++ b.take k)) := Hps3.out.drew
        clear s0 s1 s2 s3 s4 f2 e0 e1 ef1 Hst Hps3 HP1 hP hcu
        go_wp2_with fail
        generalize (((wr.setCell ⟨S0, 2, none⟩ (.int .i64 ((t.length : Int) + k + 1))).setCell ⟨S0, 1, none⟩ (.int .i64 (x : Int))).drew) = w3 at *
        obtain ⟨sn, hsn⟩ : ∃ sn, sn = t.length + k + 1 := ⟨_, rfl⟩
        rw [← hsn] at hps4
        have Hsn := Lib.hid hsn
        have hsn2 : sn ≤ 2000000 := by omega
        clear hsn
        obtain ⟨⟨s0, s1, s2, s3, s4⟩, sf, gf⟩ := hps4.cells
        obtain ⟨m0, _⟩ := hps4.at_.head
        obtain ⟨_, _, x2⟩ := hps4.at_.cells (i := x) hxn
        have oe := hps4.at_.en x hxn
        obtain ⟨Av, cv, hv, hcv, _⟩ := own_form oe
        rw [hv] at x2 oe
        have ix0 : (0 : Int) ≤ (x : Int) := by omega
        have ix1 : (x : Int) < (T.S.length : Int) := by omega
        have Hoe := Lib.hid oe
        have Hps4 := Lib.hid hps4
        have Hv := Lib.hid hv
        have hel := HF.out.el x hxn
        clear oe hps4 hv sf gf
        go_quiet (fail)
        go_wp2_with fail
        have Hst0 := Lib.hid (Hps4.out.drewN nq)
        obtain ⟨wo, rfl⟩ : ∃ wo : World, wo = wr := ⟨_, rfl⟩
        clear s0 s1 s2 s3 s4 m0 x2
        go_loopw [57] (fun i wr => ∃ (m : Nat) (l : List Int), i = .int .i64 m ∧ m ≤ (T.E x).length ∧ Hid (l = ups (sn : Int) (firsts ws (t ++ b.take k)) ((T.E x).take m)) ∧ Hid (PS w wr base W0 S0 g T ws x sn (cntF l) l)) (fun i _ => (T.E x).length - (intOf i).toNat)
        case atStart => exact ⟨0, firsts ws (t ++ b.take k), rfl, Nat.zero_le _, Lib.hid rfl, Hst0.out⟩
        case round =>
          obtain ⟨m, l, rfl, hm, hl, hP⟩ := hrel
          clear Hst0 Hps4 Hoe
          have hP1 := hP.out
          by_cases hml : m < (T.E x).length
          · have hll : l.length = ws.length := by rw [hl.out, ups_len, firsts_len]
            have oe := hP1.at_.en x hxn
            rw [Hv.out] at oe
            obtain ⟨b2, o2, kv, hA2, _, hkv, hck⟩ := (Rd.of_own oe).num hml
            subst hA2
            rw [List.getElem?_map, List.getElem?_eq_getElem hml] at hkv
            obtain ⟨kk, hkk⟩ : ∃ kk, kk = (T.E x)[m] := ⟨_, rfl⟩
            rw [← hkk] at hkv
            have hkv2 : kv = (kk : Int) := by simpa using hkv.symm
            subst hkv2
            have hkn : kk < ws.length := ((HF.out.en x hxn kk).1 (by rw [hkk]; exact List.getElem_mem hml)).1
            obtain ⟨y, hy⟩ : ∃ y, l[kk]? = some y := ⟨l[kk]'(by omega), List.getElem?_eq_getElem (by omega)⟩
            have hcy := hP1.first hy
            obtain ⟨⟨s0, s1, s2, s3, s4⟩, sf, gf⟩ := hP1.cells
            have gk1 := gf kk
            have hts := List.take_succ_eq_append_getElem hml
            have hl2 : up1 (sn : Int) l kk = ups (sn : Int) (firsts ws (t ++ b.take k)) ((T.E x).take (m + 1)) := by
              rw [hts, ups_snoc, ← hl.out, hkk]
            have hcnt := cnt_up1 (v := (sn : Int)) (by omega) hy
            have hcl := cnt_le l
            have hcl8 : cntF l ≤ 8 := by omega
            have i0 : (0 : Int) ≤ (kk : Int) := by omega
            have i1 : (kk : Int) < (ws.length : Int) := by omega
            by_cases hneg : y < 0
            · have hup : up1 (sn : Int) l kk = l.set kk (sn : Int) := by unfold up1; rw [hy, Option.getD_some, if_pos hneg]
              rw [hup] at hl2 hcnt
              rw [if_pos hneg] at hcnt
              have hP2 := hP1.setFirst kk (sn : Int)
              obtain ⟨⟨_, _, r2, r3, r4⟩, rf, _⟩ := hP2.cells
              have rf3 := rf 3
              have HP2 := Lib.hid hP2
              have Hl2 := Lib.hid hl2
              have Hcnt := Lib.hid hcnt
              clear hkk hkv hts hl2 hcnt hup hP1 hP2 oe sf gf hy hll rf
              go_wp2_with fail
              go_region_held3 (fun w' => w'.cell? ⟨S0, 4, none⟩ = some (.slice (some ⟨g, 0, none⟩) ws.length ws.length) ∧ w'.cell? ⟨S0, 2, none⟩ = some (.int .i64 (sn : Int))) (first | go_keep | (exact ⟨s4, s2⟩) | (exact ⟨r4, r2⟩)) (fail)
              have e : ((cntF (l.set kk (sn : Int)) : Nat) : Int) = (cntF l : Int) + 1 := by rw [Hcnt.out]; omega
              have hP3 : PS w (((wr.setCell ⟨g, kk, none⟩ (.int .i64 (sn : Int))).setCell ⟨S0, 3, none⟩ (.int .i64 ((cntF l : Int) + 1))).drew) base W0 S0 g T ws x sn (cntF (l.set kk (sn : Int))) (l.set kk (sn : Int)) := by rw [e]; exact (HP2.out.setFound _).drew
              have HP3 := Lib.hid hP3
              clear hP3 e
              go_wp2_with fail
              go_roundw
              case rel => exact ⟨m + 1, l.set kk (sn : Int), by go_num, by omega, Hl2, HP3⟩
              case measure => simp [intOf]; omega
            · have hup : up1 (sn : Int) l kk = l := by unfold up1; rw [hy, Option.getD_some, if_neg hneg]
              rw [hup] at hl2
              have Hl2 := Lib.hid hl2
              clear hkk hkv hts hl2 hcnt hup hP1 oe sf gf hy hll
              go_wp2
              go_roundw
              case rel => exact ⟨m + 1, l, by go_num, by omega, Hl2, hP⟩
              case measure => simp [intOf]; omega
          · have hme : m = (T.E x).length := by omega
            have hfin : l = firsts ws (t ++ b.take (k + 1)) := by
              rw [hl.out, hme, List.take_length, Hts.out, ← List.append_assoc]
              have hlen : sn = (t ++ b.take k).length + 1 := by rw [Hsn.out, List.length_append, List.length_take, hbl.out]; omega
              rw [hlen]
              refine firsts_snoc ws _ u _ fun j hj => ?_
              have hF := HF.out
              rw [hF.en x hxn j, Hsx.out, ← suf_ls (hF.wi j hj), Hts.out, ← List.append_assoc]
              unfold wdj
              exact ⟨fun h => h.2, fun h => ⟨hj, h⟩⟩
            have hPf := hP.out
            rw [hfin] at hPf
            have HPf := Lib.hid hPf
            clear hfin hPf hP1 hme
            go_wp2_with fail
            go_roundw
            case rel => exact ⟨k + 1, by go_num, by omega, Lib.hid (by rw [Hix.out]; have := HPf.out; rw [Hsn.out] at this; exact this)⟩
            case measure => simp [intOf]; omega
    · obtain rfl : n = k := by omega
      have hfin := hP.out
      rw [List.take_of_length_le (by rw [hbl.out]; omega)] at hfin
      obtain ⟨⟨_, _, _, d3, _⟩, _, _⟩ := hfin.cells
      have hb1 := cnt_le (firsts ws (t ++ b))
      have hb2 := cnt_le (firsts ws t)
      rw [firsts_len] at hb1 hb2
      have hlen : (t ++ b).length = t.length + n := by rw [List.length_append, hbl.out]
      have Hfin := Lib.hid (show AT wr base W0 (ws.length : Int) T ∧ SC wr W0 S0 g T.S ws (t ++ b) ∧ Ch (fun k => k = S0 ∨ k = g) w wr from ⟨hfin.at_, ⟨by rw [hlen]; exact hfin.sb, hfin.fb⟩, hfin.ch⟩)
      clear hfin hlen hP
      go_wp2
      go_ret
      exact ⟨rfl, Hfin.out⟩
end Go.Proofs.Ythfpdiaobkccbaa
