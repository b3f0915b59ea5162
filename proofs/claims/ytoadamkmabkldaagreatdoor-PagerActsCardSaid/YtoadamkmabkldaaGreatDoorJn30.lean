/- What opening anew makes of a commit that a store ended, in plain words. -/
import Derived.Test.YtoadamkmabkldaaGreatDoorJn29
set_option linter.unusedVariables false
set_option linter.unusedSimpArgs false
namespace Go.Proofs.YtoadamkmabkldaaGreatDoor

/-- A store that is up, without a fuse; its pages, and a journal. -/
structure Rc (S : FsP) (nm : List UInt8) (Q : List (List UInt8)) (J : List UInt8) (M : Nat) : Prop where
  up : S.down = false
  fuse : S.fuse = -1
  wf : S.WF
  most : S.most = M
  db : ∃ x, findP S (dbN nm) = some x ∧ x.B = Q.flatten ∧ x.quiet
  lg : ∃ y, findP S (logN nm) = some y ∧ y.B = J
  use : useP S.fs = 8 * Q.length + needN J.length
  p5 : P512 Q
section
variable {S : FsP} {nm : List UInt8} {L Q : List (List UInt8)} {J : List UInt8} {M : Nat}
theorem Rc.lens (h : Rc S nm Q J M) : lenP S (dbN nm) = some (512 * Q.length) ∧ lenP S (logN nm) = some J.length := by
  obtain ⟨x, h1, h2, _⟩ := h.db
  obtain ⟨y, h3, h4⟩ := h.lg
  unfold lenP
  rw [h.up, h1, h3]
  simp only [Bool.false_eq_true, if_false, Option.map_some]
  rw [h2, h4, flat_len h.p5]
  exact ⟨rfl, rfl⟩
theorem Rc.cut (h : Rc S nm (sealQ L) J M) (hl : ∀ b ∈ L, b.length = 508) : ∃ S4, cutF S (logN nm) 0 = (0, S4) ∧ St S4 nm L M ∧ S4.fuse = -1 := by
  have hdl := db_log nm
  obtain ⟨x, h1, h2, h3⟩ := h.db
  obtain ⟨y, h4, h5⟩ := h.lg
  have hy := (h.wf.files _ (lookup_mem h4)).w
  rcases step_cut h.wf h.up h4 with ⟨e, _⟩ | ⟨_, S7, y7, k7, s7, b7, w7, _⟩
  · have := h.fuse; omega
  refine ⟨S7, k7, ⟨s7.down, s7.wf, s7.most.trans h.most, ⟨x, by rw [s7.find, if_neg hdl]; exact h1, by rw [h2, flatP_seal], h3⟩, ⟨y7, by rw [s7.find, if_pos rfl], b7⟩, ?_, hl⟩, s7.fuse h.fuse⟩
  have h6 := s7.use
  have h8 := h.use
  rw [w7, hy, h5] at h6
  rw [sealQ_len] at h8
  simp only [List.length_nil] at h6
  omega
theorem Rc.read (h : Rc S nm Q J M) : (readP S (logN nm) 0 (J.length : Int)).2 = J := by
  obtain ⟨y, h3, h4⟩ := h.lg
  unfold readP
  rw [h.up, h3]
  simp only [Bool.false_eq_true, if_false]
  rw [if_neg (by omega), if_neg (by rw [h4]; omega)]
  dsimp only
  rw [h4]
  simp
/-- A journal that is not there, or not whole. -/
theorem again_no (h : Rc S nm (sealQ L) J M) (hl : ∀ b ∈ L, b.length = 508) (hJ : J = [] ∨ (∀ k, 12 + 516 * k ≠ J.length - 4) ∨ J.drop (J.length - 4) ≠ doneD) : ∃ S4, againP nm S = (0, S4) ∧ St S4 nm L M ∧ S4.fuse = -1 := by
  obtain ⟨h1, h2⟩ := h.lens
  unfold againP
  rw [h2]
  cases hn : J.length with
  | zero =>
    have hJ0 : J = [] := List.length_eq_zero_iff.1 hn
    subst hJ0
    obtain ⟨x, k1, k2, k3⟩ := h.db
    have hu := h.use
    rw [sealQ_len] at hu
    exact ⟨S, rfl, ⟨h.up, h.wf, h.most, ⟨x, k1, by rw [k2, flatP_seal], k3⟩, h.lg, by rw [hu]; rfl, hl⟩, h.fuse⟩
  | succ m =>
    have hr := h.read
    rw [hn] at hr
    dsimp only
    rw [hr, if_neg]
    · exact h.cut hl
    · rintro ⟨_, e1, e2⟩
      rcases hJ with rfl | hJ | hJ
      · cases hn
      · rw [hn] at hJ; exact hJ _ e1
      · rw [hn] at hJ; exact hJ e2
theorem nosP_wls (l : List (Nat × List UInt8)) : nosP (wls l) = l := by
  unfold nosP wls
  rw [List.map_map]
  conv => rhs; rw [← List.map_id l]
  apply List.map_congr_left
  rintro ⟨k, b⟩ _
  simp
theorem one_wls (l : List (Nat × List UInt8)) : oneNo (wls l) := by
  intro p hp
  unfold wls at hp
  obtain ⟨q, _, rfl⟩ := List.mem_map.1 hp
  rfl
set_option maxRecDepth 100000 in
/-- A journal that is whole is done. -/
theorem again_yes {h : HdP} {ch : List (Nat × List UInt8)} (hR : Rc S nm Q (walB (wls (batP h ch)) ++ doneD) M) (hb : BatOk L h ch) (hl : ∀ b ∈ L, b.length = 508) (hcl : ch.length < 180) (hQ1 : L.length ≤ Q.length) (hQ2 : Q.length ≤ h.many)
    (hQ : ∀ k, (batP h ch).lookup k = none → Q[k]? = (sealQ L)[k]?) (hM : 8 * h.many + needN (16 + 516 * (ch.length + 1)) ≤ M) : ∃ S4, againP nm S = (0, S4) ∧ St S4 nm (nextL L h ch) M ∧ S4.fuse = -1 := by
  have hdl := db_log nm
  have hchb : ∀ q ∈ ch, 1 ≤ q.1 ∧ q.1 < 65536 ∧ q.2.length = 508 := fun q hq => ⟨(hb.chb q hq).1, by have := (hb.chb q hq).2.1; have := hb.m2; omega, (hb.chb q hq).2.2⟩
  have hok := bat_ok hb.r8 hb.srt hchb (by omega)
  have hlen := walB_len hok
  have hback := we_back hok (one_wls _) []
  rw [List.append_nil] at hback
  rw [wls_len, bat_len] at hlen
  generalize walB (wls (batP h ch)) = b at *
  obtain ⟨h1, h2⟩ := hR.lens
  have hjl : (b ++ doneD).length = b.length + 4 := by rw [List.length_append]; rfl
  rw [hjl] at h2
  have hr := hR.read
  rw [hjl] at hr
  have hsrt := bat_srt (h := h) hb.srt (fun q hq => (hb.chb q hq).1)
  have hcov : ∀ k, Q.length ≤ k → k < h.many → k ∈ (batP h ch).map (·.1) := fun k k1 k2 => by
    unfold batP
    rw [List.map_map]
    show k ∈ ((0, hdB h) :: ch).map (·.1)
    by_cases h0 : k = 0
    · subst h0; simp
    · rw [List.map_cons]
      exact List.mem_cons_of_mem _ ((mem_keys k).2 (hb.cl k (by omega) k2 h0))
  have hmem : ∀ q ∈ batP h ch, q.1 < h.many ∧ q.2.length = 512 := fun q hq => ⟨by
      unfold batP at hq
      obtain ⟨p, hp, rfl⟩ := List.mem_map.1 hq
      rcases List.mem_cons.1 hp with rfl | hp
      · exact hb.m1
      · exact (hb.chb p hp).2.1, (bat_mem hb.r8 hchb hq).2⟩
  obtain ⟨x, hx, hxB, _⟩ := hR.db
  obtain ⟨y, hy, hyB⟩ := hR.lg
  have hu := hR.use
  rw [hjl] at hu
  have hlw : needN (b.length + 4) = needN (16 + 516 * (ch.length + 1)) := by rw [hlen]; congr 1; omega
  have D : DbS S nm Q (needN (b.length + 4)) M (findP S) := ⟨hR.up, hR.wf, hR.fuse, hR.most, ⟨x, hx, hxB⟩, fun s _ => rfl, hu, hR.p5⟩
  obtain ⟨S5, k5, D5⟩ := lay_run (N := h.many) (batP h ch) Q S D hsrt hmem hQ2 hcov (by rw [hlw]; exact hM)
  have hsame : layQ Q (batP h ch) = sealQ (nextL L h ch) := by
    rw [← layQ_next hb]
    obtain ⟨a1, a2⟩ := layQ_len h.many (batP h ch) Q hsrt (fun q hq => (hmem q hq).1) hQ2 hcov
    obtain ⟨b1, b2⟩ := layQ_len h.many (batP h ch) (sealQ L) hsrt (fun q hq => (hmem q hq).1) (by rw [sealQ_len]; exact hb.ge) (fun k k1 k2 => by
      rw [sealQ_len] at k1
      rcases Nat.lt_or_ge k Q.length with hk | hk
      · cases hh : (batP h ch).lookup k with
        | some c => exact List.mem_map.2 ⟨_, lookup_mem2 hh, rfl⟩
        | none =>
          have := hQ k hh
          rw [List.getElem?_eq_getElem hk, List.getElem?_eq_none (by rw [sealQ_len]; exact k1)] at this
          cases this
      · exact hcov k hk k2)
    apply List.ext_getElem?
    intro k
    rw [a2, b2]
    cases hh : (batP h ch).lookup k with
    | some c => rfl
    | none => exact hQ k hh
  rw [hsame] at D5
  obtain ⟨z, hz, hzB⟩ := D5.db
  rcases step_sync D5.wf D5.up hz with ⟨e, _⟩ | ⟨_, S6, k6, s6, f6⟩
  · have := D5.fuse; omega
  have kl : layP nm (batP h ch) S = (0, S6) := by
    unfold layP
    rw [runS_at _ _ k5]
    show (if (syncF S5 (dbN nm)).1 = 0 then runS (syncF S5 (dbN nm)).2 [] else _) = _
    rw [k6, if_pos rfl]; rfl
  have hy6 : findP S6 (logN nm) = some y := by rw [s6.find, if_neg (Ne.symm hdl), D5.oth _ (Ne.symm hdl)]; exact hy
  have hz6 : findP S6 (dbN nm) = some (syncP z) := by rw [s6.find, if_pos rfl]
  have R6 : Rc S6 nm (sealQ (nextL L h ch)) (b ++ doneD) M := ⟨s6.down, s6.fuse D5.fuse, s6.wf, s6.most.trans D5.most, ⟨syncP z, hz6, by rw [syncP_B, hzB], syncP_quiet z⟩, ⟨y, hy6, hyB⟩, by
      have q1 := s6.use
      have q2 := D5.use
      have q3 : (syncP z).W.length = z.W.length := syncP_W z
      rw [hjl]
      omega, sealQ_512 (nextL_508 hb hl)⟩
  obtain ⟨S7, k7, k8, k9⟩ := R6.cut (nextL_508 hb hl)
  refine ⟨S7, ?_, k8, k9⟩
  unfold againP
  rw [h2]
  rw [show b.length + 4 = (b.length + 3) + 1 by omega] at hr ⊢
  dsimp only
  rw [hr, show b.length + 3 + 1 - 4 = b.length by omega, List.take_left, List.drop_left, hback]
  rw [if_pos ⟨rfl, by rw [wls_len, bat_len]; omega, rfl⟩]
  dsimp only
  rw [nosP_wls, kl, if_pos rfl]
  exact k7
end
/-- A store that went down in a commit: a crash, and opening anew, give what was, or what was to be. -/
structure Dn (S : FsP) (nm : List UInt8) (L L2 : List (List UInt8)) (M : Nat) : Prop where
  down : S.down = true
  wf : S.WF
  recov : ∀ keep, ∃ Q J, Rc (crashP S keep) nm Q J M ∧ 1 ≤ Q.length ∧ (J = [] ∨ 4 ≤ J.length) ∧ J.length ≤ 100000 ∧ ∃ S4, againP nm (crashP S keep) = (0, S4) ∧ S4.fuse = -1 ∧ (St S4 nm L M ∨ St S4 nm L2 M)
section
variable {S : FsP} {nm : List UInt8} {L Q : List (List UInt8)} {J : List UInt8} {M : Nat}
/-- A crash of a store that went down where it stood. -/
theorem crash_rc {x y : FlP} {T : Nat → Prop} (hw : S.WF) (hm : S.most = M) (hx : findP S (dbN nm) = some x) (hxB : x.B = Q.flatten) (hxW : ∀ m : Nat, x.W[m]?.getD false = true → T (m / 8)) (hQ : P512 Q) (hy : findP S (logN nm) = some y)
    (hu : useP S.fs = 8 * Q.length + needN y.B.length) (keep : UInt64) :
    ∃ Q2 i, Rc (crashP S keep) nm Q2 (crF keep i y).2.B M ∧ Q2.length = Q.length ∧ ∀ k, ¬ T k → Q2[k]? = Q[k]? := by
  obtain ⟨i, hi⟩ := crash_find keep hx
  obtain ⟨j, hj⟩ := crash_find keep hy
  obtain ⟨Q2, e1, e2, e3, e4⟩ := crash_pages hxB hQ hxW keep i
  refine ⟨Q2, j, ⟨rfl, rfl, crashP_wf hw keep, hm, ⟨_, hi, e1, ?_⟩, ⟨_, hj, rfl⟩, ?_, e2⟩, e3, e4⟩
  · obtain ⟨c, _, h⟩ := crF_bytes x keep i
    exact h
  · rw [crash_use hw, hu, e3, crF_len]
end
end Go.Proofs.YtoadamkmabkldaaGreatDoor
/- A commit on any fuse: it is done, or a crash and opening anew give what was, or what was to be; in plain words. -/
namespace Go.Proofs.YtoadamkmabkldaaGreatDoor

theorem runS_bad {S S1 : FsP} {k : FsP → Nat × FsP} {r : List (FsP → Nat × FsP)} (h : k S = (9, S1)) : runS S (k :: r) = (9, S1) := by
  show (if (k S).1 = 0 then runS (k S).2 r else k S) = _
  rw [h]; rfl
theorem burnt_wf {S : FsP} (h : S.WF) : (burntP S).WF := by
  unfold burntP
  split
  · exact ⟨h.most1, h.most2, h.fuse1, h.fuse2, h.files, h.order, h.room, h.names⟩
  · split
    · exact ⟨h.most1, h.most2, by show -1 ≤ S.fuse - 1; omega, by have := h.fuse2; show S.fuse - 1 ≤ _; omega, h.files, h.order, h.room, h.names⟩
    · exact h
theorem burnt_down {S : FsP} (h : S.fuse = 0) : (burntP S).down = true := by
  unfold burntP
  rw [if_pos h]
theorem byte_at {l : List UInt8} {j : Nat} (h : j < l.length) : l[j]? = some (byP l j) := by
  unfold byP
  rw [List.getElem?_eq_getElem h]; rfl
section
variable {S : FsP} {nm : List UInt8} {L L2 : List (List UInt8)} {M : Nat} {h : HdP} {ch : List (Nat × List UInt8)}
set_option maxRecDepth 100000 in
/-- Its journal is not whole. -/
theorem dn_no {x y : FlP} {m : Nat} (hf : S.fuse = 0) (hw : S.WF) (hm : S.most = M) (hx : findP S (dbN nm) = some x) (hxB : x.B = flatP 0 L) (hq : x.quiet) (hy : findP S (logN nm) = some y) (hu : useP S.fs = 8 * L.length + needN y.B.length)
    (hl : ∀ b ∈ L, b.length = 508) (hL : 1 ≤ L.length) (hn : y.B.length = 0 ∨ y.B.length = 12 + 516 * m) (hm2 : m ≤ 180) : Dn (burntP S) nm L L2 M := by
  refine ⟨burnt_down hf, burnt_wf hw, fun keep => ?_⟩
  rw [crash_burnt hf]
  obtain ⟨Q2, i, hR, hR1, hR2⟩ := crash_rc (T := fun _ => False) hw hm hx (by rw [hxB, flatP_seal]) (fun m hm => by rw [hq m] at hm; cases hm) (sealQ_512 hl) hy (by rw [sealQ_len]; exact hu) keep
  have hQ : Q2 = sealQ L := List.ext_getElem? (fun k => hR2 k (fun h => h))
  subst hQ
  have hjl := crF_len y keep i
  refine ⟨_, _, hR, by rw [sealQ_len]; exact hL, ?_, by omega, ?_⟩
  · rcases hn with hn | hn
    · exact .inl (List.length_eq_zero_iff.1 (by omega))
    · exact .inr (by omega)
  obtain ⟨S4, k1, k2, k3⟩ := again_no hR hl (by
    rcases hn with hn | hn
    · exact .inl (List.length_eq_zero_iff.1 (by omega))
    · exact .inr (.inl (fun k => by omega)))
  exact ⟨S4, k1, k3, .inl k2⟩
set_option maxRecDepth 100000 in
/-- Its journal is whole, and lasts. -/
theorem dn_yes {x y : FlP} {Q : List (List UInt8)} (hf : S.fuse = 0) (hw : S.WF) (hm : S.most = M) (hx : findP S (dbN nm) = some x) (hxB : x.B = Q.flatten) (hQ5 : P512 Q) (hxW : ∀ m : Nat, x.W[m]?.getD false = true → (batP h ch).lookup (m / 8) ≠ none) (hy : findP S (logN nm) = some y)
    (hyB : y.B = walB (wls (batP h ch)) ++ doneD) (hyq : y.quiet) (hu : useP S.fs = 8 * Q.length + needN y.B.length) (hb : BatOk L h ch) (hl : ∀ b ∈ L, b.length = 508) (hL : 1 ≤ L.length) (hcl : ch.length < 180) (hQ1 : L.length ≤ Q.length) (hQ2 : Q.length ≤ h.many)
    (hQ : ∀ k, (batP h ch).lookup k = none → Q[k]? = (sealQ L)[k]?) (hM : 8 * h.many + needN (16 + 516 * (ch.length + 1)) ≤ M) : Dn (burntP S) nm L (nextL L h ch) M := by
  refine ⟨burnt_down hf, burnt_wf hw, fun keep => ?_⟩
  rw [crash_burnt hf]
  obtain ⟨Q2, i, hR, hR1, hR2⟩ := crash_rc (T := fun k => (batP h ch).lookup k ≠ none) hw hm hx hxB hxW hQ5 hy hu keep
  have hchb : ∀ q ∈ ch, 1 ≤ q.1 ∧ q.1 < 65536 ∧ q.2.length = 508 := fun q hq => ⟨(hb.chb q hq).1, by have := (hb.chb q hq).2.1; have := hb.m2; omega, (hb.chb q hq).2.2⟩
  have hlen := walB_len (bat_ok hb.r8 hb.srt hchb (by omega))
  rw [wls_len, bat_len] at hlen
  rw [crF_quiet hyq, hyB] at hR
  refine ⟨_, _, hR, by omega, .inr (by rw [List.length_append, hlen]; omega), by rw [List.length_append, hlen]; show _ + 4 ≤ _; omega, ?_⟩
  obtain ⟨S4, k1, k2, k3⟩ := again_yes hR hb hl hcl (by omega) (by omega) (fun k hk => by rw [hR2 k (fun e => e hk)]; exact hQ k hk) hM
  exact ⟨S4, k1, k3, .inr k2⟩
set_option maxRecDepth 100000 in
/-- Its journal's last word may be lost. -/
theorem dn_half {x y : FlP} (hf : S.fuse = 0) (hw : S.WF) (hm : S.most = M) (hx : findP S (dbN nm) = some x) (hxB : x.B = flatP 0 L) (hq : x.quiet) (hy : findP S (logN nm) = some y)
    (hyB : y.B = walB (wls (batP h ch)) ++ doneD) (hyO : ∀ j, j < (walB (wls (batP h ch))).length → byP y.O j = byP (walB (wls (batP h ch))) j) (hu : useP S.fs = 8 * L.length + needN y.B.length) (hb : BatOk L h ch) (hl : ∀ b ∈ L, b.length = 508) (hL : 1 ≤ L.length) (hcl : ch.length < 180)
    (hM : 8 * h.many + needN (16 + 516 * (ch.length + 1)) ≤ M) : Dn (burntP S) nm L (nextL L h ch) M := by
  refine ⟨burnt_down hf, burnt_wf hw, fun keep => ?_⟩
  rw [crash_burnt hf]
  obtain ⟨Q2, i, hR, hR1, hR2⟩ := crash_rc (T := fun _ => False) hw hm hx (by rw [hxB, flatP_seal]) (fun m hm => by rw [hq m] at hm; cases hm) (sealQ_512 hl) hy (by rw [sealQ_len]; exact hu) keep
  have hQ : Q2 = sealQ L := List.ext_getElem? (fun k => hR2 k (fun h => h))
  subst hQ
  have hchb : ∀ q ∈ ch, 1 ≤ q.1 ∧ q.1 < 65536 ∧ q.2.length = 508 := fun q hq => ⟨(hb.chb q hq).1, by have := (hb.chb q hq).2.1; have := hb.m2; omega, (hb.chb q hq).2.2⟩
  have hlen := walB_len (bat_ok hb.r8 hb.srt hchb (by omega))
  rw [wls_len, bat_len] at hlen
  have hjl := crF_len y keep i
  have hyl : y.B.length = (walB (wls (batP h ch))).length + 4 := by rw [hyB, List.length_append]; rfl
  refine ⟨_, _, hR, by rw [sealQ_len]; exact hL, .inr (by omega), by omega, ?_⟩
  have hhead : (crF keep i y).2.B.take (walB (wls (batP h ch))).length = walB (wls (batP h ch)) := by
    obtain ⟨c, hc, _⟩ := crF_bytes y keep i
    apply List.ext_getElem?
    intro j
    rw [List.getElem?_take]
    split
    · rename_i hj
      rw [hc, hyB, List.getElem?_append_left hj, byte_at hj]
      simp only [Option.map_some]
      split
      · rw [hyO j hj]
      · rfl
    · rename_i hj
      rw [List.getElem?_eq_none (by omega)]
  by_cases hd : (crF keep i y).2.B.drop (walB (wls (batP h ch))).length = doneD
  · have hJ : (crF keep i y).2.B = walB (wls (batP h ch)) ++ doneD := by
      conv => lhs; rw [← List.take_append_drop (walB (wls (batP h ch))).length (crF keep i y).2.B, hhead, hd]
    rw [hJ] at hR
    obtain ⟨S4, k1, k2, k3⟩ := again_yes hR hb hl hcl (by rw [sealQ_len]; exact Nat.le_refl _) (by rw [sealQ_len]; exact hb.ge) (fun k _ => rfl) hM
    exact ⟨S4, k1, k3, .inr k2⟩
  · obtain ⟨S4, k1, k2, k3⟩ := again_no hR hl (.inr (.inr (by rw [hjl, hyl, Nat.add_sub_cancel]; exact hd)))
    exact ⟨S4, k1, k3, .inl k2⟩
set_option maxRecDepth 100000 in
theorem com_any (hS : St S nm L M) (hb : BatOk L h ch) (hcl : ch.length < 180) (hroom : needC (ch.length + 1) h.many (512 * L.length) ≤ M - 8 * L.length) (hM : 8 * L.length ≤ M) (hL : 1 ≤ L.length) :
    (∃ S', comP nm (walB (wls (batP h ch))) (batP h ch) S = (0, S') ∧ St S' nm (nextL L h ch) M) ∨ ∃ S', comP nm (walB (wls (batP h ch))) (batP h ch) S = (9, S') ∧ Dn S' nm L (nextL L h ch) M := by
  have hdl := db_log nm
  have hchb : ∀ q ∈ ch, 1 ≤ q.1 ∧ q.1 < 65536 ∧ q.2.length = 508 := fun q hq => ⟨(hb.chb q hq).1, by have := (hb.chb q hq).2.1; have := hb.m2; omega, (hb.chb q hq).2.2⟩
  have hlen := walB_len (bat_ok hb.r8 hb.srt hchb (by omega))
  rw [wls_len, bat_len] at hlen
  obtain ⟨b, hbb⟩ : ∃ b, b = walB (wls (batP h ch)) := ⟨_, rfl⟩
  rw [← hbb] at hlen ⊢
  obtain ⟨x, hx, hxB, hxq⟩ := hS.db
  obtain ⟨y, hy, hyB⟩ := hS.lg
  have hyl : y.W.length = 0 := by rw [(hS.wf.files _ (lookup_mem hy)).w, hyB]; rfl
  have hmx : max (512 * h.many) (512 * L.length) = 512 * h.many := by have := hb.ge; omega
  unfold needC at hroom
  rw [hmx, need8, need8] at hroom
  have hge := hb.ge
  have n1 : needN b.length ≤ needN (16 + 516 * (ch.length + 1)) := by rw [hlen]; unfold needN; omega
  have n2 : needN (b.length + 4) = needN (16 + 516 * (ch.length + 1)) := by rw [hlen]; congr 1; omega
  have hbn : b ≠ [] := by intro e; rw [e, List.length_nil] at hlen; omega
  have huse := hS.use
  have hmost := hS.most
  have hMM : 8 * h.many + needN (16 + 516 * (ch.length + 1)) ≤ M := by omega
  unfold comP comSteps
  -- the journal
  have w1 := step_write (p := 0) (b := b) hS.wf hS.up hy (Nat.zero_le _) hbn (by rw [hyB, hyl, List.length_nil, Nat.zero_add, Nat.max_eq_right (Nat.zero_le _)]; omega)
  rcases w1 with ⟨e, k1⟩ | ⟨_, S1, y1, k1, s1, f1, b1, _, _⟩
  · exact .inr ⟨_, runS_bad k1, dn_no (m := 0) e hS.wf hmost hx hxB hxq hy (by rw [huse, hyB]; rfl) hS.l5 hL (.inl (by rw [hyB]; rfl)) (by omega)⟩
  rw [runS_ok (S1 := S1) k1]
  have y1B : y1.B = b := by rw [b1, put_end (Nat.zero_le _) (by rw [hyB]; simp)]; simp
  have y1W : y1.W.length = needN b.length := by rw [f1.w, y1B]
  have hy1 : findP S1 (logN nm) = some y1 := by rw [s1.find, if_pos rfl]
  have hx1 : findP S1 (dbN nm) = some x := by rw [s1.find, if_neg hdl]; exact hx
  have u1 : useP S1.fs = 8 * L.length + needN b.length := by have := s1.use; omega
  have m1 : S1.most = M := s1.most.trans hmost
  rcases step_sync s1.wf s1.down hy1 with ⟨e, k2⟩ | ⟨_, S2, k2, s2, f2⟩
  · exact .inr ⟨_, runS_bad k2, dn_no (m := ch.length + 1) e s1.wf m1 hx1 hxB hxq hy1 (by rw [y1B]; exact u1) hS.l5 hL (.inr (by rw [y1B]; exact hlen)) (by omega)⟩
  rw [runS_ok (S1 := S2) k2]
  have y2B : (syncP y1).B = b := by rw [syncP_B, y1B]
  have y2W : (syncP y1).W.length = needN b.length := by rw [syncP_W, y1W]
  have hy2 : findP S2 (logN nm) = some (syncP y1) := by rw [s2.find, if_pos rfl]
  have hx2 : findP S2 (dbN nm) = some x := by rw [s2.find, if_neg hdl]; exact hx1
  have u2 : useP S2.fs = 8 * L.length + needN b.length := by have := s2.use; omega
  have m2 : S2.most = M := s2.most.trans m1
  have w3 := step_write (p := b.length) (b := doneD) s2.wf s2.down hy2 (by rw [y2B]; exact Nat.le_refl _) (by decide) (by rw [y2B, y2W, show doneD.length = 4 from rfl, Nat.max_eq_right (by omega), n2]; omega)
  rcases w3 with ⟨e, k3⟩ | ⟨_, S3, y3, k3, s3, f3, b3, _, o3⟩
  · exact .inr ⟨_, runS_bad k3, dn_no (m := ch.length + 1) e s2.wf m2 hx2 hxB hxq hy2 (by rw [y2B]; exact u2) hS.l5 hL (.inr (by rw [y2B]; exact hlen)) (by omega)⟩
  rw [runS_ok (S1 := S3) k3]
  have y3B : y3.B = b ++ doneD := by rw [b3, put_end (by rw [y2B]; exact Nat.le_refl _) (by rw [y2B]; omega), y2B, List.take_length]
  have y3W : y3.W.length = needN (b.length + 4) := by rw [f3.w, y3B, List.length_append]; rfl
  have hy3 : findP S3 (logN nm) = some y3 := by rw [s3.find, if_pos rfl]
  have hx3 : findP S3 (dbN nm) = some x := by rw [s3.find, if_neg hdl]; exact hx2
  have u3 : useP S3.fs = 8 * L.length + needN (b.length + 4) := by have := s3.use; omega
  have m3 : S3.most = M := s3.most.trans m2
  have y3O : ∀ j, j < b.length → byP y3.O j = byP b j := fun j hj => by
    have hj2 : j < 64 * y1.W.length := by rw [y1W]; unfold needN; omega
    have h1 := syncP_O f1 hj2
    rw [y1B] at h1
    rw [← h1, o3]
    have h2 : j < (syncP y1).O.length := by rw [f2.o, y2W]; unfold needN; omega
    show byP ((syncP y1).O ++ _) j = _
    unfold byP
    rw [List.getElem?_append_left h2]
  rcases step_sync s3.wf s3.down hy3 with ⟨e, k4⟩ | ⟨_, S4, k4, s4, f4⟩
  · exact .inr ⟨_, runS_bad k4, dn_half e s3.wf m3 hx3 hxB hxq hy3 (by rw [y3B, hbb]) (by rw [← hbb]; exact y3O) (by rw [y3B, List.length_append]; exact u3) hb hS.l5 hL hcl hMM⟩
  rw [runS_ok (S1 := S4) k4]
  have y4B : (syncP y3).B = b ++ doneD := by rw [syncP_B, y3B]
  have y4W : (syncP y3).W.length = needN (b.length + 4) := by rw [syncP_W, y3W]
  have hy4 : findP S4 (logN nm) = some (syncP y3) := by rw [s4.find, if_pos rfl]
  have hx4 : findP S4 (dbN nm) = some x := by rw [s4.find, if_neg hdl]; exact hx3
  have u4 : useP S4.fs = 8 * L.length + needN (b.length + 4) := by have := s4.use; omega
  have m4 : S4.most = M := s4.most.trans m3
  -- the pages
  have hsrt := bat_srt (h := h) hb.srt (fun q hq => (hb.chb q hq).1)
  have hlook : ∀ q ∈ batP h ch, (batP h ch).lookup q.1 ≠ none := fun q hq e => by
    have := List.lookup_eq_none_iff.1 e q hq
    simp at this
  have hmem : ∀ q ∈ batP h ch, q.1 < h.many ∧ q.2.length = 512 ∧ (batP h ch).lookup q.1 ≠ none := fun q hq => ⟨by
      have hq2 := hq
      unfold batP at hq2
      obtain ⟨p, hp, rfl⟩ := List.mem_map.1 hq2
      rcases List.mem_cons.1 hp with rfl | hp
      · exact hb.m1
      · exact (hb.chb p hp).2.1, (bat_mem hb.r8 hchb hq).2, hlook q hq⟩
  have hcov : ∀ k, (sealQ L).length ≤ k → k < h.many → k ∈ (batP h ch).map (·.1) := fun k h1 h2 => by
    rw [sealQ_len] at h1
    unfold batP
    rw [List.map_map]
    show k ∈ ((0, hdB h) :: ch).map (·.1)
    by_cases h0 : k = 0
    · subst h0; simp
    · rw [List.map_cons]
      exact List.mem_cons_of_mem _ ((mem_keys k).2 (hb.cl k h1 h2 h0))
  have D4 : DbF S4 nm (sealQ L) (needN (b.length + 4)) M (findP S4) (fun k => (batP h ch).lookup k ≠ none) := ⟨s4.down, s4.wf, m4, ⟨x, hx4, by rw [hxB, flatP_seal], fun m hm => by rw [hxq m] at hm; cases hm⟩, fun s _ => rfl, by rw [sealQ_len]; exact u4, sealQ_512 hS.l5⟩
  have hsl := sealQ_len L
  have hyl4 : needN (syncP y3).B.length = needN (b.length + 4) := by rw [y4B, List.length_append]; rfl
  rcases lay_runF (N := h.many) (batP h ch) (sealQ L) S4 D4 hsrt hmem (by rw [sealQ_len]; exact hge) hcov (by rw [n2]; omega) with ⟨S5, k5, D5⟩ | ⟨S5, Q1, k5, z5, D5, l1, l2, l3⟩
  · have hL2 := layQ_len h.many (batP h ch) (sealQ L) hsrt (fun q hq => (hmem q hq).1) (by rw [sealQ_len]; exact hge) hcov
    have hnone : ∀ k, (batP h ch).lookup k = none → (layQ (sealQ L) (batP h ch))[k]? = (sealQ L)[k]? := fun k hk => by
      have := hL2.2 k
      rw [hk] at this
      exact this
    obtain ⟨z, hz, hzB, hzW⟩ := D5.db
    have hy5 : findP S5 (logN nm) = some (syncP y3) := by rw [D5.oth _ (Ne.symm hdl)]; exact hy4
    have kl : ∀ rc X, syncF S5 (dbN nm) = (rc, X) → layP nm (batP h ch) S4 = (rc, X) := fun rc X hk => by
      unfold layP
      rw [runS_at _ _ k5]
      show (if (syncF S5 (dbN nm)).1 = 0 then runS (syncF S5 (dbN nm)).2 [] else syncF S5 (dbN nm)) = _
      rw [hk]
      split
      · rename_i e0
        have e0 : rc = 0 := e0
        rw [e0]; rfl
      · rfl
    rcases step_sync D5.wf D5.up hz with ⟨e, k6⟩ | ⟨_, S6, k6, s6, f6⟩
    · exact .inr ⟨_, runS_bad (kl _ _ k6), dn_yes e D5.wf D5.most hz hzB D5.p5 hzW hy5 (by rw [y4B, hbb]) (syncP_quiet y3) (by rw [hyl4]; exact D5.use) hb hS.l5 hL hcl (by rw [hL2.1]; exact hge) (by rw [hL2.1]; exact Nat.le_refl _) hnone hMM⟩
    rw [runS_ok (S1 := S6) (kl _ _ k6)]
    have hy6 : findP S6 (logN nm) = some (syncP y3) := by rw [s6.find, if_neg (Ne.symm hdl)]; exact hy5
    have hz6 : findP S6 (dbN nm) = some (syncP z) := by rw [s6.find, if_pos rfl]
    have hzBn : (syncP z).B = flatP 0 (nextL L h ch) := by rw [syncP_B, hzB, layQ_next hb, flatP_seal]
    have u6 : useP S6.fs = 8 * (layQ (sealQ L) (batP h ch)).length + needN (b.length + 4) := by
      have q1 := s6.use
      have q2 := D5.use
      have q3 : (syncP z).W.length = z.W.length := syncP_W z
      omega
    have m6 : S6.most = M := s6.most.trans D5.most
    rcases step_cut s6.wf s6.down hy6 with ⟨e, k7⟩ | ⟨_, S7, y7, k7, s7, b7, w7, _⟩
    · exact .inr ⟨_, runS_bad k7, dn_yes e s6.wf m6 hz6 (by rw [syncP_B, hzB]) D5.p5 (fun m hm => by rw [syncP_quiet z m] at hm; cases hm) hy6 (by rw [y4B, hbb]) (syncP_quiet y3) (by rw [hyl4]; exact u6) hb hS.l5 hL hcl (by rw [hL2.1]; exact hge) (by rw [hL2.1]; exact Nat.le_refl _) hnone hMM⟩
    rw [runS_ok (S1 := S7) k7]
    refine .inl ⟨S7, rfl, s7.down, s7.wf, s7.most.trans m6, ⟨syncP z, by rw [s7.find, if_neg hdl]; exact hz6, hzBn, syncP_quiet z⟩, ⟨y7, by rw [s7.find, if_pos rfl], b7⟩, ?_, nextL_508 hb hS.l5⟩
    have h1 := s7.use
    rw [w7] at h1
    rw [hL2.1] at u6
    rw [nextL_len]
    simp only [List.length_nil] at h1
    omega
  · have kl : layP nm (batP h ch) S4 = (9, burntP S5) := by
      unfold layP
      rw [runS_app, k5]
      rfl
    obtain ⟨z, hz, hzB, hzW⟩ := D5.db
    have hy5 : findP S5 (logN nm) = some (syncP y3) := by rw [D5.oth _ (Ne.symm hdl)]; exact hy4
    exact .inr ⟨_, runS_bad kl, dn_yes z5 D5.wf D5.most hz hzB D5.p5 hzW hy5 (by rw [y4B, hbb]) (syncP_quiet y3) (by rw [hyl4]; exact D5.use) hb hS.l5 hL hcl (by omega) l2 l3 hMM⟩
end
/-- A store that is up, and crashes. -/
theorem St.crash {S : FsP} {nm : List UInt8} {L : List (List UInt8)} {M : Nat} (hS : St S nm L M) (keep : UInt64) : St (crashP S keep) nm L M := by
  obtain ⟨x, hx, hxB, hxq⟩ := hS.db
  obtain ⟨y, hy, hyB⟩ := hS.lg
  obtain ⟨i, hi⟩ := crash_find keep hx
  obtain ⟨j, hj⟩ := crash_find keep hy
  refine ⟨rfl, crashP_wf hS.wf keep, hS.most, ⟨_, hi, by rw [crF_quiet hxq]; exact hxB, ?_⟩, ⟨_, hj, List.length_eq_zero_iff.1 (by rw [crF_len, hyB]; rfl)⟩, by rw [crash_use hS.wf]; exact hS.use, hS.l5⟩
  obtain ⟨c, _, h⟩ := crF_bytes x keep i
  exact h
end Go.Proofs.YtoadamkmabkldaaGreatDoor
