/- What a commit makes of the files, where nothing stops it; in plain words. -/
import Derived.Test.YtoadamkmabkldaaGreatDoorJn28
set_option linter.unusedVariables false
set_option linter.unusedSimpArgs false
namespace Go.Proofs.YtoadamkmabkldaaGreatDoor

/-- Bytes that are put at a file's end, or over it. -/
theorem put_end {z : FlP} {p : Nat} {b : List UInt8} (hp : p ≤ z.B.length) (hb : z.B.length ≤ p + b.length) : (putP (growP z (max z.B.length (p + b.length))) p b).B = z.B.take p ++ b := by
  unfold putP growP
  simp only
  rw [List.take_append_of_le_length hp, List.drop_of_length_le (by rw [List.length_append, List.length_replicate]; omega), List.append_nil]
theorem put_in {z : FlP} {p : Nat} {b : List UInt8} (hb : p + b.length ≤ z.B.length) : (putP (growP z (max z.B.length (p + b.length))) p b).B = z.B.take p ++ (b ++ z.B.drop (p + b.length)) := by
  unfold putP growP
  simp only
  rw [show max z.B.length (p + b.length) - z.B.length = 0 by omega, List.replicate_zero, List.append_nil]
def P512 (Q : List (List UInt8)) : Prop := ∀ q ∈ Q, q.length = 512
theorem flat_len : ∀ {Q : List (List UInt8)}, P512 Q → Q.flatten.length = 512 * Q.length
  | [], _ => rfl
  | q :: r, h => by
    rw [List.flatten_cons, List.length_append, h q (List.mem_cons_self ..), flat_len (fun c hc => h c (List.mem_cons_of_mem _ hc)), List.length_cons]; omega
def setQ (Q : List (List UInt8)) (no : Nat) (b : List UInt8) : List (List UInt8) := if no < Q.length then Q.set no b else Q ++ [b]
def layQ (Q : List (List UInt8)) (l : List (Nat × List UInt8)) : List (List UInt8) := l.foldl (fun Q q => setQ Q q.1 q.2) Q
theorem flat_take : ∀ {Q : List (List UInt8)} {k : Nat}, P512 Q → (Q.flatten.take (512 * k)) = (Q.take k).flatten
  | [], k, _ => by simp
  | q :: r, 0, _ => by simp
  | q :: r, k + 1, h => by
    have hq := h q (List.mem_cons_self ..)
    rw [List.take_succ_cons, List.flatten_cons, List.flatten_cons, List.take_append, List.take_of_length_le (by omega), hq, show 512 * (k + 1) - 512 = 512 * k by omega, flat_take (fun c hc => h c (List.mem_cons_of_mem _ hc))]
theorem flat_drop : ∀ {Q : List (List UInt8)} {k : Nat}, P512 Q → (Q.flatten.drop (512 * k)) = (Q.drop k).flatten
  | [], k, _ => by simp
  | q :: r, 0, _ => by simp
  | q :: r, k + 1, h => by
    have hq := h q (List.mem_cons_self ..)
    rw [List.drop_succ_cons, List.flatten_cons, List.drop_append, List.drop_of_length_le (by omega), hq, show 512 * (k + 1) - 512 = 512 * k by omega, List.nil_append, flat_drop (fun c hc => h c (List.mem_cons_of_mem _ hc))]
/-- A page is put. -/
theorem put_page {z : FlP} {Q : List (List UInt8)} {no : Nat} {b : List UInt8} (hz : z.B = Q.flatten) (hQ : P512 Q) (hno : no ≤ Q.length) (hb : b.length = 512) :
    (putP (growP z (max z.B.length (512 * no + b.length))) (512 * no) b).B = (setQ Q no b).flatten ∧ P512 (setQ Q no b) ∧ max z.B.length (512 * no + b.length) = 512 * (setQ Q no b).length := by
  have hl := flat_len hQ
  unfold setQ
  split
  · rename_i h
    refine ⟨?_, ?_, ?_⟩
    · rw [put_in (by rw [hz, hl, hb]; omega), hz, flat_take hQ, hb, show 512 * no + 512 = 512 * (no + 1) by omega, flat_drop hQ, List.set_eq_take_append_cons_drop, if_pos h, List.flatten_append, List.flatten_cons]
    · intro q hq
      rcases List.mem_or_eq_of_mem_set hq with e | e
      · exact hQ q e
      · rw [e]; exact hb
    · rw [hz, hl, hb, List.length_set]; omega
  · rename_i h
    have hn : no = Q.length := by omega
    subst hn
    refine ⟨?_, ?_, ?_⟩
    · rw [put_end (by rw [hz, hl]; exact Nat.le_refl _) (by rw [hz, hl]; omega), hz, flat_take hQ, List.take_length, List.flatten_append]
      simp
    · intro q hq
      rcases List.mem_append.1 hq with e | e
      · exact hQ q e
      · simp at e; rw [e]; exact hb
    · rw [hz, hl, hb, List.length_append, List.length_singleton]; omega
theorem setQ_len (Q : List (List UInt8)) (no : Nat) (b : List UInt8) (h : no ≤ Q.length) : (setQ Q no b).length = max Q.length (no + 1) := by
  unfold setQ
  split
  · rw [List.length_set]; omega
  · rw [List.length_append, List.length_singleton]; omega
theorem setQ_at (Q : List (List UInt8)) (no : Nat) (b : List UInt8) (h : no ≤ Q.length) (k : Nat) : (setQ Q no b)[k]? = if k = no then some b else Q[k]? := by
  unfold setQ
  split
  · rename_i h1
    by_cases e : k = no
    · subst e; rw [if_pos rfl, List.getElem?_set_self h1]
    · rw [if_neg e, List.getElem?_set_ne (Ne.symm e)]
  · rename_i h1
    have : no = Q.length := by omega
    subst this
    by_cases e : k = Q.length
    · subst e; rw [if_pos rfl]; simp
    · rw [if_neg e]
      rcases Nat.lt_or_ge k Q.length with h2 | h2
      · rw [List.getElem?_append_left h2]
      · rw [List.getElem?_eq_none (by simp; omega), List.getElem?_eq_none h2]
/-- A store whose file of pages is this, the other files as they were. -/
structure DbS (S : FsP) (nm : List UInt8) (Q : List (List UInt8)) (c M : Nat) (G : List UInt8 → Option FlP) : Prop where
  up : S.down = false
  wf : S.WF
  fuse : S.fuse = -1
  most : S.most = M
  db : ∃ x, findP S (dbN nm) = some x ∧ x.B = Q.flatten
  oth : ∀ s, s ≠ dbN nm → findP S s = G s
  use : useP S.fs = 8 * Q.length + c
  p5 : P512 Q
theorem need8 (k : Nat) : needN (512 * k) = 8 * k := by unfold needN; omega
theorem lay_one {S : FsP} {nm : List UInt8} {Q : List (List UInt8)} {c M : Nat} {G : List UInt8 → Option FlP} {no : Nat} {b : List UInt8} (h : DbS S nm Q c M G) (hno : no ≤ Q.length) (hb : b.length = 512) (hroom : 8 * max Q.length (no + 1) + c ≤ M) :
    ∃ S', layOne nm (no, b) S = (0, S') ∧ DbS S' nm (setQ Q no b) c M G := by
  obtain ⟨x, hx, hxB⟩ := h.db
  obtain ⟨p1, p2, p3⟩ := put_page (z := x) hxB h.p5 hno hb
  have hxw := (h.wf.files _ (lookup_mem hx)).w
  have hxl : x.W.length = 8 * Q.length := by rw [hxw, hxB, flat_len h.p5, need8]
  have hsl := setQ_len Q no b hno
  rcases step_write (p := 512 * no) (b := b) h.wf h.up hx (by rw [hxB, flat_len h.p5]; omega) (by rintro rfl; cases hb) (by rw [p3, need8, h.use, h.most, hsl]; omega) with ⟨e, _⟩ | ⟨_, S', y, e, hs, hy, y1, y2, y3⟩
  · have := h.fuse; omega
  · refine ⟨S', e, hs.down, hs.wf, hs.fuse h.fuse, hs.most.trans h.most, ⟨y, by rw [hs.find, if_pos rfl], by rw [y1, p1]⟩, fun s hs2 => by rw [hs.find, if_neg hs2]; exact h.oth s hs2, ?_, p2⟩
    have h1 := hs.use
    have h2 : y.W.length = 8 * (setQ Q no b).length := by rw [hy.w, y1, p1, flat_len p2, need8]
    have := h.use
    omega
theorem layQ_len (N : Nat) : ∀ (l : List (Nat × List UInt8)) (Q : List (List UInt8)), l.Pairwise (fun p q => p.1 < q.1) → (∀ q ∈ l, q.1 < N) → Q.length ≤ N → (∀ k, Q.length ≤ k → k < N → k ∈ l.map (·.1)) →
    (layQ Q l).length = N ∧ ∀ k : Nat, (layQ Q l)[k]? = match l.lookup k with | some b => some b | none => Q[k]?
  | [], Q, _, _, hl, hc => by
    have : Q.length = N := by
      rcases Nat.lt_or_ge Q.length N with h | h
      · have := hc Q.length (Nat.le_refl _) h; simp at this
      · omega
    exact ⟨this, fun k => rfl⟩
  | (no, b) :: r, Q, hs, hN, hl, hc => by
    obtain ⟨h1, h2⟩ := List.pairwise_cons.1 hs
    have hnoN : no < N := hN _ (List.mem_cons_self ..)
    have hno : no ≤ Q.length := by
      rcases Nat.lt_or_ge Q.length no with h | h
      · have := hc Q.length (Nat.le_refl _) (by omega)
        rw [List.map_cons] at this
        rcases List.mem_cons.1 this with e | e
        · dsimp only at e; omega
        · obtain ⟨q, hq, e⟩ := List.mem_map.1 e
          have := h1 q hq; dsimp only at this; omega
      · exact h
    obtain ⟨e1, e2⟩ := layQ_len N r (setQ Q no b) h2 (fun q hq => hN q (List.mem_cons_of_mem _ hq)) (by rw [setQ_len Q no b hno]; omega) (fun k hk1 hk2 => by
      rw [setQ_len Q no b hno] at hk1
      have := hc k (by omega) hk2
      rw [List.map_cons] at this
      rcases List.mem_cons.1 this with e | e
      · dsimp only at e; omega
      · exact e)
    refine ⟨e1, fun k => ?_⟩
    show (layQ (setQ Q no b) r)[k]? = _
    rw [e2, List.lookup_cons]
    by_cases e : k = no
    · subst e
      have : r.lookup k = none := by
        cases hh : r.lookup k with
        | none => rfl
        | some c =>
          have := h1 _ (lookup_mem2 hh)
          dsimp only at this; omega
      rw [this, beq_self_eq_true]
      dsimp only
      rw [setQ_at Q k b hno, if_pos rfl]
    · rw [show (k == no) = false by simpa using e]
      dsimp only
      cases r.lookup k with
      | some c => rfl
      | none => dsimp only; rw [setQ_at Q no b hno, if_neg e]
theorem lay_run {nm : List UInt8} {c M N : Nat} {G : List UInt8 → Option FlP} : ∀ (l : List (Nat × List UInt8)) (Q : List (List UInt8)) (S : FsP), DbS S nm Q c M G → l.Pairwise (fun p q => p.1 < q.1) → (∀ q ∈ l, q.1 < N ∧ q.2.length = 512) → Q.length ≤ N → (∀ k, Q.length ≤ k → k < N → k ∈ l.map (·.1)) → 8 * N + c ≤ M →
    ∃ S', runS S (l.map (layOne nm)) = (0, S') ∧ DbS S' nm (layQ Q l) c M G
  | [], Q, S, h, _, _, _, _, _ => ⟨S, rfl, h⟩
  | (no, b) :: r, Q, S, h, hs, hN, hl, hc, hM => by
    obtain ⟨h1, h2⟩ := List.pairwise_cons.1 hs
    have hnoN := hN _ (List.mem_cons_self ..)
    dsimp only at hnoN
    have hno : no ≤ Q.length := by
      rcases Nat.lt_or_ge Q.length no with h | h
      · have := hc Q.length (Nat.le_refl _) (by omega)
        rw [List.map_cons] at this
        rcases List.mem_cons.1 this with e | e
        · dsimp only at e; omega
        · obtain ⟨q, hq, e⟩ := List.mem_map.1 e
          have := h1 q hq; dsimp only at this; omega
      · exact h
    obtain ⟨S1, e1, d1⟩ := lay_one h hno hnoN.2 (by omega)
    obtain ⟨S2, e2, d2⟩ := lay_run r (setQ Q no b) S1 d1 h2 (fun q hq => hN q (List.mem_cons_of_mem _ hq)) (by rw [setQ_len Q no b hno]; omega) (fun k hk1 hk2 => by
      rw [setQ_len Q no b hno] at hk1
      have := hc k (by omega) hk2
      rw [List.map_cons] at this
      rcases List.mem_cons.1 this with e | e
      · dsimp only at e; omega
      · exact e) hM
    refine ⟨S2, ?_, d2⟩
    rw [List.map_cons, runS, e1]
    exact e2
end Go.Proofs.YtoadamkmabkldaaGreatDoor
/- A commit where nothing stops it, in plain words. -/
namespace Go.Proofs.YtoadamkmabkldaaGreatDoor

def sealQ (L : List (List UInt8)) : List (List UInt8) := L.mapIdx fun i b => sealB (i : Int) b
theorem flatP_mapIdx : ∀ (L : List (List UInt8)) (i : Nat), flatP i L = (L.mapIdx fun k b => sealB ((i + k : Nat) : Int) b).flatten
  | [], _ => rfl
  | b :: r, i => by
    rw [List.mapIdx_cons, List.flatten_cons, flatP, flatP_mapIdx r (i + 1)]
    have e : (fun (k : Nat) (c : List UInt8) => sealB ((i + 1 + k : Nat) : Int) c) = fun k c => sealB ((i + (k + 1) : Nat) : Int) c := by
      funext k c
      rw [show i + 1 + k = i + (k + 1) by omega]
    rw [e]
    rfl
theorem flatP_seal (L : List (List UInt8)) : flatP 0 L = (sealQ L).flatten := by
  rw [flatP_mapIdx]
  unfold sealQ
  simp only [Nat.zero_add]
theorem sealQ_len (L : List (List UInt8)) : (sealQ L).length = L.length := by simp [sealQ]
theorem sealQ_at (L : List (List UInt8)) (k : Nat) : (sealQ L)[k]? = L[k]?.map fun b => sealB (k : Int) b := by unfold sealQ; rw [List.getElem?_mapIdx]
theorem sealQ_512 {L : List (List UInt8)} (h : ∀ b ∈ L, b.length = 508) : P512 (sealQ L) := by
  intro q hq
  obtain ⟨k, hk, e⟩ := List.getElem_of_mem hq
  have h2 := sealQ_at L k
  rw [List.getElem?_eq_getElem hk, e] at h2
  cases hl : L[k]? with
  | none => rw [hl] at h2; cases h2
  | some b =>
    rw [hl] at h2
    injection h2 with h2
    rw [h2, sealB_len _ _ (by rw [h b (List.mem_of_getElem? hl)]; omega)]
theorem padB_full {b : List UInt8} (h : b.length = 508) : padB b = b := by unfold padB; rw [h]; simp
theorem seal_pad (z : Int) {b : List UInt8} (h : b.length ≤ 508) : sealB z (padB b) = sealB z b := by
  unfold sealB
  rw [padB_full (padB_len b h)]
/-- A store that is up: its pages lie in the file, the journal is empty. -/
structure St (S : FsP) (nm : List UInt8) (L : List (List UInt8)) (M : Nat) : Prop where
  up : S.down = false
  wf : S.WF
  most : S.most = M
  db : ∃ x, findP S (dbN nm) = some x ∧ x.B = flatP 0 L ∧ x.quiet
  lg : ∃ y, findP S (logN nm) = some y ∧ y.B = []
  use : useP S.fs = 8 * L.length
  l5 : ∀ b ∈ L, b.length = 508
theorem St.len {S : FsP} {nm : List UInt8} {L : List (List UInt8)} {M : Nat} (h : St S nm L M) : lenP S (dbN nm) = some (512 * L.length) ∧ lenP S (logN nm) = some 0 := by
  obtain ⟨x, h1, h2, _⟩ := h.db
  obtain ⟨y, h3, h4⟩ := h.lg
  unfold lenP
  rw [h.up, h1, h3]
  simp only [Bool.false_eq_true, if_false, Option.map_some]
  rw [h2, h4, flatP_len L 0 (fun b hb => by rw [h.l5 b hb]; omega)]
  exact ⟨rfl, rfl⟩
theorem St.hold {S : FsP} {nm : List UInt8} {L : List (List UInt8)} {M : Nat} (h : St S nm L M) {k : Nat} {b : List UInt8} (hk : L[k]? = some b) : Holds S nm k b := by
  obtain ⟨x, h1, h2, _⟩ := h.db
  have hl : ∀ b ∈ L, b.length ≤ 508 := fun b hb => by rw [h.l5 b hb]; omega
  have hb := h.l5 b (List.mem_of_getElem? hk)
  have hlt := (List.getElem?_eq_some_iff.1 hk).1
  have hat := flatP_at L 0 k b hl hk
  rw [Nat.zero_add] at hat
  have hlen := flatP_len L 0 hl
  refine ⟨sealB (k : Int) b, ?_, sealB_len _ _ (by omega), ?_, ?_⟩
  · rw [read_of _ _ h.up h1, if_neg (by omega), if_neg (by rw [h2, hlen]; omega), h2]
    rw [show ((512 * k : Nat) : Int).toNat = 512 * k by omega, show (512 : Int).toNat = 512 from rfl, hat]
  · obtain ⟨s1, s2⟩ := seal_take (k : Int) b (by omega)
    rw [s1, s2]
  · rw [(seal_take (k : Int) b (by omega)).1, padB_full hb]
/-- The pages behind a commit. -/
def nextL (L : List (List UInt8)) (h : HdP) (ch : List (Nat × List UInt8)) : List (List UInt8) := (List.range h.many).map fun k => if k = 0 then padB (hdB h) else (ch.lookup k).getD (L[k]?.getD [])
theorem nextL_len (L : List (List UInt8)) (h : HdP) (ch : List (Nat × List UInt8)) : (nextL L h ch).length = h.many := by simp [nextL]
theorem nextL_at (L : List (List UInt8)) (h : HdP) (ch : List (Nat × List UInt8)) {k : Nat} (hk : k < h.many) : (nextL L h ch)[k]? = some (if k = 0 then padB (hdB h) else (ch.lookup k).getD (L[k]?.getD [])) := by
  unfold nextL
  rw [List.getElem?_map, List.getElem?_range hk]; rfl
theorem lookup_seal (k : Nat) : ∀ l : List (Nat × List UInt8), (l.map fun q => (q.1, sealB (q.1 : Int) q.2)).lookup k = (l.lookup k).map fun b => sealB (k : Int) b
  | [] => rfl
  | (j, c) :: r => by
    rw [List.map_cons, List.lookup_cons, List.lookup_cons]
    by_cases e : k = j
    · subst e; simp
    · rw [show (k == j) = false by simpa using e]
      exact lookup_seal k r
/-- What a batch asks for. -/
structure BatOk (L : List (List UInt8)) (h : HdP) (ch : List (Nat × List UInt8)) : Prop where
  r8 : h.roots.length = 8
  m1 : 1 ≤ h.many
  m2 : h.many ≤ 65536
  srt : ch.Pairwise fun p q => p.1 < q.1
  chb : ∀ q ∈ ch, 1 ≤ q.1 ∧ q.1 < h.many ∧ q.2.length = 508
  ge : L.length ≤ h.many
  cl : ∀ k, L.length ≤ k → k < h.many → k ≠ 0 → (ch.lookup k).isSome = true
theorem nextL_508 {L : List (List UInt8)} {h : HdP} {ch : List (Nat × List UInt8)} (hb : BatOk L h ch) (hl : ∀ b ∈ L, b.length = 508) : ∀ b ∈ nextL L h ch, b.length = 508 := by
  intro b hbm
  unfold nextL at hbm
  obtain ⟨k, hk, rfl⟩ := List.mem_map.1 hbm
  have hk2 : k < h.many := by simpa using hk
  split
  · exact padB_len _ (by rw [hdB_len hb.r8]; omega)
  · rename_i h0
    cases hc : ch.lookup k with
    | some c => exact (hb.chb _ (lookup_mem2 hc)).2.2
    | none =>
      have hkl : k < L.length := by
        rcases Nat.lt_or_ge k L.length with h | h
        · exact h
        · have := hb.cl k h hk2 h0; rw [hc] at this; cases this
      rw [List.getElem?_eq_getElem hkl]
      exact hl _ (List.getElem_mem hkl)
theorem layQ_next {L : List (List UInt8)} {h : HdP} {ch : List (Nat × List UInt8)} (hb : BatOk L h ch) : layQ (sealQ L) (batP h ch) = sealQ (nextL L h ch) := by
  obtain ⟨e1, e2⟩ := layQ_len h.many (batP h ch) (sealQ L) (bat_srt hb.srt (fun q hq => (hb.chb q hq).1)) (fun q hq => by
      unfold batP at hq
      obtain ⟨p, hp, rfl⟩ := List.mem_map.1 hq
      rcases List.mem_cons.1 hp with rfl | hp
      · exact hb.m1
      · exact (hb.chb p hp).2.1) (by rw [sealQ_len]; exact hb.ge) (fun k h1 h2 => by
      rw [sealQ_len] at h1
      unfold batP
      rw [List.map_map]
      show k ∈ ((0, hdB h) :: ch).map (·.1)
      by_cases h0 : k = 0
      · subst h0; simp
      · rw [List.map_cons]
        exact List.mem_cons_of_mem _ ((mem_keys k).2 (hb.cl k h1 h2 h0)))
  apply List.ext_getElem?
  intro k
  rw [e2]
  rcases Nat.lt_or_ge k h.many with hk | hk
  · rw [sealQ_at (nextL L h ch) k, nextL_at L h ch hk]
    unfold batP
    rw [lookup_seal, List.lookup_cons]
    by_cases h0 : k = 0
    · subst h0
      simp only [beq_self_eq_true, Option.map_some, if_true]
      rw [seal_pad _ (by rw [hdB_len hb.r8]; omega)]
    · rw [show (k == 0) = false by simpa using h0, if_neg h0]
      dsimp only
      cases hc : ch.lookup k with
      | some c => rfl
      | none =>
        have hkl : k < L.length := by
          rcases Nat.lt_or_ge k L.length with h | h
          · exact h
          · have := hb.cl k h hk h0; rw [hc] at this; cases this
        simp only [Option.map_none, Option.getD_none, Option.map_some]
        rw [sealQ_at, List.getElem?_eq_getElem hkl]
        rfl
  · have hrr : (sealQ (nextL L h ch))[k]? = none := List.getElem?_eq_none (by rw [sealQ_len, nextL_len]; exact hk)
    rw [hrr]
    have : (batP h ch).lookup k = none := by
      cases hh : (batP h ch).lookup k with
      | none => rfl
      | some c =>
        have hm := lookup_mem2 hh
        unfold batP at hm
        obtain ⟨p, hp, e⟩ := List.mem_map.1 hm
        injection e with e _
        rcases List.mem_cons.1 hp with rfl | hp
        · have := hb.m1; dsimp only at e; omega
        · have := (hb.chb p hp).2.1; omega
    rw [this]
    exact List.getElem?_eq_none (by rw [sealQ_len]; have := hb.ge; omega)
theorem runS_ok {S S1 : FsP} {k : FsP → Nat × FsP} {r : List (FsP → Nat × FsP)} (h : k S = (0, S1)) : runS S (k :: r) = runS S1 r := by
  show (if (k S).1 = 0 then runS (k S).2 r else k S) = runS S1 r
  rw [h, if_pos rfl]
set_option maxRecDepth 100000 in
theorem com_ok {S : FsP} {nm : List UInt8} {L : List (List UInt8)} {M : Nat} {h : HdP} {ch : List (Nat × List UInt8)} (hS : St S nm L M) (hf : S.fuse = -1) (hb : BatOk L h ch) (hcl : ch.length < 180) (hroom : needC (ch.length + 1) h.many (512 * L.length) ≤ M - 8 * L.length) (hM : 8 * L.length ≤ M) :
    ∃ S', comP nm (walB (wls (batP h ch))) (batP h ch) S = (0, S') ∧ St S' nm (nextL L h ch) M ∧ S'.fuse = -1 := by
  have hdl := db_log nm
  have hchb : ∀ q ∈ ch, 1 ≤ q.1 ∧ q.1 < 65536 ∧ q.2.length = 508 := fun q hq => ⟨(hb.chb q hq).1, by have := (hb.chb q hq).2.1; have := hb.m2; omega, (hb.chb q hq).2.2⟩
  have hlen := walB_len (bat_ok hb.r8 hb.srt hchb (by omega))
  rw [wls_len, bat_len] at hlen
  generalize walB (wls (batP h ch)) = b at hlen ⊢
  obtain ⟨x, hx, hxB, hxq⟩ := hS.db
  obtain ⟨y, hy, hyB⟩ := hS.lg
  have hyl : y.W.length = 0 := by rw [(hS.wf.files _ (lookup_mem hy)).w, hyB]; rfl
  have hmx : max (512 * h.many) (512 * L.length) = 512 * h.many := by have := hb.ge; omega
  unfold needC at hroom
  rw [hmx, need8, need8] at hroom
  have hge := hb.ge
  have n1 : needN b.length ≤ needN (16 + 516 * (ch.length + 1)) := by rw [hlen]; unfold needN; omega
  have n2 : needN (b.length + 4) = needN (16 + 516 * (ch.length + 1)) := by rw [hlen]; congr 1; omega
  have hbn : b ≠ [] := by intro e; rw [e, List.length_nil] at hlen; omega
  have huse := hS.use
  have hmost := hS.most
  -- the journal
  have w1 := step_write (p := 0) (b := b) hS.wf hS.up hy (Nat.zero_le _) hbn (by rw [hyB, hyl, List.length_nil, Nat.zero_add, Nat.max_eq_right (Nat.zero_le _)]; omega)
  rcases w1 with ⟨e, _⟩ | ⟨_, S1, y1, k1, s1, f1, b1, _, _⟩
  · omega
  have y1B : y1.B = b := by rw [b1, put_end (Nat.zero_le _) (by rw [hyB]; simp)]; simp
  have y1W : y1.W.length = needN b.length := by rw [f1.w, y1B]
  have hy1 : findP S1 (logN nm) = some y1 := by rw [s1.find, if_pos rfl]
  have hx1 : findP S1 (dbN nm) = some x := by rw [s1.find, if_neg hdl]; exact hx
  have u1 : useP S1.fs = 8 * L.length + needN b.length := by have := s1.use; omega
  rcases step_sync s1.wf s1.down hy1 with ⟨e, _⟩ | ⟨_, S2, k2, s2, f2⟩
  · have := s1.fuse hf; omega
  have y2B : (syncP y1).B = b := by rw [syncP_B, y1B]
  have y2W : (syncP y1).W.length = needN b.length := by rw [syncP_W, y1W]
  have hy2 : findP S2 (logN nm) = some (syncP y1) := by rw [s2.find, if_pos rfl]
  have hx2 : findP S2 (dbN nm) = some x := by rw [s2.find, if_neg hdl]; exact hx1
  have u2 : useP S2.fs = 8 * L.length + needN b.length := by have := s2.use; omega
  have m2 : S2.most = M := by rw [s2.most, s1.most]; exact hmost
  have w3 := step_write (p := b.length) (b := doneD) s2.wf s2.down hy2 (by rw [y2B]; exact Nat.le_refl _) (by decide) (by rw [y2B, y2W, show doneD.length = 4 from rfl, Nat.max_eq_right (by omega), n2]; omega)
  rcases w3 with ⟨e, _⟩ | ⟨_, S3, y3, k3, s3, f3, b3, _, _⟩
  · have := s2.fuse (s1.fuse hf); omega
  have y3B : y3.B = b ++ doneD := by rw [b3, put_end (by rw [y2B]; exact Nat.le_refl _) (by rw [y2B]; omega), y2B, List.take_length]
  have y3W : y3.W.length = needN (b.length + 4) := by rw [f3.w, y3B, List.length_append]; rfl
  have hy3 : findP S3 (logN nm) = some y3 := by rw [s3.find, if_pos rfl]
  have hx3 : findP S3 (dbN nm) = some x := by rw [s3.find, if_neg hdl]; exact hx2
  have u3 : useP S3.fs = 8 * L.length + needN (b.length + 4) := by have := s3.use; omega
  have g3 := s3.fuse (s2.fuse (s1.fuse hf))
  rcases step_sync s3.wf s3.down hy3 with ⟨e, _⟩ | ⟨_, S4, k4, s4, f4⟩
  · omega
  have y4W : (syncP y3).W.length = needN (b.length + 4) := by rw [syncP_W, y3W]
  have hy4 : findP S4 (logN nm) = some (syncP y3) := by rw [s4.find, if_pos rfl]
  have hx4 : findP S4 (dbN nm) = some x := by rw [s4.find, if_neg hdl]; exact hx3
  have u4 : useP S4.fs = 8 * L.length + needN (b.length + 4) := by have := s4.use; omega
  have m4 : S4.most = M := by rw [s4.most, s3.most]; exact m2
  -- the pages
  have D4 : DbS S4 nm (sealQ L) (needN (b.length + 4)) M (findP S4) := ⟨s4.down, s4.wf, s4.fuse g3, m4, ⟨x, hx4, by rw [hxB, flatP_seal]⟩, fun s _ => rfl, by rw [sealQ_len]; exact u4, sealQ_512 hS.l5⟩
  obtain ⟨S5, k5, D5⟩ := lay_run (N := h.many) (batP h ch) (sealQ L) S4 D4 (bat_srt hb.srt (fun q hq => (hb.chb q hq).1)) (fun q hq => ⟨by
      unfold batP at hq
      obtain ⟨p, hp, rfl⟩ := List.mem_map.1 hq
      rcases List.mem_cons.1 hp with rfl | hp
      · exact hb.m1
      · exact (hb.chb p hp).2.1, (bat_mem hb.r8 hchb hq).2⟩) (by rw [sealQ_len]; exact hge) (fun k h1 h2 => by
      rw [sealQ_len] at h1
      unfold batP
      rw [List.map_map]
      show k ∈ ((0, hdB h) :: ch).map (·.1)
      by_cases h0 : k = 0
      · subst h0; simp
      · rw [List.map_cons]
        exact List.mem_cons_of_mem _ ((mem_keys k).2 (hb.cl k h1 h2 h0))) (by rw [n2]; omega)
  rw [layQ_next hb] at D5
  obtain ⟨z, hz, hzB⟩ := D5.db
  rcases step_sync D5.wf D5.up hz with ⟨e, _⟩ | ⟨_, S6, k6, s6, f6⟩
  · have := D5.fuse; omega
  have kl : layP nm (batP h ch) S4 = (0, S6) := by
    unfold layP
    rw [runS_at _ _ k5]
    show (if (syncF S5 (dbN nm)).1 = 0 then runS (syncF S5 (dbN nm)).2 [] else _) = _
    rw [k6, if_pos rfl]; rfl
  have hy6 : findP S6 (logN nm) = some (syncP y3) := by rw [s6.find, if_neg (Ne.symm hdl), D5.oth _ (Ne.symm hdl)]; exact hy4
  have hz6 : findP S6 (dbN nm) = some (syncP z) := by rw [s6.find, if_pos rfl]
  rcases step_cut s6.wf s6.down hy6 with ⟨e, _⟩ | ⟨_, S7, y7, k7, s7, b7, w7, _⟩
  · have := s6.fuse D5.fuse; omega
  refine ⟨S7, ?_, ⟨s7.down, s7.wf, by rw [s7.most, s6.most]; exact D5.most, ⟨syncP z, by rw [s7.find, if_neg hdl]; exact hz6, by rw [syncP_B, hzB, flatP_seal], syncP_quiet z⟩, ⟨y7, by rw [s7.find, if_pos rfl], b7⟩, ?_, nextL_508 hb hS.l5⟩, s7.fuse (s6.fuse D5.fuse)⟩
  · unfold comP comSteps
    rw [runS_ok (S1 := S1) k1, runS_ok (S1 := S2) k2, runS_ok (S1 := S3) k3, runS_ok (S1 := S4) k4, runS_ok (S1 := S6) kl, runS_ok (S1 := S7) k7]
    rfl
  · have h1 := s7.use
    have h2 := s6.use
    have h3 := D5.use
    have h4 : (syncP z).W.length = z.W.length := syncP_W z
    rw [w7] at h1
    rw [sealQ_len, nextL_len] at h3
    rw [nextL_len]
    simp only [List.length_nil] at h1
    omega
end Go.Proofs.YtoadamkmabkldaaGreatDoor
/- A commit, wherever the store goes down, in plain words. -/
namespace Go.Proofs.YtoadamkmabkldaaGreatDoor

/-- A store whose file of pages is this, the other files as they were; which sectors of it may wait. -/
structure DbF (S : FsP) (nm : List UInt8) (Q : List (List UInt8)) (c M : Nat) (G : List UInt8 → Option FlP) (T : Nat → Prop) : Prop where
  up : S.down = false
  wf : S.WF
  most : S.most = M
  db : ∃ x, findP S (dbN nm) = some x ∧ x.B = Q.flatten ∧ ∀ m : Nat, x.W[m]?.getD false = true → T (m / 8)
  oth : ∀ s, s ≠ dbN nm → findP S s = G s
  use : useP S.fs = 8 * Q.length + c
  p5 : P512 Q
theorem mark_of {W : List Bool} {no m : Nat} (h : (markW W (512 * no) (512 * no + 512))[m]?.getD false = true) : W[m]?.getD false = true ∨ m / 8 = no := by
  unfold markW at h
  rw [List.getElem?_mapIdx] at h
  cases hm : W[m]? with
  | none => rw [hm] at h; simp at h
  | some v =>
    rw [hm] at h
    simp only [Option.map_some, Option.getD_some, Bool.or_eq_true, Bool.and_eq_true, decide_eq_true_eq] at h
    rcases h with h | ⟨⟨h1, h2⟩, _⟩
    · left; simp [h]
    · right; omega
theorem more_of {W : List Bool} {k m : Nat} (h : (W ++ List.replicate k false)[m]?.getD false = true) : W[m]?.getD false = true := by
  rw [List.getElem?_append] at h
  split at h
  · exact h
  · rw [List.getElem?_replicate] at h
    split at h <;> simp at h
section
variable {S : FsP} {nm : List UInt8} {Q : List (List UInt8)} {c M N : Nat} {G : List UInt8 → Option FlP} {T : Nat → Prop}
theorem lay_oneF {no : Nat} {b : List UInt8} (h : DbF S nm Q c M G T) (hno : no ≤ Q.length) (hb : b.length = 512) (hroom : 8 * max Q.length (no + 1) + c ≤ M) (hT : T no) :
    (S.fuse = 0 ∧ layOne nm (no, b) S = (9, burntP S)) ∨ ∃ S', layOne nm (no, b) S = (0, S') ∧ DbF S' nm (setQ Q no b) c M G T := by
  obtain ⟨x, hx, hxB, hxW⟩ := h.db
  obtain ⟨p1, p2, p3⟩ := put_page (z := x) hxB h.p5 hno hb
  have hxw := (h.wf.files _ (lookup_mem hx)).w
  have hxl : x.W.length = 8 * Q.length := by rw [hxw, hxB, flat_len h.p5, need8]
  have hsl := setQ_len Q no b hno
  rcases step_write (p := 512 * no) (b := b) h.wf h.up hx (by rw [hxB, flat_len h.p5]; omega) (by rintro rfl; cases hb) (by rw [p3, need8, h.use, h.most, hsl]; omega) with ⟨e, e2⟩ | ⟨_, S', y, e, hs, hy, y1, y2, y3⟩
  · exact .inl ⟨e, e2⟩
  · right
    refine ⟨S', e, hs.down, hs.wf, hs.most.trans h.most, ⟨y, by rw [hs.find, if_pos rfl], by rw [y1, p1], fun m hm => ?_⟩, fun s hs2 => by rw [hs.find, if_neg hs2]; exact h.oth s hs2, ?_, p2⟩
    · rw [y2] at hm
      unfold putP growP at hm
      dsimp only at hm
      rw [hb] at hm
      rcases mark_of hm with e | e
      · exact hxW m (more_of e)
      · rw [e]; exact hT
    · have h1 := hs.use
      have h2 : y.W.length = 8 * (setQ Q no b).length := by rw [hy.w, y1, p1, flat_len p2, need8]
      have := h.use
      omega
theorem lay_runF : ∀ (l : List (Nat × List UInt8)) (Q : List (List UInt8)) (S : FsP), DbF S nm Q c M G T → l.Pairwise (fun p q => p.1 < q.1) → (∀ q ∈ l, q.1 < N ∧ q.2.length = 512 ∧ T q.1) → Q.length ≤ N → (∀ k, Q.length ≤ k → k < N → k ∈ l.map (·.1)) → 8 * N + c ≤ M →
    (∃ S', runS S (l.map (layOne nm)) = (0, S') ∧ DbF S' nm (layQ Q l) c M G T) ∨
    ∃ S1 Q1, runS S (l.map (layOne nm)) = (9, burntP S1) ∧ S1.fuse = 0 ∧ DbF S1 nm Q1 c M G T ∧ Q.length ≤ Q1.length ∧ Q1.length ≤ N ∧ ∀ k, l.lookup k = none → Q1[k]? = Q[k]?
  | [], Q, S, h, _, _, _, _, _ => .inl ⟨S, rfl, h⟩
  | (no, b) :: r, Q, S, h, hs, hN, hl, hc, hM => by
    obtain ⟨h1, h2⟩ := List.pairwise_cons.1 hs
    have hnoN := hN _ (List.mem_cons_self ..)
    dsimp only at hnoN
    have hno : no ≤ Q.length := by
      rcases Nat.lt_or_ge Q.length no with h | h
      · have := hc Q.length (Nat.le_refl _) (by omega)
        rw [List.map_cons] at this
        rcases List.mem_cons.1 this with e | e
        · dsimp only at e; omega
        · obtain ⟨q, hq, e⟩ := List.mem_map.1 e
          have := h1 q hq; dsimp only at this; omega
      · exact h
    have hsl := setQ_len Q no b hno
    rcases lay_oneF h hno hnoN.2.1 (by omega) hnoN.2.2 with ⟨e0, e1⟩ | ⟨S1, e1, d1⟩
    · right
      refine ⟨S, Q, ?_, e0, h, Nat.le_refl _, hl, fun _ _ => rfl⟩
      rw [List.map_cons, runS, e1]
      rfl
    · rcases lay_runF r (setQ Q no b) S1 d1 h2 (fun q hq => hN q (List.mem_cons_of_mem _ hq)) (by rw [hsl]; omega) (fun k hk1 hk2 => by
          rw [hsl] at hk1
          have := hc k (by omega) hk2
          rw [List.map_cons] at this
          rcases List.mem_cons.1 this with e | e
          · dsimp only at e; omega
          · exact e) hM with ⟨S2, e2, d2⟩ | ⟨S2, Q2, e2, z, d2, l1, l2, l3⟩
      · left
        refine ⟨S2, ?_, d2⟩
        rw [List.map_cons, runS, e1]
        exact e2
      · right
        refine ⟨S2, Q2, ?_, z, d2, by omega, l2, fun k hk => ?_⟩
        · rw [List.map_cons, runS, e1]
          exact e2
        · rw [List.lookup_cons] at hk
          by_cases e : k = no
          · subst e; simp at hk
          · rw [show (k == no) = false by simpa using e] at hk
            rw [l3 k hk, setQ_at Q no b hno, if_neg e]
end
/-- Bytes, cut into pages. -/
def chunkR : Nat → List UInt8 → List (List UInt8)
  | 0, _ => []
  | n + 1, B => B.take 512 :: chunkR n (B.drop 512)
theorem chunk_all : ∀ (n : Nat) (B : List UInt8), B.length = 512 * n → (chunkR n B).flatten = B ∧ P512 (chunkR n B) ∧ (chunkR n B).length = n ∧ ∀ k, k < n → (chunkR n B)[k]? = some ((B.drop (512 * k)).take 512)
  | 0, B, h => ⟨by have : B = [] := List.length_eq_zero_iff.1 (by omega); rw [this]; rfl, (by intro q hq; cases hq), rfl, fun k hk => by omega⟩
  | n + 1, B, h => by
    obtain ⟨h1, h2, h3, h4⟩ := chunk_all n (B.drop 512) (by rw [List.length_drop]; omega)
    refine ⟨?_, (by
      intro q hq
      rcases List.mem_cons.1 hq with rfl | hq
      · rw [List.length_take]; omega
      · exact h2 q hq), ?_, fun k hk => ?_⟩
    · show B.take 512 ++ (chunkR n (B.drop 512)).flatten = B
      rw [h1, List.take_append_drop]
    · show (chunkR n (B.drop 512)).length + 1 = _
      rw [h3]
    · match k, hk with
      | 0, _ => rfl
      | k + 1, hk =>
        show (chunkR n (B.drop 512))[k]? = _
        rw [h4 k (by omega), List.drop_drop]
        congr 3; omega
theorem flatq_at {Q : List (List UInt8)} (hQ : P512 Q) {k : Nat} {q : List UInt8} (hk : Q[k]? = some q) : (Q.flatten.drop (512 * k)).take 512 = q := by
  have hlt := (List.getElem?_eq_some_iff.1 hk).1
  rw [flat_drop hQ, List.drop_eq_getElem_cons hlt, (List.getElem?_eq_some_iff.1 hk).2, List.flatten_cons, ← hQ q (List.mem_of_getElem? hk), List.take_left]
theorem len_of_map {α : Type} {l l' : List α} {g : Nat → α → α} (h : ∀ j : Nat, l'[j]? = l[j]?.map (g j)) : l'.length = l.length := by
  rcases Nat.lt_trichotomy l'.length l.length with e | e | e
  · have := h l'.length
    rw [List.getElem?_eq_none (Nat.le_refl _), List.getElem?_eq_getElem e] at this
    cases this
  · exact e
  · have := h l.length
    rw [List.getElem?_eq_none (l := l) (Nat.le_refl _), List.getElem?_eq_getElem e] at this
    cases this
theorem crF_len (x : FlP) (keep : UInt64) (i : Nat) : (crF keep i x).2.B.length = x.B.length := by
  obtain ⟨c, h, _⟩ := crF_bytes x keep i
  exact len_of_map (g := fun j v => if x.W[j / 64]?.getD false && !c (j / 64) then byP x.O j else v) h
theorem crash_burnt {S : FsP} (h : S.fuse = 0) (keep : UInt64) : crashP (burntP S) keep = crashP S keep := by
  unfold burntP
  rw [if_pos h]
  rfl
theorem crash_use {S : FsP} (h : S.WF) (keep : UInt64) : useP (crashP S keep).fs = useP S.fs := crashL_use keep S.fs 0 h.files
/-- What a crash makes of the pages: those alone that may wait are others. -/
theorem crash_pages {x : FlP} {Q : List (List UInt8)} {T : Nat → Prop} (hB : x.B = Q.flatten) (hQ : P512 Q) (hW : ∀ m : Nat, x.W[m]?.getD false = true → T (m / 8)) (keep : UInt64) (i : Nat) :
    ∃ Q2, (crF keep i x).2.B = Q2.flatten ∧ P512 Q2 ∧ Q2.length = Q.length ∧ ∀ k, ¬ T k → Q2[k]? = Q[k]? := by
  obtain ⟨c, h, _⟩ := crF_bytes x keep i
  have hl := crF_len x keep i
  have hlx : x.B.length = 512 * Q.length := by rw [hB, flat_len hQ]
  obtain ⟨c1, c2, c3, c4⟩ := chunk_all Q.length (crF keep i x).2.B (by omega)
  refine ⟨_, c1.symm, c2, c3, fun k hk => ?_⟩
  rcases Nat.lt_or_ge k Q.length with hlt | hge
  · rw [c4 k hlt]
    obtain ⟨q, hq⟩ : ∃ q, Q[k]? = some q := ⟨_, List.getElem?_eq_getElem hlt⟩
    rw [hq, ← flatq_at hQ hq, ← hB]
    congr 1
    apply List.ext_getElem?
    intro j
    rw [List.getElem?_take, List.getElem?_take]
    split
    · rename_i hj
      rw [List.getElem?_drop, List.getElem?_drop, h]
      have hw : x.W[(512 * k + j) / 64]?.getD false = false := by
        cases e : x.W[(512 * k + j) / 64]?.getD false with
        | false => rfl
        | true =>
          have := hW _ e
          rw [show (512 * k + j) / 64 / 8 = k by omega] at this
          exact absurd this hk
      rw [hw]
      cases x.B[512 * k + j]? <;> rfl
    · rfl
  · rw [List.getElem?_eq_none (by rw [c3]; exact hge), List.getElem?_eq_none hge]
end Go.Proofs.YtoadamkmabkldaaGreatDoor
