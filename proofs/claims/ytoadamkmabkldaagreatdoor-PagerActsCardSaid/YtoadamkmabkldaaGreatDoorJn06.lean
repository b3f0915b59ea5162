/- Contracts of package vfs: Write. -/
import Derived.Test.YtoadamkmabkldaaGreatDoorJn05
set_option linter.unusedVariables false
set_option linter.unusedSimpArgs false
namespace Go.Proofs.YtoadamkmabkldaaGreatDoor
open Go.RowKit
attribute [local go_sem ↓] Go.wp_at_zero Go.wp_at_succ

/-- One file of a store has turned. -/
theorem FsM.setF {W W' : World} {f m : Nat} {bl gl : List UInt8 → Nat} {sv : List UInt8 → Value} {S S' : FsP} (h : FsM W f m bl gl sv S) {n : List UInt8} {x y : FlP} {g' : Nat} {sv' : Value} (hx : findP S n = some x) (hfl : FlM W' (bl n) g' sv' y)
    (hd : Bk W' f 61 #[.int .i64 (S'.most : Int), .int .i64 (S'.stamp : Int), .int .i64 S'.fuse, .bool S'.down, .map (some m)])
    (keep : ∀ i, i < W.heap.size → i ≠ f → i ≠ bl n → (0 < x.W.length → i ≠ gl n) → W'.heap[i]? = W.heap[i]?) (hg : 0 < y.W.length → (0 < x.W.length ∧ g' = gl n) ∨ W.heap.size ≤ g')
    (hS : ∀ s, findP S' s = if s = n then some y else findP S s) (hst : S.stamp ≤ S'.stamp) (hwf : S'.WF) :
    FsM W' f m bl (fun s => if s = n then g' else gl s) (fun s => if s = n then sv' else sv s) S' ∧ ∀ i, FsO f m bl (fun s => if s = n then g' else gl s) S' i → FsO f m bl gl S i ∨ W.heap.size ≤ i := by
  have hmf := h.mp.ne h.hd
  have hmb := h.mp.ne (h.fl n x hx).hd
  have hmg : 0 < x.W.length → m ≠ gl n := fun h0 => by
    obtain ⟨c, cs, _, _, _, hcs, _⟩ := (h.fl n x hx).sl.pos h0
    exact h.mp.ne hcs
  have hold : ∀ {s z}, s ≠ n → findP S' s = some z → findP S s = some z := fun hne hz => by rwa [hS, if_neg hne] at hz
  have hnew : ∀ {z}, findP S' n = some z → z = y := fun hz => by rw [hS, if_pos rfl] at hz; exact (Option.some.inj hz).symm
  have glt : ∀ {s z}, findP S s = some z → 0 < z.W.length → gl s < W.heap.size := fun hz h0 => (h.fl _ _ hz).sl.lt h0
  refine ⟨⟨hd, ?_, fun s z hz => ?_, fun s z s' z' hz hz' he => ?_, fun s z s' z' hz hz' hp hp' he => ?_, hwf⟩, fun i hi => ?_⟩
  · refine ((h.mp.heap (keep m h.mp.lt hmf hmb hmg)).mono hst).congr (fun s => ?_)
    rw [hS]
    by_cases e : s = n
    · rw [e, if_pos rfl, hx]; rfl
    · rw [if_neg e]
  · by_cases e : s = n
    · subst e
      obtain rfl := hnew hz
      simp only [if_pos]
      exact hfl
    · simp only [if_neg e]
      have hz0 := hold e hz
      obtain ⟨n1, n2, _⟩ := h.nef hz0
      refine (h.fl s z hz0).heap (keep _ (h.fl s z hz0).hd.lt n1 (fun e2 => e (h.bi _ _ _ _ hz0 hx e2)) (fun h0 => Ne.symm ((h.fl n x hx).sl.ne h0 (h.fl s z hz0).hd (by decide)))) (fun h0 => ?_)
      exact keep _ (glt hz0 h0) (n2 h0) ((h.fl s z hz0).sl.ne h0 (h.fl n x hx).hd (by decide)) (fun h1 e2 => e (h.si _ _ _ _ hz0 hx h0 h1 e2))
  · have a1 : ∃ u, findP S s = some u := by by_cases e : s = n; exact ⟨x, e ▸ hx⟩; exact ⟨z, hold e hz⟩
    have a2 : ∃ u, findP S s' = some u := by by_cases e : s' = n; exact ⟨x, e ▸ hx⟩; exact ⟨z', hold e hz'⟩
    obtain ⟨u, hu⟩ := a1
    obtain ⟨u', hu'⟩ := a2
    exact h.bi s u s' u' hu hu' he
  · by_cases e : s = n
    · by_cases e' : s' = n
      · rw [e, e']
      · subst e
        obtain rfl := hnew hz
        simp only [if_pos, if_neg e'] at he
        have hz0' := hold e' hz'
        rcases hg hp with ⟨h1, h2⟩ | h1
        · exact h.si _ _ _ _ hx hz0' h1 hp' (h2 ▸ he)
        · have := glt hz0' hp'
          omega
    · by_cases e' : s' = n
      · subst e'
        obtain rfl := hnew hz'
        simp only [if_pos, if_neg e] at he
        have hz0 := hold e hz
        rcases hg hp' with ⟨h1, h2⟩ | h1
        · exact h.si _ _ _ _ hz0 hx hp h1 (he.trans h2)
        · have := glt hz0 hp
          omega
      · simp only [if_neg e, if_neg e'] at he
        exact h.si _ _ _ _ (hold e hz) (hold e' hz') hp hp' he
  · rcases hi with rfl | rfl | ⟨s, z, hz, hi⟩
    · exact .inl (.inl rfl)
    · exact .inl (.inr (.inl rfl))
    · by_cases e : s = n
      · subst e
        obtain rfl := hnew hz
        simp only [if_pos] at hi
        rcases hi with rfl | ⟨h0, rfl⟩
        · exact .inl (.inr (.inr ⟨s, x, hx, .inl rfl⟩))
        · rcases hg h0 with ⟨h1, h2⟩ | h1
          · exact .inl (.inr (.inr ⟨s, x, hx, .inr ⟨h1, h2⟩⟩))
          · exact .inr h1
      · simp only [if_neg e] at hi
        exact .inl (.inr (.inr ⟨s, z, hold e hz, hi⟩))
theorem stampF_wf {S : FsP} {n : List UInt8} {x y : FlP} (h : S.WF) (hx : findP S n = some x) (hy : y.WF) (hr : useP S.fs + y.W.length ≤ S.most + x.W.length) : (stampF S n y).WF := by
  have hb := burntP_wf h
  obtain ⟨e1, e2, e3, e4, _⟩ := burntP_parts S
  unfold stampF
  refine ⟨hb.most1, hb.most2, hb.fuse1, hb.fuse2, fun p hp => ?_, set_sorted h.order, ?_, fun p hp => ?_⟩
  · rcases set_mem hp with rfl | hp
    · exact ⟨hy.w, hy.o⟩
    · exact h.files p hp
  · have := use_set (x := { y with stamp := S.stamp + 1 }) h.order hx
    simp only at this ⊢
    rw [e1]; omega
  · rcases set_mem hp with rfl | hp
    · exact h.names (n, x) (lookup_mem hx)
    · exact h.names p hp
theorem find_stamp {S : FsP} {n : List UInt8} {x : FlP} (y : FlP) (hx : findP S n = some x) (s : List UInt8) : findP (stampF S n y) s = if s = n then some { y with stamp := S.stamp + 1 } else findP S s := by
  have hx' : S.fs.lookup n = some x := hx
  have := lookup_set (n := n) (x := { y with stamp := S.stamp + 1 }) (l := S.fs) s
  rw [hx'] at this
  exact this
theorem writeP_some {S : FsP} {n : List UInt8} {x : FlP} {p : Nat} (b : List UInt8) (hd : S.down = false) (hf : findP S n = some x) (hp : p ≤ x.B.length) :
    writeP S n (p : Int) b = if S.most < useP S.fs + (needN (max x.B.length (p + b.length)) - x.W.length) then (8, S) else if b = [] then (0, S) else if !burnP S then (9, burntP S) else (0, stampF S n (putP (growP x (max x.B.length (p + b.length))) p b)) := by
  unfold writeP
  rw [hd, hf]
  simp only [Bool.false_eq_true, if_false, Int.toNat_natCast]
  rw [if_neg (by omega)]
set_option maxHeartbeats 4000000 in
set_option maxRecDepth 100000 in
/-- Write, where there is such a file, the place is right, and there is room: behind the test. -/
theorem write_some (f : Nat) (O : Nat → Prop) (S : FsP) (s : ByteArray) (p n c b0 : Nat) (bs : List UInt8) (A : Option Addr) (w : World) (x : FlP) (h : FsA w O f S) (hs : s.size ≤ 1000000) (hst : S.stamp ≤ 1000000)
    (hn : n = bs.length) (hnm : n ≤ 100000) (hnc : n ≤ c) (hc : c ≤ maxLen) (hsr : Rs w b0 A bs) (hb0 : 0 < n → ¬ O b0) (hb0l : 0 < n → b0 < w.heap.size) (hd : S.down = false) (hf : findP S s.data.toList = some x) (hp : p ≤ x.B.length) :
    Calls Tryz.prog 73 #[.pointer (some ⟨f, 0, none⟩), .string s, .int .i64 (p : Int), .slice A n c] w fun e w' =>
      e = .returned (.int .i64 ((writeP S s.data.toList (p : Int) bs).1 : Int)) ∧ FsA w' (fun i => O i ∨ w.heap.size ≤ i) f (writeP S s.data.toList (p : Int) bs).2 ∧ Ch O w w' := by
  have hsm : s.size ≤ maxLen := Nat.le_trans hs (by unfold maxLen; decide)
  have H := Lib.hid h
  obtain ⟨m, bl, gl, sv, hM, hO⟩ := h
  have HM := Lib.hid hM
  have HO := Lib.hid hO
  have HA := Lib.hid (at_some f m bl gl sv S s w hM hsm hd hf)
  have hwf : x.WF := hM.wf.files _ (lookup_mem hf)
  have hLm : x.W.length ≤ 65536 := by
    have h2 := use_le (lookup_mem hf)
    have h3 := hM.wf.room
    have h4 := hM.wf.most2
    simp only at h2
    omega
  have hxB : x.B.length ≤ 4300000 := by
    have h1 := needN_ge x.B.length
    rw [← hwf.w] at h1
    omega
  have hfl := hM.fl _ x hf
  obtain ⟨A0, c0, hsv, _, _⟩ := hfl.sl.form
  rw [hsv] at hfl
  obtain ⟨M, hMd⟩ : ∃ M, M = max x.B.length (p + n) := ⟨_, rfl⟩
  obtain ⟨E, hE⟩ : ∃ E, E = p + n := ⟨_, rfl⟩
  obtain ⟨NM, hNM⟩ : ∃ q, q = needN M := ⟨_, rfl⟩
  have hN1 : x.W.length ≤ NM ∧ NM < 100000 := by
    rw [hNM, hwf.w]
    refine ⟨needN_le (by omega), ?_⟩
    unfold needN
    omega
  have em := fun ats ty => run_max ats ty (x.B.length : Int) (E : Int) (M : Int) (by rw [hMd, hE]; split <;> omega)
  have e1 : (p : Int) + (n : Int) = (E : Int) := by omega
  have e2 : IntKind.i64.wrap (E : Int) = (E : Int) := IntWalk.i64_in _ (by omega)
  have e3 : max (x.B.length : Int) (E : Int) = (M : Int) := by omega
  have e4 : IntKind.i64.wrap ((NM : Int) - (x.W.length : Int)) = (NM : Int) - (x.W.length : Int) := IntWalk.i64_in _ (by omega)
  have HN := Lib.hid (show ∀ W, Calls Tryz.prog 91 #[.int .i64 (M : Int)] W fun e w' => e = .returned (.int .i64 (NM : Int)) ∧ w' = W from fun W => by rw [hNM]; exact need_any M W (by omega))
  obtain ⟨R, hR⟩ : ∃ R, R = S.most - useP S.fs := ⟨_, rfl⟩
  have HRm := Lib.hid (show ∀ W, Below w.heap.size w W → Calls Tryz.prog 71 #[.pointer (some ⟨f, 0, none⟩)] W fun e w' => e = .returned (.int .i64 (R : Int)) ∧ Below W.heap.size W w' from fun W hb => by
    have := room_any f m bl gl sv S W (hM.heap (fun i hi => hb.block i (hM.lt i hi)))
    rw [hd] at this
    rw [hR]; exact this)
  have HK := Lib.hid (show ∀ W, Below w.heap.size w W → W.cell? ⟨bl s.data.toList, 0, none⟩ = some (.slice A0 x.W.length c0) ∧ W.cell? ⟨bl s.data.toList, 1, none⟩ = some (.int .i64 (x.B.length : Int)) from fun W hb => by
    have := hfl.hd.below hb hfl.hd.lt
    exact ⟨this.cell 0, this.cell 1⟩)
  have c1 : w.cell? ⟨bl s.data.toList, 1, none⟩ = some (.int .i64 (x.B.length : Int)) := hfl.hd.cell 1
  have i0 : ¬ ((p : Int) < 0) := by omega
  have i1 : ¬ (x.B.length < p) := by omega
  have HX := Lib.hid (And.intro hsm (And.intro hst (And.intro hwf (And.intro hxB (And.intro hMd (And.intro hE (And.intro hNM (And.intro hN1 (And.intro hR (And.intro hLm (And.intro hd (And.intro hf (And.intro hp (And.intro hn (And.intro hnc (And.intro hc (And.intro hsr (And.intro hb0 (And.intro hb0l hnm)))))))))))))))))))
  have HFL := Lib.hid hfl
  have Hsv := Lib.hid hsv
  clear hM hO hsm hst hwf hxB hMd hE hNM hR hLm hd hf hp hn hnc hc hsr hb0 hb0l hnm hsv hfl hs
  generalize hb : bl s.data.toList = b at *
  have Hb := Lib.hid hb
  clear hb
  obtain ⟨hN1, hN2⟩ := hN1
  obtain ⟨hsm, hst, hwf, hxB, hMd, hE, hNM, _, hR, hLm, hd, hf, hp, hn, hnc, hc, hsr, hb0, hb0l, hnm⟩ := id HX.out
  have hW := writeP_some bs hd hf hp
  have huse := HM.out.wf.room
  rw [← hn, ← hE, ← (show M = max x.B.length E by rw [hMd, hE]), ← hNM] at hW
  rw [hW]
  clear hW
  have HBn := Lib.hid (fun W h => burn_fs f m bl gl sv S W h)
  by_cases hroom : (R : Int) < (NM : Int) - (x.W.length : Int)
  · rw [if_pos (by omega)]
    clear hsm hst hwf hxB hMd hE hNM hR hLm hd hf hp hn hnc hc hsr hb0 hb0l hnm huse
    go_enter Tryz.func73, Tryz.ntmps73
    go_wp2_with fail
    with_reducible refine HA.out.mono ?_
    rintro e w1 ⟨rfl, hw1⟩; subst hw1
    go_wp2_with fail
    have hcur : Below w1.heap.size w1 w1.drew := (Below.refl _ _).drew
    go_region_held3 (fun w' => w'.cell? ⟨b, 0, none⟩ = some (.slice A0 x.W.length c0) ∧ w'.cell? ⟨b, 1, none⟩ = some (.int .i64 (x.B.length : Int))) (first | (exact HK.out _ hcur) | go_keep)
      (first
        | (go_at_call 91; refine (HN.out _).mono ?_; rintro e w5 ⟨rfl, hw5⟩; subst hw5)
        | (go_at_call 71; refine (HRm.out _ hcur).mono ?_; rintro e w5 ⟨rfl, hb5⟩; replace hcur := hcur.trans (hb5.mono hcur.size)))
    have HC := Lib.hid hcur
    clear hcur hb5 c1
    go_wp2_with fail
    go_ret
    exact ⟨rfl, (H.out.below HC.out).wide, Ch.of_below HC.out (Nat.le_refl _)⟩
  · rw [if_neg (by omega)]
    by_cases h0 : bs = []
    · rw [if_pos h0]
      have hn0 : ((n : Int) == 0) = true := by rw [hn, h0]; rfl
      clear hsm hst hwf hxB hMd hE hNM hR hLm hd hf hp hn hnc hc hsr hb0 hb0l hnm huse h0
      go_enter Tryz.func73, Tryz.ntmps73
      go_wp2_with fail
      with_reducible refine HA.out.mono ?_
      rintro e w1 ⟨rfl, hw1⟩; subst hw1
      go_wp2_with fail
      have hcur : Below w1.heap.size w1 w1.drew := (Below.refl _ _).drew
      go_region_held3 (fun w' => w'.cell? ⟨b, 0, none⟩ = some (.slice A0 x.W.length c0) ∧ w'.cell? ⟨b, 1, none⟩ = some (.int .i64 (x.B.length : Int))) (first | (exact HK.out _ hcur) | go_keep)
        (first
          | (go_at_call 91; refine (HN.out _).mono ?_; rintro e w5 ⟨rfl, hw5⟩; subst hw5)
          | (go_at_call 71; refine (HRm.out _ hcur).mono ?_; rintro e w5 ⟨rfl, hb5⟩; replace hcur := hcur.trans (hb5.mono hcur.size)))
      have HC := Lib.hid hcur
      clear hcur hb5 c1
      go_wp2_with fail
      go_ret
      exact ⟨rfl, (H.out.below HC.out).wide, Ch.of_below HC.out (Nat.le_refl _)⟩
    · rw [if_neg h0]
      have hn0 : ((n : Int) == 0) = false := by
        have : n ≠ 0 := by rw [hn]; exact fun e => h0 (List.eq_nil_of_length_eq_zero e)
        simpa using this
      cases hbu : burnP S with
      | false =>
        rw [hbu] at HBn
        clear hsm hst hwf hxB hMd hE hNM hR hLm hd hf hp hn hnc hc hsr hb0 hb0l hnm huse h0 hbu
        go_enter Tryz.func73, Tryz.ntmps73
        go_wp2_with fail
        with_reducible refine HA.out.mono ?_
        rintro e w1 ⟨rfl, hw1⟩; subst hw1
        go_wp2_with fail
        have hcur : Below w1.heap.size w1 w1.drew := (Below.refl _ _).drew
        go_region_held3 (fun w' => w'.cell? ⟨b, 0, none⟩ = some (.slice A0 x.W.length c0) ∧ w'.cell? ⟨b, 1, none⟩ = some (.int .i64 (x.B.length : Int))) (first | (exact HK.out _ hcur) | go_keep)
          (first
            | (go_at_call 91; refine (HN.out _).mono ?_; rintro e w5 ⟨rfl, hw5⟩; subst hw5)
            | (go_at_call 71; refine (HRm.out _ hcur).mono ?_; rintro e w5 ⟨rfl, hb5⟩; replace hcur := hcur.trans (hb5.mono hcur.size)))
        have HC := Lib.hid hcur
        clear hcur hb5 c1
        go_wp2_with fail
        with_reducible refine (HBn.out w5 (HM.out.heap (fun i hi => HC.out.block i (HM.out.lt i hi)))).mono ?_
        rintro e w6 ⟨rfl, h6, k6⟩
        have H6 := Lib.hid h6
        have K6 := Lib.hid k6
        clear h6 k6
        go_wp2_with fail
        go_ret
        obtain ⟨e1, e2, e3, e4, e5⟩ := burntP_parts S
        exact ⟨rfl, ⟨m, bl, gl, sv, H6.out, fun i hi => .inl (HO.out i ((FsO_fs e3 i).1 hi))⟩, (Ch.of_below HC.out (Nat.le_refl _)).trans K6.out (fun i hi => .inl (HO.out i (.inl hi)))⟩
      | true =>
        rw [hbu] at HBn
        have hEM2 : E ≤ 5000000 := by omega
        have HNP := Lib.hid (show 0 < n by rw [hn]; exact List.length_pos_iff.2 h0)
        have HGr := Lib.hid (fun W h => grow_any b (gl s.data.toList) (.slice A0 x.W.length c0) x E W h hwf hEM2 (by omega))
        clear hsm hst hwf hxB hMd hE hNM hR hLm hd hf hp hn hnc hc hsr hb0 hb0l hnm huse h0 hbu
        go_enter Tryz.func73, Tryz.ntmps73
        go_wp2_with fail
        with_reducible refine HA.out.mono ?_
        rintro e w1 ⟨rfl, hw1⟩; subst hw1
        go_wp2_with fail
        have hcur : Below w1.heap.size w1 w1.drew := (Below.refl _ _).drew
        go_region_held3 (fun w' => w'.cell? ⟨b, 0, none⟩ = some (.slice A0 x.W.length c0) ∧ w'.cell? ⟨b, 1, none⟩ = some (.int .i64 (x.B.length : Int))) (first | (exact HK.out _ hcur) | go_keep)
          (first
            | (go_at_call 91; refine (HN.out _).mono ?_; rintro e w5 ⟨rfl, hw5⟩; subst hw5)
            | (go_at_call 71; refine (HRm.out _ hcur).mono ?_; rintro e w5 ⟨rfl, hb5⟩; replace hcur := hcur.trans (hb5.mono hcur.size)))
        have HC := Lib.hid hcur
        clear hcur hb5 c1
        go_wp2_with fail
        with_reducible refine (HBn.out w5 (HM.out.heap (fun i hi => HC.out.block i (HM.out.lt i hi)))).mono ?_
        rintro e w6 ⟨rfl, h6, k6⟩
        have H6 := Lib.hid h6
        have K6 := Lib.hid k6
        clear h6 k6
        go_wp2_with fail
        obtain ⟨hsm, hst, hwf, hxB, hMd, hE, hNM, _, hR, hLm, hd, hf, hp, hn, hnc, hc, hsr, hb0, hb0l, hnm⟩ := id HX.out
        replace hb0 := hb0 HNP.out
        replace hb0l := hb0l HNP.out
        obtain ⟨q1, q2, q3, q4, q5⟩ := burntP_parts S
        have hf6 : findP (burntP S) s.data.toList = some x := by unfold findP at hf ⊢; rwa [q3]
        have hfl6 := H6.out.fl _ x hf6
        rw [Hb.out, Hsv.out] at hfl6
        have hO6 : ∀ i, FsO f m bl gl (burntP S) i → O i := fun i hi => HO.out i ((FsO_fs q3 i).1 hi)
        have ob : O b := hO6 b (.inr (.inr ⟨_, x, hf6, .inl Hb.out.symm⟩))
        have og : 0 < x.W.length → O (gl s.data.toList) := fun h0 => hO6 _ (.inr (.inr ⟨_, x, hf6, .inr ⟨h0, rfl⟩⟩))
        have of' : O f := hO6 f (.inl rfl)
        obtain ⟨hbf, hgf, _⟩ := H6.out.nef hf6
        rw [Hb.out] at hbf
        have s5 := HC.out.size
        have s6 := K6.out.size
        have r6 : Rs w6 b0 A bs := (hsr.heap (HC.out.block b0 hb0l)).heap (K6.out.block b0 (by omega) (fun e => hb0 (e ▸ of')))
        have HME : max x.B.length E = M := by rw [hMd, hE]
        have HY := Lib.hid (And.intro hf6 (And.intro hO6 (And.intro ob (And.intro og (And.intro of' (And.intro hbf (And.intro hgf (And.intro s5 (And.intro s6 (And.intro r6 (And.intro HME (And.intro q1 (And.intro q2 q3)))))))))))))
        have HG6 := Lib.hid (HGr.out w6 hfl6)
        clear hsm hst hwf hxB hMd hE hNM hR hLm hd hf hp hn hnc hc hsr hb0 hb0l hnm q1 q2 q3 q4 q5 hf6 hfl6 hO6 ob og of' hbf hgf s5 s6 r6 HME
        with_reducible refine HG6.out.mono ?_
        rintro e w7 ⟨rfl, sv7, g7, fl7, hg7, k7⟩
        have F7 := Lib.hid fl7
        have G7 := Lib.hid hg7
        have K7 := Lib.hid k7
        have HP7 := Lib.hid (show Calls Tryz.prog 99 #[.pointer (some ⟨b, 0, none⟩), .int .i64 (p : Int), .slice A n c] w7 fun e w' => e = .returned (.tuple #[]) ∧ FlM w' b g7 sv7 (putP (growP x M) p bs) ∧ Ch (fun i => 0 < (growP x M).W.length ∧ i = g7) w7 w' from by
          obtain ⟨hsm, hst, hwf, hxB, hMd, hE, hNM, _, hR, hLm, hd, hf, hp, hn, hnc, hc, hsr, hb0, hb0l, hnm⟩ := id HX.out
          replace hb0 := hb0 HNP.out
          replace hb0l := hb0l HNP.out
          obtain ⟨hf6, hO6, ob, og, of', hbf, hgf, s5, s6, r6, HME, q1, q2, q3⟩ := id HY.out
          have hMg := growP_len hwf (show x.B.length ≤ M by omega)
          rw [HME] at fl7 hg7
          refine vput_any b g7 b0 p n c sv7 (growP x M) bs A w7 fl7 (growP_wf hwf (by omega)) (by rw [hMg.2]; omega) (by rw [hMg.2]; omega) hn hnc hc (r6.heap (k7.block b0 (by omega) ?_)) ?_
          · rintro (e | ⟨h0, e⟩)
            · exact hb0 (e ▸ ob)
            · exact hb0 (e ▸ og h0)
          · intro e
            rcases Nat.eq_zero_or_pos (needN M) with h0 | h0
            · have := HNP.out
              unfold needN at h0; omega
            · rcases hg7 h0 with ⟨h1, h2⟩ | h1
              · exact hb0 (e ▸ h2 ▸ og h1)
              · omega)
        clear fl7 hg7 k7
        go_wp2_with fail
        with_reducible refine HP7.out.mono ?_
        rintro e w8 ⟨rfl, fl8, k8⟩
        have F8 := Lib.hid fl8
        have K8' := Lib.hid k8
        have HC8 := Lib.hid (show Calls Tryz.prog 88 #[.pointer (some ⟨f, 0, none⟩), .pointer (some ⟨b, 0, none⟩)] w8 fun e w' => e = .returned (.int .i64 0) ∧ Bk w' f 61 #[.int .i64 ((burntP S).most : Int), .int .i64 ((S.stamp + 1 : Nat) : Int), .int .i64 (burntP S).fuse, .bool (burntP S).down, .map (some m)] ∧
            Bk w' b 87 #[sv7, .int .i64 ((putP (growP x M) p bs).B.length : Int), .int .i64 ((S.stamp + 1 : Nat) : Int)] ∧ Ch (fun i => i = f ∨ i = b) w8 w' from by
          obtain ⟨hsm, hst, hwf, hxB, hMd, hE, hNM, _, hR, hLm, hd, hf, hp, hn, hnc, hc, hsr, hb0, hb0l, hnm⟩ := id HX.out
          replace hb0 := hb0 HNP.out
          replace hb0l := hb0l HNP.out
          obtain ⟨hf6, hO6, ob, og, of', hbf, hgf, s5, s6, r6, HME, q1, q2, q3⟩ := id HY.out
          have hd6 := H6.out.hd
          rw [q2] at hd6
          have hd7 := hd6.ch K7.out (by rintro (e | ⟨h0, e⟩); exact hbf e.symm; exact hgf h0 e.symm)
          have hd8 := hd7.ch k8 (by rintro ⟨h0, e⟩; exact F7.out.sl.ne (by rw [HME]; exact h0) hd7 (by decide) e.symm)
          exact changed_any f b S.stamp _ _ _ _ _ _ _ w8 hd8 fl8.hd hst)
        clear fl8 k8
        go_wp2_with fail
        with_reducible refine HC8.out.mono ?_
        rintro e w9 ⟨rfl, b9, c9, k9⟩
        have B9 := Lib.hid b9
        have C9 := Lib.hid c9
        have K9 := Lib.hid k9
        clear b9 c9 k9
        go_wp2_with fail
        go_ret
        obtain ⟨hsm, hst, hwf, hxB, hMd, hE, hNM, _, hR, hLm, hd, hf, hp, hn, hnc, hc, hsr, hb0, hb0l, hnm⟩ := id HX.out
        replace hb0 := hb0 HNP.out
        replace hb0l := hb0l HNP.out
        obtain ⟨hf6, hO6, ob, og, of', hbf, hgf, s5, s6, r6, HME, q1, q2, q3⟩ := id HY.out
        have hML : x.B.length ≤ M := by omega
        have hMg := growP_len hwf hML
        have hwl : (putP (growP x M) p bs).W.length = needN M := by rw [putP_wlen, hMg.1]
        have s7 := K7.out.size
        have s8 := K8'.out.size
        have hG : 0 < needN M → (0 < x.W.length ∧ g7 = gl s.data.toList) ∨ w6.heap.size ≤ g7 := by have := G7.out; rwa [HME] at this
        have hsl9 : SlQ w9 sv7 g7 (putP (growP x M) p bs).W.length (cellK (putP (growP x M) p bs)) := F8.out.sl.heap (fun h0 => K9.out.block g7 (F8.out.sl.lt h0) (by
          rintro (e | e)
          · have hd6 := H6.out.hd
            have hd7 := hd6.ch K7.out (by rintro (e | ⟨h0, e⟩); exact hbf e.symm; exact hgf h0 e.symm)
            have hd8 := hd7.ch K8'.out (by rintro ⟨h0, e⟩; exact F7.out.sl.ne (by rw [HME]; exact h0) hd7 (by decide) e.symm)
            exact F8.out.sl.ne h0 hd8 (by decide) e
          · exact F8.out.ne h0 e))
        have hset := H6.out.setF (W' := w9) (S' := stampF S s.data.toList (putP (growP x M) p bs)) (g' := g7) (sv' := sv7) (y := { putP (growP x M) p bs with stamp := S.stamp + 1 }) hf6
          ⟨by rw [Hb.out]; exact C9.out, hsl9⟩ B9.out
          (fun i hi n1 n2 n3 => by
            rw [Hb.out] at n2
            have a7 := K7.out.block i hi (by rintro (e | ⟨h0, e⟩); exact n2 e; exact n3 h0 e)
            have a8 := K8'.out.block i (by omega) (by
              rintro ⟨h0, e⟩
              rw [hMg.1] at h0
              rcases hG h0 with ⟨h1, h2⟩ | h1
              · exact n3 h1 (e.trans h2)
              · omega)
            have a9 := K9.out.block i (by omega) (by rintro (e | e); exact n1 e; exact n2 e)
            exact a9.trans (a8.trans a7))
          (fun h0 => hG (by rw [← hwl]; exact h0))
          (fun u => by
            have := find_stamp (putP (growP x M) p bs) hf u
            rw [this]
            by_cases e : u = s.data.toList
            · rw [if_pos e, if_pos e]
            · rw [if_neg e, if_neg e]; unfold findP; rw [q3])
          (by rw [q2]; exact Nat.le_succ _)
          (stampF_wf HM.out.wf hf (putP_wf (growP_wf hwf hML) (by rw [hMg.2]; omega)) (by rw [hwl, ← hNM]; have := HM.out.wf.room; omega))
        refine ⟨rfl, ⟨m, bl, _, _, hset.1, fun i hi => ?_⟩, ?_⟩
        · rcases hset.2 i hi with h1 | h1
          · exact .inl (hO6 i h1)
          · exact .inr (by omega)
        · refine ((((Ch.of_below HC.out (Nat.le_refl _)).trans K6.out (fun i hi => .inl (hi ▸ of'))).trans K7.out (fun i hi => ?_)).trans K8'.out (fun i hi => ?_)).trans K9.out (fun i hi => ?_)
          · rcases hi with e | ⟨h0, e⟩
            · exact .inl (e ▸ ob)
            · exact .inl (e ▸ og h0)
          · obtain ⟨h0, e⟩ := hi
            rw [hMg.1] at h0
            rcases hG h0 with ⟨h1, h2⟩ | h1
            · exact .inl (e ▸ h2 ▸ og h1)
            · exact .inr (by omega)
          · rcases hi with e | e
            · exact .inl (e ▸ of')
            · exact .inl (e ▸ ob)
end Go.Proofs.YtoadamkmabkldaaGreatDoor
/- Contracts of package vfs: names. -/
namespace Go.Proofs.YtoadamkmabkldaaGreatDoor
open Go.RowKit Go.Maps Go.Sort Go.Shelf
attribute [local go_sem ↓] Go.wp_at_zero Go.wp_at_succ

theorem sorts_fn (m : Nat) : AnyZ.SortsIn Tryz.prog Tryz.sortedV_ren Fence.wide m :=
  ⟨fun blk off cap ss W hH hblk hsz => callsIn_wide.2 (AnyM.slices_Sort_string Tryz.sortV blk off cap ss W hH hblk hsz),
   fun p cap W => callsIn_wide.2 (AnyM.slices_Sort_string_none Tryz.sortV p cap W)⟩

theorem keys_fn (mb : Option Nat) (W : World) : CallsIn Fence.wide 5 Tryz.prog 84 #[.map mb] W fun e w' => e = .returned (.func (.func 103) #[] #[.pointer (some ⟨W.heap.size, 0, none⟩)]) ∧ w' = W.alloc (.cells #[.map mb] 59) :=
  AnyZ.keys_in Tryz.keysV Fence.wide 5 trivial rfl mb W

set_option maxHeartbeats 1000000 in
theorem sortedKeys_any {H : Type} (b nn : Nat) (D0 : DataW H) (R : Value → Option (DataW H × List MemPlace)) (w : World) (hown : w.ownsMap Tryz.prog 9 R b nn D0) (hmax : Maps.size D0 ≤ maxLen) (hbytes : Maps.size D0 * 16 ≤ 140737488355328) :
    CallsIn Fence.wide 5 Tryz.prog 83 #[.func (.func 103) #[] #[.pointer (some ⟨w.heap.size, 0, none⟩)]] (w.alloc (.cells #[.map (some b)] 59)) fun e w' => ∃ (v : Value) (ss : List (List UInt8)), e = .returned v ∧ ss.Perm (strKeys D0) ∧
      w'.ownsRow (w.alloc (.cells #[.map (some b)] 59)).heap.size 9 1 v ss.length ((ss.mergeSort (fun x y => decide (x ≤ y))).map encStr) ∧ (v = .slice none 0 0 ↔ ss = []) ∧ Below (w.alloc (.cells #[.map (some b)] 59)).heap.size (w.alloc (.cells #[.map (some b)] 59)) w' := by
  have hbl := hown.lt
  have hseq : SeqGives Fence.wide 2 Tryz.prog 103 #[.pointer (some ⟨w.heap.size, 0, none⟩)] encStr (fun ss => ss.Perm (strKeys D0)) (Maps.size D0) (w.alloc (.cells #[.map (some b)] 59)) :=
    AnyZ.keys_gives (ρ := Tryz.keysV_ren) { Tryz.keysV with } Fence.wide _ trivial rfl (by omega) w.heap.size b nn D0 _ (by simp) (by simp) (by
      obtain ⟨es, clock, hb, Ft, hs, hD⟩ := hown
      exact ⟨es, clock, (Below.heap_alloc _ _ b hbl).trans hb, Ft, hs, hD⟩)
  exact AnyZ.sorted_in Tryz.sortedV Fence.wide 5 trivial trivial trivial trivial rfl (by omega) (sorts_fn _) (enters_of Tryz.func102 (by kernel_rfl) rfl) 103 #[.pointer (some ⟨w.heap.size, 0, none⟩)] trivial (enters_of Tryz.func103 (by kernel_rfl) rfl) _ _ hmax hbytes _ hseq


/-- The names, as cells. -/
def nms (l : List (List UInt8)) : List Value := l.map encStr
theorem keys_perm {W : World} {f m : Nat} {bl gl : List UInt8 → Nat} {sv : List UInt8 → Value} {S : FsP} (h : FsM W f m bl gl sv S) :
    ∃ D : DataW Unit, W.ownsMap Tryz.prog 9 fileR m S.stamp D ∧ (S.fs.map (·.1)).Perm (strKeys D) := by
  obtain ⟨D, h1, h2, h3⟩ := h.mp
  refine ⟨D, h1, Collected.perm (left := fun _ => false) ⟨?_, fun x => ?_⟩ h1 lawS Tryz.underlying9 (fun _ => rfl)⟩
  · have := sorted_names.1 h.wf.order
    exact this.imp (fun h => lt_ne h)
  · rw [h2]
    constructor
    · intro hx
      obtain ⟨p, hp, rfl⟩ := List.mem_map.1 hx
      refine ⟨?_, rfl⟩
      show ((findP S p.1).map _).isSome = true
      rw [find_mem h.wf hp]; rfl
    · rintro ⟨hx, _⟩
      cases hf : findP S x with
      | none =>
        have hx' : ((findP S x).map fun _ => bl x).isSome = true := hx
        rw [hf] at hx'; cases hx'
      | some y => exact List.mem_map.2 ⟨(x, y), lookup_mem hf, rfl⟩
theorem names_sorted {S : FsP} (h : S.WF) {ss : List (List UInt8)} (hp : ss.Perm (S.fs.map (·.1))) : ss.mergeSort (fun x y => decide (x ≤ y)) = S.fs.map (·.1) := by
  have e : ss.mergeSort leB = (S.fs.map (·.1)).mergeSort leB := mergeSort_of_perm hp
  have e2 : (S.fs.map (·.1)).mergeSort leB = S.fs.map (·.1) := List.mergeSort_of_pairwise ((sorted_names.1 h.order).imp (fun hlt => by
    show decide _ = true
    rw [decide_eq_true_eq]
    exact List.le_of_lt hlt))
  exact e.trans e2
set_option maxHeartbeats 4000000 in
set_option maxRecDepth 100000 in
theorem names_any (f m : Nat) (bl gl : List UInt8 → Nat) (sv : List UInt8 → Value) (S : FsP) (w : World) (h : FsM w f m bl gl sv S) (hst : S.stamp ≤ 1000000) :
    Calls Tryz.prog 55 #[.pointer (some ⟨f, 0, none⟩)] w fun e w' => ∃ A c, e = .returned (.slice A S.fs.length c) ∧ w'.ownsRow w.heap.size 9 1 (.slice A S.fs.length c) S.fs.length (nms (S.fs.map (·.1))) ∧ S.fs.length ≤ c ∧ c ≤ maxLen ∧ Below w.heap.size w w' ∧ (S.fs = [] → A = none ∧ c = 0) := by
  have c4 : w.cell? ⟨f, 4, none⟩ = some (.map (some m)) := h.hd.cell 4
  obtain ⟨D, hown, hperm⟩ := keys_perm h
  have hsz := hown.size_le
  have HK := Lib.hid (fun W => (callsIn_wide.1 (keys_fn (some m) W) : Calls Tryz.prog _ _ W _))
  have HS := Lib.hid (callsIn_wide.1 (sortedKeys_any m S.stamp D fileR w hown (Nat.le_trans hsz (Nat.le_trans hst (by unfold maxLen; decide))) (by omega)))
  have HP := Lib.hid (And.intro h.wf hperm)
  clear h hown hperm hsz hst
  go_enter Tryz.func55, Tryz.ntmps55
  go_wp2_with fail
  with_reducible refine (HK.out _).mono ?_
  rintro e w1 ⟨rfl, hw1⟩; subst hw1
  go_wp2_with fail
  with_reducible refine HS.out.mono ?_
  rintro e w2 ⟨v, ss, rfl, hpp, hown, hnil, hb⟩
  have hn := names_sorted HP.out.1 (hpp.trans HP.out.2.symm)
  have hl : ss.length = S.fs.length := by
    have := hpp.length_eq
    have h2 := HP.out.2.length_eq
    simp at h2
    omega
  rw [hn, hl] at hown
  have hnil2 : S.fs = [] → v = .slice none 0 0 := fun h0 => hnil.2 (List.eq_nil_of_length_eq_zero (by rw [hl, h0]; rfl))
  obtain ⟨A, c, rfl, hc1, hc2⟩ := own_form hown
  have HX := Lib.hid (And.intro (own_base (base' := w.heap.size) hown (by simp)) (And.intro hc1 (And.intro hc2 (And.intro hb hnil2))))
  clear hpp hown hnil hb hn hl hc1 hc2 hnil2
  go_wp2_with fail
  go_ret
  obtain ⟨h1, h2, h3, h4, h5⟩ := HX.out
  exact ⟨A, c, rfl, h1, h2, h3, ((Below.refl _ _).alloc (Nat.le_refl _) _).trans (h4.mono (by simp)), fun h0 => by have := h5 h0; injection this with e1 e2 e3; exact ⟨e1, e3⟩⟩
end Go.Proofs.YtoadamkmabkldaaGreatDoor
