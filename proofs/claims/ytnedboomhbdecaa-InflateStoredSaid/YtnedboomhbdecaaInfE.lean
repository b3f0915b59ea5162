/- Contracts of package inflate: head. -/
import Derived.Test.YtnedboomhbdecaaInfK
import Derived.Test.YtnedboomhbdecaaBit6
namespace Go.Proofs.Ytnedboomhbdecaa
open Go.RowKit
attribute [local go_sem ↓] Go.wp_at_zero Go.wp_at_succ

theorem xor_i64 (a b : Nat) (ha : a < 65536) (hb : b < 65536) : bits .xor .i64 (a : Int) (b : Int) = ((a ^^^ b : Nat) : Int) := by
  have hx : a ^^^ b < 2 ^ 16 := Nat.xor_lt_two_pow (by omega) (by omega)
  show IntKind.i64.wrap ((BitVec.ofInt 64 (a : Int) ^^^ BitVec.ofInt 64 (b : Int)).toNat : Int) = _
  rw [BitVec.toNat_xor, ofInt_u64 a (by omega), ofInt_u64 b (by omega)]
  exact IntWalk.i64_in _ (by omega)
/-- How a head's reading ends. -/
def HeR (B : List Bool) (a : Nat) (g gi : Nat) (S : Nat → Prop) (L : List UInt8) (vo c2 c5o c6 : Value) (n0 : Nat) (e : Ending) (w' : World) : Prop :=
  ∃ (E : Int) (a' : Nat) (c3 c4 c5 v7 v8 : Value), e = .returned (.int .i64 E) ∧ Bk w' g 95 #[.pointer (some ⟨gi, 0, none⟩), vo, c2, c3, c4, c5, c6, v7, v8] ∧ RdS w' S gi L a' ∧
    ((E = 0 ∧ ((∃ la n, hdP B a = some ((la, .st n), a') ∧ n < 65536 ∧ c3 = .int .i64 1 ∧ c4 = .bool la ∧ c5 = .int .i64 (n : Int)) ∨
      (∃ la l d, hdP B a = some ((la, .co l d), a') ∧ c3 = .int .i64 2 ∧ c4 = .bool la ∧ c5 = c5o ∧ ∀ X : Nat → Prop, (∀ k, X k → k < n0) → CodOK w' X v7 l ∧ CodOK w' X v8 d))) ∨ (E ≠ 0 ∧ hdP B a = none))
section
variable {B : List Bool} {a a1 a2 x : Nat} (h1 : ndP 1 B a = some (x, a1))
include h1
theorem hd_k {k : Nat} (h2 : ndP 2 B a1 = some (k, a2)) : hdP B a = (if k = 0 then bndP alP fun _ => bndP (ndP 16) fun n => bndP (ndP 16) fun t => if n ^^^ t = 65535 then retP (decide (x = 1), Hd.st n) else failP
  else if k = 1 then retP (decide (x = 1), .co fixL fixD)
  else if k = 2 then bndP codP fun p => retP (decide (x = 1), .co p.1 p.2)
  else failP) B a2 := by
  unfold hdP; rw [bndP_of h1, bndP_of h2]
end
theorem hd_1n {B : List Bool} {a : Nat} (h1 : ndP 1 B a = none) : hdP B a = none := by unfold hdP; rw [bndP_none h1]
theorem hd_2n {B : List Bool} {a a1 x : Nat} (h1 : ndP 1 B a = some (x, a1)) (h2 : ndP 2 B a1 = none) : hdP B a = none := by unfold hdP; rw [bndP_of h1, bndP_none h2]
theorem al_ok {L : List UInt8} {a : Nat} (h : a ≤ 8 * L.length) : alP (bitsB L) a = some ((), a + (8 - a % 8) % 8) := by
  unfold alP; rw [if_pos (by rw [bitsB_len]; omega)]
theorem one_b (x : Nat) (h : x < 2) : ((x : Int) == 1) = decide (x = 1) := by
  rcases (show x = 0 ∨ x = 1 by omega) with rfl | rfl <;> rfl
set_option maxHeartbeats 8000000 in
set_option maxRecDepth 100000 in
theorem head_any (g gi : Nat) (S : Nat → Prop) (L : List UInt8) (a : Nat) (vo c2 c3 c4 c5 c6 c7 c8 : Value) (w : World) (hb : Bk w g 95 #[.pointer (some ⟨gi, 0, none⟩), vo, c2, c3, c4, c5, c6, c7, c8]) (hr : RdS w S gi L a) (hS : ¬ S g) :
    Calls Try.prog 66 #[.pointer (some ⟨g, 0, none⟩)] w fun e w' => HeR (bitsB L) a g gi S L vo c2 c5 c6 w.heap.size e w' ∧ Ch (fun i => S i ∨ i = g) w w' := by
  have hSlt := hr.lt
  have hglt := hb.lt
  have hgel : ¬ S w.heap.size := fun h => by have := hSlt _ h; omega
  have hnb := NB.start hb rfl hr hS 0
  have Hnb := Lib.hid hnb
  have HSlt := Lib.hid hSlt
  have hch0 : Ch (fun i => S i ∨ i = g) w (w.alloc (.cells #[.int .i64 0] 34)) := (Ch.refl _ _).alloc _
  have Hch0 := Lib.hid hch0
  clear hnb hSlt hch0 hb hr
  go_enter Try.func66, Try.ntmps66
  go_wp2_with fail
  refine (need_b 1 Hnb.out (by omega)).mono ?_
  rintro e w1 ⟨x, a1, E1, rfl, hx, hnb1, hc1, hy1, hno1⟩
  have hch1 := Hch0.out.trans hc1 (fun i h => by rcases h with h | rfl; exact .inl (.inl h); exact .inr (Nat.le_refl _))
  have hcg4 : w1.cell? ⟨g, 4, none⟩ = some c4 := hnb1.bk.cell 4
  have hfg4 : w1.frozen? ⟨g, 4, none⟩ = false := hnb1.bk.free 4
  have hxb := one_b x (by simpa using hx)
  have hnb2 := hnb1.setR (i := 4) (by omega) (.bool (decide (x = 1)))
  have hch2 := hch1.set (p := ⟨g, 4, none⟩) (.inl (.inr rfl)) (.bool (decide (x = 1)))
  have Hch2 := Lib.hid hch2
  have Hnb2 := Lib.hid (show NB (w1.setCell ⟨g, 4, none⟩ (.bool (decide (x = 1)))) g gi w.heap.size S L #[.pointer (some ⟨gi, 0, none⟩), vo, c2, c3, .bool (decide (x = 1)), c5, c6, c7, c8] a1 E1 from hnb2)
  have Hy1 := Lib.hid hy1
  have Hno1 := Lib.hid hno1
  clear Hnb Hch0 hnb1 hc1 hy1 hno1 hch1 hnb2 hch2
  generalize hla : decide (x = 1) = la at *
  have Hla := Lib.hid hla
  clear hla
  go_wp2_with fail
  refine (need_b 2 Hnb2.out (by omega)).mono ?_
  rintro e w3 ⟨k, a2, E2, rfl, hk, hnb3, hc3, hy2, hno2⟩
  have hch3 := Hch2.out.trans hc3 (fun i h => by rcases h with h | rfl; exact .inl (.inl h); exact .inr (Nat.le_refl _))
  have hce : w3.cell? ⟨w.heap.size, 0, none⟩ = some (.int .i64 E2) := hnb3.er.cell 0
  have Hch3 := Lib.hid hch3
  have Hnb3 := Lib.hid hnb3
  clear hcg4 hfg4 hxb Hch2 Hnb2 hc3 hch3
  simp only [Nat.reducePow] at hk
  by_cases hE : ¬ E2 = 0
  · have hbad : hdP (bitsB L) a = none := by
      by_cases h1 : E1 = 0
      · obtain ⟨_, e1⟩ := Hy1.out h1
        exact hd_2n e1 (hno2 hE h1)
      · exact hd_1n (Hno1.out h1 (by simp))
    have hEb : (E2 != 0) = true := by rw [bne_iff_ne]; exact hE
    have hf : HeR (bitsB L) a g gi S L vo c2 c5 c6 w.heap.size (.returned (.int .i64 E2)) w3 := ⟨E2, a2, c3, .bool la, c5, c7, c8, rfl, hnb3.bk, hnb3.rd, .inr ⟨hE, hbad⟩⟩
    have Hf := Lib.hid hf
    clear hf hbad hnb3 hy2 hno2 hE
    go_wp2
    go_ret
    exact ⟨Hf.out, Hch3.out⟩
  have hE : E2 = 0 := by omega
  obtain ⟨hE1, e2⟩ := hy2 hE
  obtain ⟨_, e1⟩ := Hy1.out hE1
  have hhd := hd_k e1 e2
  rw [Hla.out] at hhd
  have Hhd := Lib.hid hhd
  subst hE
  clear hhd e1 e2 hE1 hy2 hno2 Hy1 Hno1 hnb3
  rcases (show k = 0 ∨ k = 1 ∨ k = 2 ∨ k = 3 by omega) with rfl | rfl | rfl | rfl
  · have hal := ralign_any gi S L a2 w3 Hnb3.out.rd
    have h0 : w3.cell? ⟨g, 0, none⟩ = some (.pointer (some ⟨gi, 0, none⟩)) := Hnb3.out.bk.cell 0
    have Hal := Lib.hid hal
    have Hae := Lib.hid (al_ok Hnb3.out.rd.le)
    clear hal
    go_wp2_with fail
    refine Hal.out.mono ?_
    rintro e w4 ⟨rfl, hr4, hc4⟩
    have hnb4 : NB w4 g gi w.heap.size S L _ _ 0 := ⟨Hnb3.out.bk.ch hc4 hS, rfl, hr4, Hnb3.out.er.ch hc4 hgel, hS, hgel⟩
    have hch4 := Hch3.out.trans hc4 (fun i h => .inl (.inl h))
    have Hch4 := Lib.hid hch4
    have Hnb4 := Lib.hid hnb4
    clear hr4 hc4 hnb4 hch4 Hal Hnb3 Hch3 hce h0
    go_wp2_with fail
    refine (need_b 16 Hnb4.out (by omega)).mono ?_
    rintro e w5 ⟨n, a5, E5, rfl, hn, hnb5, hc5, hy5, hno5⟩
    have hch5 := Hch4.out.trans hc5 (fun i h => by rcases h with h | rfl; exact .inl (.inl h); exact .inr (Nat.le_refl _))
    have Hch5 := Lib.hid hch5
    have Hnb5 := Lib.hid hnb5
    have Hy5 := Lib.hid hy5
    have Hno5 := Lib.hid hno5
    clear hnb5 hc5 hch5 hy5 hno5 Hnb4 Hch4
    go_wp2_with fail
    refine (need_b 16 Hnb5.out (by omega)).mono ?_
    rintro e w6 ⟨t, a6, E6, rfl, ht, hnb6, hc6, hy6, hno6⟩
    have hch6 := Hch5.out.trans hc6 (fun i h => by rcases h with h | rfl; exact .inl (.inl h); exact .inr (Nat.le_refl _))
    have Hch6 := Lib.hid hch6
    simp only [Nat.reducePow] at hn ht
    have hend : ∀ (W : World) (E : Int), NB W g gi w.heap.size S L #[.pointer (some ⟨gi, 0, none⟩), vo, c2, c3, .bool la, c5, c6, c7, c8] a6 E → Ch (fun i => S i ∨ i = g) w W → (E = 0 ∧ hdP (bitsB L) a = some ((la, .st n), a6) ∨ E ≠ 0 ∧ hdP (bitsB L) a = none) →
        W.cell? ⟨g, 3, none⟩ = some c3 ∧ W.frozen? ⟨g, 3, none⟩ = false ∧ (W.setCell ⟨g, 3, none⟩ (.int .i64 1)).cell? ⟨g, 5, none⟩ = some c5 ∧ (W.setCell ⟨g, 3, none⟩ (.int .i64 1)).frozen? ⟨g, 5, none⟩ = false ∧ ((W.setCell ⟨g, 3, none⟩ (.int .i64 1)).setCell ⟨g, 5, none⟩ (.int .i64 (n : Int))).cell? ⟨w.heap.size, 0, none⟩ = some (.int .i64 E) ∧
        Hid (HeR (bitsB L) a g gi S L vo c2 c5 c6 w.heap.size (.returned (.int .i64 E)) ((W.setCell ⟨g, 3, none⟩ (.int .i64 1)).setCell ⟨g, 5, none⟩ (.int .i64 (n : Int))) ∧ Ch (fun i => S i ∨ i = g) w ((W.setCell ⟨g, 3, none⟩ (.int .i64 1)).setCell ⟨g, 5, none⟩ (.int .i64 (n : Int)))) := by
      intro W E h hc hcs
      have h1 := h.setR (i := 3) (by omega) (.int .i64 1)
      have h2 := h1.setR (i := 5) (by omega) (.int .i64 (n : Int))
      refine ⟨h.bk.cell 3, h.bk.free 3, h1.bk.cell 5, h1.bk.free 5, h2.er.cell 0, Lib.hid ⟨⟨E, a6, .int .i64 1, .bool la, .int .i64 (n : Int), c7, c8, rfl, h2.bk, h2.rd, ?_⟩, (hc.set (p := ⟨g, 3, none⟩) (.inl (.inr rfl)) _).set (p := ⟨g, 5, none⟩) (.inl (.inr rfl)) _⟩⟩
      rcases hcs with ⟨h3, h4⟩ | h3
      · exact .inl ⟨h3, .inl ⟨la, n, h4, hn, rfl, rfl, rfl⟩⟩
      · exact .inr h3
    have hce6 : w6.cell? ⟨w.heap.size, 0, none⟩ = some (.int .i64 E6) := hnb6.er.cell 0
    have hfe6 : w6.frozen? ⟨w.heap.size, 0, none⟩ = false := hnb6.er.free 0
    by_cases hE : ¬ E6 = 0
    · have hbad : hdP (bitsB L) a = none := by
        rw [Hhd.out, if_pos (by trivial), bndP_of Hae.out]
        by_cases h1 : E5 = 0
        · obtain ⟨_, e5⟩ := Hy5.out h1
          rw [bndP_of e5, bndP_none (hno6 hE h1)]
        · rw [bndP_none (Hno5.out h1 (by simp))]
      obtain ⟨k1, k2, k3, k4, k5, k6⟩ := hend w6 E6 hnb6 Hch6.out (.inr ⟨hE, hbad⟩)
      have hEb : (E6 == 0) = false := by rw [beq_eq_false_iff_ne]; exact hE
      clear hend hbad hnb6 hc6 hch6 hy6 hno6 hE Hhd Hae Hy5 Hno5
      go_wp2
      go_ret
      exact k6.out
    have hE : E6 = 0 := by omega
    obtain ⟨hE5, e6⟩ := hy6 hE
    obtain ⟨_, e5⟩ := Hy5.out hE5
    subst hE
    have hxr := xor_i64 n t hn ht
    have hres : hdP (bitsB L) a = if n ^^^ t = 65535 then some ((la, .st n), a6) else none := by
      rw [Hhd.out, if_pos (by trivial), bndP_of Hae.out, bndP_of e5, bndP_of e6]
      split <;> rfl
    by_cases hxt : n ^^^ t = 65535
    · rw [if_pos hxt] at hres
      rw [hxt] at hxr
      obtain ⟨k1, k2, k3, k4, k5, k6⟩ := hend w6 0 hnb6 Hch6.out (.inl ⟨rfl, hres⟩)
      clear hend hres hnb6 hc6 hch6 hy6 hno6 hE5 e5 e6 hxt Hhd Hae Hy5 Hno5
      go_wp2
      go_ret
      exact k6.out
    · rw [if_neg hxt] at hres
      have hxb : (bits .xor .i64 (n : Int) (t : Int) != 65535) = true := by rw [hxr, bne_iff_ne]; omega
      obtain ⟨k1, k2, k3, k4, k5, k6⟩ := hend (w6.setCell ⟨w.heap.size, 0, none⟩ (.int .i64 12)) 12 (hnb6.setE 12) (Hch6.out.set (p := ⟨w.heap.size, 0, none⟩) (.inr (Nat.le_refl _)) _) (.inr ⟨by decide, hres⟩)
      clear hend hres hnb6 hc6 hch6 hy6 hno6 hE5 e5 e6 hxt hxr Hhd Hae Hy5 Hno5
      go_wp2
      go_ret
      exact k6.out
  · have hfx := fixed_any w3
    have Hfx := Lib.hid hfx
    clear hfx
    go_wp2_with fail
    refine Hfx.out.mono ?_
    rintro e w4 ⟨⟨g1, g2, rfl, hcl1, hcl2⟩, hb4⟩
    have hz4 := hb4.size
    have hl3 := Hnb3.out.er.lt
    have hnb4 := Hnb3.out.below hb4
    have hnb5 := hnb4.setR (i := 7) (by omega) (.pointer (some ⟨g1, 0, none⟩))
    have hnb6 := hnb5.setR (i := 8) (by omega) (.pointer (some ⟨g2, 0, none⟩))
    have hnb7 := hnb6.setR (i := 3) (by omega) (.int .i64 2)
    have hch4 := Hch3.out.trans (Ch.of_below (S := fun _ => False) hb4 (Nat.le_refl _)) (fun _ h => h.elim)
    have hch7 := ((hch4.set (p := ⟨g, 7, none⟩) (.inl (.inr rfl)) (.pointer (some ⟨g1, 0, none⟩))).set (p := ⟨g, 8, none⟩) (.inl (.inr rfl)) (.pointer (some ⟨g2, 0, none⟩))).set (p := ⟨g, 3, none⟩) (.inl (.inr rfl)) (.int .i64 2)
    have k1 : w4.cell? ⟨g, 7, none⟩ = some c7 := hnb4.bk.cell 7
    have k2 : w4.frozen? ⟨g, 7, none⟩ = false := hnb4.bk.free 7
    have k3 : (w4.setCell ⟨g, 7, none⟩ (.pointer (some ⟨g1, 0, none⟩))).cell? ⟨g, 8, none⟩ = some c8 := hnb5.bk.cell 8
    have k4 : (w4.setCell ⟨g, 7, none⟩ (.pointer (some ⟨g1, 0, none⟩))).frozen? ⟨g, 8, none⟩ = false := hnb5.bk.free 8
    have k5 : ((w4.setCell ⟨g, 7, none⟩ (.pointer (some ⟨g1, 0, none⟩))).setCell ⟨g, 8, none⟩ (.pointer (some ⟨g2, 0, none⟩))).cell? ⟨g, 3, none⟩ = some c3 := hnb6.bk.cell 3
    have k6 : ((w4.setCell ⟨g, 7, none⟩ (.pointer (some ⟨g1, 0, none⟩))).setCell ⟨g, 8, none⟩ (.pointer (some ⟨g2, 0, none⟩))).frozen? ⟨g, 3, none⟩ = false := hnb6.bk.free 3
    have k7 : (((w4.setCell ⟨g, 7, none⟩ (.pointer (some ⟨g1, 0, none⟩))).setCell ⟨g, 8, none⟩ (.pointer (some ⟨g2, 0, none⟩))).setCell ⟨g, 3, none⟩ (.int .i64 2)).cell? ⟨w.heap.size, 0, none⟩ = some (.int .i64 0) := hnb7.er.cell 0
    have hA := ((hcl1.set (p := ⟨g, 7, none⟩) (by show g < _; omega) (.pointer (some ⟨g1, 0, none⟩))).set (p := ⟨g, 8, none⟩) (by show g < _; omega) (.pointer (some ⟨g2, 0, none⟩))).set (p := ⟨g, 3, none⟩) (by show g < _; omega) (.int .i64 2)
    have hB := ((hcl2.set (p := ⟨g, 7, none⟩) (by show g < _; omega) (.pointer (some ⟨g1, 0, none⟩))).set (p := ⟨g, 8, none⟩) (by show g < _; omega) (.pointer (some ⟨g2, 0, none⟩))).set (p := ⟨g, 3, none⟩) (by show g < _; omega) (.int .i64 2)
    have hhd2 : hdP (bitsB L) a = some ((la, .co fixL fixD), a2) := by rw [Hhd.out, if_neg (by decide), if_pos (by trivial)]; rfl
    have hf : HeR (bitsB L) a g gi S L vo c2 c5 c6 w.heap.size (.returned (.int .i64 0)) (((w4.setCell ⟨g, 7, none⟩ (.pointer (some ⟨g1, 0, none⟩))).setCell ⟨g, 8, none⟩ (.pointer (some ⟨g2, 0, none⟩))).setCell ⟨g, 3, none⟩ (.int .i64 2)) :=
      ⟨0, a2, .int .i64 2, .bool la, c5, .pointer (some ⟨g1, 0, none⟩), .pointer (some ⟨g2, 0, none⟩), rfl, hnb7.bk, hnb7.rd, .inl ⟨rfl, .inr ⟨la, _, _, hhd2, rfl, rfl, rfl, fun X hX => ⟨hA.ok (fun k hk => by have := hX k hk; omega) fix_ok.1 fix_ok.2.1, hB.ok (fun k hk => by have := hX k hk; omega) fix_ok.2.2.1 fix_ok.2.2.2⟩⟩⟩⟩
    have Hf := Lib.hid hf
    have Hch7 := Lib.hid hch7
    clear hf hhd2 hA hB hcl1 hcl2 hb4 hnb4 hnb5 hnb6 hnb7 hch4 hch7 Hfx Hnb3 Hch3 hce
    go_wp2
    go_ret
    exact ⟨Hf.out, Hch7.out⟩
  · have hco := codes_any g gi S L a2 vo c2 c3 (.bool la) c5 c6 c7 c8 w3 Hnb3.out.bk Hnb3.out.rd hS
    have Hco := Lib.hid hco
    clear hco
    go_wp2_with fail
    refine Hco.out.mono ?_
    rintro e w4 ⟨⟨E, a4, v7, v8, rfl, hbk4, hr4, hcs⟩, hc4⟩
    have hl3 := Hnb3.out.er.lt
    have her4 := Hnb3.out.er.ch hc4 (fun h => by rcases h with h | h; exact hgel h; exact Hnb3.out.ne h.symm)
    have hnb4 : NB w4 g gi w.heap.size S L _ a4 0 := ⟨hbk4, rfl, hr4, her4, hS, hgel⟩
    have hnb5 := hnb4.setE E
    have hnb6 := hnb5.setR (i := 3) (by omega) (.int .i64 2)
    have hch6 := ((Hch3.out.trans hc4 (fun i h => .inl h)).set (p := ⟨w.heap.size, 0, none⟩) (.inr (Nat.le_refl _)) (.int .i64 E)).set (p := ⟨g, 3, none⟩) (.inl (.inr rfl)) (.int .i64 2)
    have k1 : w4.cell? ⟨w.heap.size, 0, none⟩ = some (.int .i64 0) := her4.cell 0
    have k2 : w4.frozen? ⟨w.heap.size, 0, none⟩ = false := her4.free 0
    have k3 : (w4.setCell ⟨w.heap.size, 0, none⟩ (.int .i64 E)).cell? ⟨g, 3, none⟩ = some c3 := hnb5.bk.cell 3
    have k4 : (w4.setCell ⟨w.heap.size, 0, none⟩ (.int .i64 E)).frozen? ⟨g, 3, none⟩ = false := hnb5.bk.free 3
    have k5 : ((w4.setCell ⟨w.heap.size, 0, none⟩ (.int .i64 E)).setCell ⟨g, 3, none⟩ (.int .i64 2)).cell? ⟨w.heap.size, 0, none⟩ = some (.int .i64 E) := hnb6.er.cell 0
    have hf : HeR (bitsB L) a g gi S L vo c2 c5 c6 w.heap.size (.returned (.int .i64 E)) ((w4.setCell ⟨w.heap.size, 0, none⟩ (.int .i64 E)).setCell ⟨g, 3, none⟩ (.int .i64 2)) := by
      refine ⟨E, a4, .int .i64 2, .bool la, c5, v7, v8, rfl, hnb6.bk, hnb6.rd, ?_⟩
      rcases hcs with ⟨hE, l, d, hcd, hok⟩ | ⟨hE, hcd⟩
      · refine .inl ⟨hE, .inr ⟨la, l, d, by rw [Hhd.out, if_neg (by decide), if_neg (by decide), if_pos (by trivial), bndP_of hcd]; rfl, rfl, rfl, rfl, fun X hX => ?_⟩⟩
        obtain ⟨o1, o2⟩ := hok (fun k => X k ∨ k = g ∨ k = w.heap.size) (fun k hk => by rcases hk with hk | rfl | rfl; have := hX k hk; omega; omega; omega)
        have hc5 : Ch (fun k => X k ∨ k = g ∨ k = w.heap.size) w4 ((w4.setCell ⟨w.heap.size, 0, none⟩ (.int .i64 E)).setCell ⟨g, 3, none⟩ (.int .i64 2)) := ((Ch.refl _ _).set (p := ⟨w.heap.size, 0, none⟩) (.inl (.inr (.inr rfl))) _).set (p := ⟨g, 3, none⟩) (.inl (.inr (.inl rfl))) _
        exact ⟨o1.ch hc5 (fun i h => .inl (.inl h)), o2.ch hc5 (fun i h => .inl (.inl h))⟩
      · exact .inr ⟨hE, by rw [Hhd.out, if_neg (by decide), if_neg (by decide), if_pos (by trivial), bndP_none hcd]⟩
    have Hf := Lib.hid hf
    have Hch6 := Lib.hid hch6
    clear hf hcs hc4 hbk4 hr4 her4 hnb4 hnb5 hnb6 hch6 Hco Hnb3 Hch3 hce
    go_wp2
    go_ret
    exact ⟨Hf.out, Hch6.out⟩
  · have hnb4 := Hnb3.out.setE 12
    have hce4 : (w3.setCell ⟨w.heap.size, 0, none⟩ (.int .i64 12)).cell? ⟨w.heap.size, 0, none⟩ = some (.int .i64 12) := hnb4.er.cell 0
    have hfe : w3.frozen? ⟨w.heap.size, 0, none⟩ = false := Hnb3.out.er.free 0
    have hch4 := Hch3.out.set (p := ⟨w.heap.size, 0, none⟩) (.inr (Nat.le_refl _)) (.int .i64 12)
    have hf : HeR (bitsB L) a g gi S L vo c2 c5 c6 w.heap.size (.returned (.int .i64 12)) (w3.setCell ⟨w.heap.size, 0, none⟩ (.int .i64 12)) :=
      ⟨12, a2, c3, .bool la, c5, c7, c8, rfl, hnb4.bk, hnb4.rd, .inr ⟨by decide, by rw [Hhd.out, if_neg (by decide), if_neg (by decide), if_neg (by decide)]; rfl⟩⟩
    have Hf := Lib.hid hf
    have Hch4 := Lib.hid hch4
    clear hf hnb4 hch4 Hnb3 Hch3
    go_wp2
    go_ret
    exact ⟨Hf.out, Hch4.out⟩
end Go.Proofs.Ytnedboomhbdecaa
