/- Contracts of package inflate: symbol. -/
import Derived.Test.YtnedboomhbdecaaInfU
import Derived.Deep.Cut
namespace Go.Proofs.Ytnedboomhbdecaa
open Go.RowKit
attribute [local go_sem ↓] Go.wp_at_zero Go.wp_at_succ

/-- How a symbol's reading ends. -/
def SyR (w : World) (base g gi : Nat) (S : Nat → Prop) (L : List UInt8) (c : Cf) (vo v7 v8 : Value) (e : Ending) (w' : World) : Prop :=
  ∃ E : Int, e = .returned (.int .i64 E) ∧ Ch (XU S g vo) w w' ∧
    ((E = 0 ∧ ∃ c' vo', stC (bitsB L) c = some c' ∧ UN w' base g gi S L c' vo' v7 v8 ∧ (vo'.ownBlock = vo.ownBlock ∨ ∃ k, vo'.ownBlock = some k ∧ w.heap.size ≤ k)) ∨ (E ≠ 0 ∧ stC (bitsB L) c = none ∧ UE w' base g gi S L c.out vo))
section
variable {B : List Bool} {c : Cf} {a' : Nat} (h : c.st = 2)
include h
theorem stC_lit {v : Nat} (hs : syP c.lits c.dist c.out.length B c.a = some (.lit v, a')) : stC B c = some { c with a := a', out := c.out ++ [UInt8.ofNat v] } := by
  unfold stC; rw [if_neg (by omega), if_neg (by omega), if_pos h, hs]
theorem stC_eob (hs : syP c.lits c.dist c.out.length B c.a = some (.eob, a')) : stC B c = some { c with a := a', st := 0 } := by
  unfold stC; rw [if_neg (by omega), if_neg (by omega), if_pos h, hs]
theorem stC_cp {n f : Nat} (hs : syP c.lits c.dist c.out.length B c.a = some (.cp n f, a')) : stC B c = some { c with a := a', st := 3, left := n, back := f } := by
  unfold stC; rw [if_neg (by omega), if_neg (by omega), if_pos h, hs]
theorem stC_no (hs : syP c.lits c.dist c.out.length B c.a = none) : stC B c = none := by
  unfold stC; rw [if_neg (by omega), if_neg (by omega), if_pos h, hs]
end
theorem lenB_bd {s : Nat} (h : s ≤ 285) : (lenB s).1 ≤ 258 ∧ (lenB s).2 ≤ 5 := by
  have : ∀ s, s ≤ 285 → (lenB s).1 ≤ 258 ∧ (lenB s).2 ≤ 5 := by decide +kernel
  exact this s h
theorem dis_bd {s : Nat} (h : s ≤ 29) : 1 ≤ (spn s 2 1).1 ∧ (spn s 2 1).1 ≤ 24577 ∧ (spn s 2 1).2 ≤ 13 := by
  have : ∀ s, s ≤ 29 → 1 ≤ (spn s 2 1).1 ∧ (spn s 2 1).1 ≤ 24577 ∧ (spn s 2 1).2 ≤ 13 := by decide +kernel
  exact this s h
/-- Behind the first symbol. -/
def SyM (w : World) (g gi ge : Nat) (S : Nat → Prop) (L : List UInt8) (c : Cf) (vo v7 v8 : Value) (E s N : Nat) (wx : World) : Prop :=
  NX c.lits (restL L c.a) E s N ∧ NB wx g gi ge S L #[.pointer (some ⟨gi, 0, none⟩), vo, .int .i64 0, .int .i64 (c.st : Int), .bool c.last, .int .i64 (c.left : Int), .int .i64 (c.back : Int), v7, v8] (if E = 0 then c.a + N else c.a) (E : Int) ∧ Ch S w wx ∧ w.heap.size ≤ ge
set_option maxHeartbeats 8000000 in
set_option maxRecDepth 100000 in
theorem symbol_any (base g gi : Nat) (S : Nat → Prop) (L : List UInt8) (c : Cf) (vo v7 v8 : Value) (w : World) (h : UN w base g gi S L c vo v7 v8) (hst : c.st = 2) (hol : c.out.length ≤ 1000000) :
    Calls Try.prog 68 #[.pointer (some ⟨g, 0, none⟩)] w fun e w' => SyR w base g gi S L c vo v7 v8 e w' := by
  obtain ⟨⟨gl, rfl, hl1, hl2, hl3⟩, ⟨gd, rfl, hd1, hd2, hd3⟩⟩ := h.cd (.inl hst)
  obtain ⟨hlall, hl320⟩ := may_all hl2
  obtain ⟨hdall, hd320⟩ := may_all hd2
  have H := Lib.hid h
  have Hst := Lib.hid hst
  have k0 : w.cell? ⟨g, 0, none⟩ = some (.pointer (some ⟨gi, 0, none⟩)) := h.bk.cell 0
  have k7 : w.cell? ⟨g, 7, none⟩ = some (.pointer (some ⟨gl, 0, none⟩)) := h.bk.cell 7
  have hx := hnext_c c.lits gl gi S L c.a w.drew (fun w' hc => hl1 w' (((Ch.refl _ w).drew).trans (hc.mono (fun i hi => .inl hi)) (fun i hi => .inl hi))) (h.ub.rd.ch ((Ch.refl (fun _ => False) w).drew) (fun _ _ h => h)) hl320 hlall hl3
  have Hx := Lib.hid hx
  have hk : ∀ w1, Ch S w.drew w1 → w1.cell? ⟨g, 7, none⟩ = some (.pointer (some ⟨gl, 0, none⟩)) ∧ w1.cell? ⟨g, 0, none⟩ = some (.pointer (some ⟨gi, 0, none⟩)) := fun w1 hc => by
    have := (Bk.drew h.bk).ch hc h.ub.sg
    exact ⟨this.cell 7, this.cell 0⟩
  have hk2 : ∀ w1 o, Ch S w.drew w1 → (w1.alloc o).cell? ⟨g, 7, none⟩ = some (.pointer (some ⟨gl, 0, none⟩)) ∧ (w1.alloc o).cell? ⟨g, 0, none⟩ = some (.pointer (some ⟨gi, 0, none⟩)) := fun w1 o hc => by
    have := ((Bk.drew h.bk).ch hc h.ub.sg).alloc o
    exact ⟨this.cell 7, this.cell 0⟩
  have hx2 := hnext_c c.lits gl gi S L c.a (w.alloc (.cells #[.int .i64 0] 34)).drew (fun w' hc => hl1 w' ((((Ch.refl _ w).alloc _).drew).trans (hc.mono (fun i hi => .inl hi)) (fun i hi => .inl hi))) (h.ub.rd.ch (((Ch.refl (fun _ => False) w).alloc _).drew) (fun _ _ h => h)) hl320 hlall hl3
  have Hx2 := Lib.hid hx2
  have hk3 : ∀ w1, Ch S (w.alloc (.cells #[.int .i64 0] 34)).drew w1 → (w1.cell? ⟨g, 7, none⟩ = some (.pointer (some ⟨gl, 0, none⟩)) ∧ w1.cell? ⟨g, 0, none⟩ = some (.pointer (some ⟨gi, 0, none⟩))) ∧ (∀ v, (w1.setCell ⟨w.heap.size, 0, none⟩ v).cell? ⟨g, 7, none⟩ = some (.pointer (some ⟨gl, 0, none⟩)) ∧ (w1.setCell ⟨w.heap.size, 0, none⟩ v).cell? ⟨g, 0, none⟩ = some (.pointer (some ⟨gi, 0, none⟩))) ∧ w1.cell? ⟨w.heap.size, 0, none⟩ = some (.int .i64 0) ∧ w1.frozen? ⟨w.heap.size, 0, none⟩ = false := fun w1 hc => by
    have h1 := (Bk.drew (h.bk.alloc (.cells #[.int .i64 0] 34))).ch hc h.ub.sg
    have h2 := (Bk.drew (Bk.new w 34 #[.int .i64 0])).ch hc (fun e => by have := h.ub.rd.lt _ e; omega)
    have hne := h1.ne h2 (by decide)
    exact ⟨⟨h1.cell 7, h1.cell 0⟩, fun v => ⟨(h1.far (p := ⟨w.heap.size, 0, none⟩) hne v).cell 7, (h1.far (p := ⟨w.heap.size, 0, none⟩) hne v).cell 0⟩, h2.cell 0, h2.free 0⟩
  have HK3 := Lib.hid hk3
  have hk4 : (w.alloc (.cells #[.int .i64 0] 34)).cell? ⟨g, 7, none⟩ = some (.pointer (some ⟨gl, 0, none⟩)) ∧ (w.alloc (.cells #[.int .i64 0] 34)).cell? ⟨g, 0, none⟩ = some (.pointer (some ⟨gi, 0, none⟩)) := ⟨(h.bk.alloc _).cell 7, (h.bk.alloc _).cell 0⟩
  have HK4 := Lib.hid hk4
  have HK := Lib.hid hk
  have HK2 := Lib.hid hk2
  have Hd1 := Lib.hid hd1
  have Hdall := Lib.hid hdall
  have Hd3 := Lib.hid hd3
  clear hx hx2 hk hk2 hk3 hk4 h hst hl1 hl2 hl3 hlall hd1 hd2 hd3 hdall
  go_enter Try.func68, Try.ntmps68
  go_upto_region 1 with (fail)
  go_cut [3, 4] (fun v3 v4 wx => ∃ (E s N ge : Nat), v3 = .int .i64 s ∧ v4 = .pointer (some ⟨ge, 0, none⟩) ∧ Hid (SyM w g gi ge S L c vo (.pointer (some ⟨gl, 0, none⟩)) (.pointer (some ⟨gd, 0, none⟩)) E s N wx))
  case first =>
    go_region_held3 (fun w' => w'.cell? ⟨g, 7, none⟩ = some (.pointer (some ⟨gl, 0, none⟩)) ∧ w'.cell? ⟨g, 0, none⟩ = some (.pointer (some ⟨gi, 0, none⟩))) (first | (exact ⟨k7, k0⟩) | (exact HK.out _ hc1) | (exact HK2.out _ _ hc1) | (exact HK4.out) | (exact (HK3.out _ hc1).1) | (exact (HK3.out _ hc1).2.1 _) | go_keep)
      (first
        | ((go_at_call 44; (with_reducible refine Hx.out.mono ?_); rintro e w1 ⟨E, s, N, hNX, rfl, hr1, hc1⟩))
        | ((go_at_call 44; (with_reducible refine Hx2.out.mono ?_); rintro e w1 ⟨E, s, N, hNX, rfl, hr1, hc1⟩; have hs1 := (HK3.out _ hc1).2.2.1; have hs2 := (HK3.out _ hc1).2.2.2)))
    · have hb1 := NB.start ((Bk.drew H.out.bk).ch hc1 H.out.ub.sg) rfl hr1 H.out.ub.sg (E : Int)
      have hsz := hc1.size
      have HM := Lib.hid (show SyM w g gi w1.heap.size S L c vo (.pointer (some ⟨gl, 0, none⟩)) (.pointer (some ⟨gd, 0, none⟩)) E s N (w1.alloc (.cells #[.int .i64 (E : Int)] 34)) from ⟨hNX, hb1, (((Ch.refl S w).drew).trans hc1 (fun i h => .inl h)).alloc _, hsz⟩)
      clear hb1 hNX hr1 hc1
      go_wp2_with fail
      go_meet
      exact ⟨E, s, N, _, rfl, rfl, HM⟩
    · have hbk1 := (Bk.drew (H.out.bk.alloc (.cells #[.int .i64 0] 34))).ch hc1 H.out.ub.sg
      have her1 := (Bk.drew (Bk.new w 34 #[.int .i64 0])).ch hc1 (fun e => by have := H.out.ub.rd.lt _ e; omega)
      have hnb1 : NB w1 g gi w.heap.size S L _ _ 0 := ⟨hbk1, rfl, hr1, her1, H.out.ub.sg, fun e => by have := H.out.ub.rd.lt _ e; omega⟩
      have HM := Lib.hid (show SyM w g gi w.heap.size S L c vo (.pointer (some ⟨gl, 0, none⟩)) (.pointer (some ⟨gd, 0, none⟩)) E s N (w1.setCell ⟨w.heap.size, 0, none⟩ (.int .i64 (E : Int))) from ⟨hNX, hnb1.setE _, ((((Ch.refl S w).alloc _).drew).trans hc1 (fun i h => .inl h)).set (p := ⟨w.heap.size, 0, none⟩) (.inr (Nat.le_refl _)) _, Nat.le_refl _⟩)
      clear hbk1 her1 hnb1 hNX hr1 hc1 hs1 hs2
      go_wp2_with fail
      go_meet
      exact ⟨E, s, N, _, rfl, rfl, HM⟩
  case rest =>
    obtain ⟨E, s, N, ge, rfl, rfl, hM⟩ := hcut
    obtain ⟨hNX, hnb, hch, hge⟩ := hM.out
    have hce : wc.cell? ⟨ge, 0, none⟩ = some (.int .i64 (E : Int)) := hnb.er.cell 0
    have hub : UB wc base g gi S L c.out vo (if E = 0 then c.a + N else c.a) := H.out.ub.atR hch hnb.rd
    have Hub := Lib.hid hub
    have Hch := Lib.hid hch
    have Hnb := Lib.hid hnb
    clear Hx Hx2 HK HK2 HK3 HK4 k0 k7 hub hnb hch hM
    by_cases hE : ¬ E = 0
    · have hno : ∀ s' N', ¬ Met c.lits ((bnn (bitsB L)).drop c.a) s' N' := by
        rcases hNX with ⟨h, _⟩ | ⟨_, _, h, _⟩ | ⟨_, _, h, _⟩
        · exact absurd h hE
        · exact h
        · exact h
      have hbad : stC (bitsB L) c = none := by
        refine stC_no Hst.out ?_
        unfold syP
        rw [bndP_none (nxP_none hno)]
      have hEb : ((E : Int) != 0) = true := by rw [bne_iff_ne]; omega
      have hf : SyR w base g gi S L c vo (.pointer (some ⟨gl, 0, none⟩)) (.pointer (some ⟨gd, 0, none⟩)) (.returned (.int .i64 (E : Int))) wc := ⟨E, rfl, Hch.out.mono (fun i h => .inl h), .inr ⟨by omega, hbad, _, _, _, _, _, _, _, Hnb.out.bk, Hub.out⟩⟩
      have Hf := Lib.hid hf
      clear hf hbad hno hNX hE
      go_wp2_with fail
      go_ret
      exact Hf.out
    have hE : E = 0 := by omega
    have hMt : Met c.lits ((bnn (bitsB L)).drop c.a) s N := by
      rcases hNX with ⟨_, h⟩ | ⟨h, _⟩ | ⟨h, _⟩
      · exact h
      · omega
      · omega
    have hnx := nxP_some hMt
    have hs320 : s < 320 := by have := (List.getElem?_eq_some_iff.1 hMt.1).1; omega
    subst hE
    have hub2 := Hub.out
    have hnb2 := Hnb.out
    rw [if_pos rfl] at hub2 hnb2
    have Hub2 := Lib.hid hub2
    have Hnb2 := Lib.hid hnb2
    have hsy : syP c.lits c.dist c.out.length (bitsB L) c.a = (if s < 256 then retP (.lit s) else if s = 256 then retP .eob else if 285 < s then failP else
      bndP (ndP (lenB s).2) fun u => bndP (nxP c.dist) fun e => if 29 < e then failP else
      bndP (ndP (spn e 2 1).2) fun v => if c.out.length < (spn e 2 1).1 + v then failP else retP (.cp ((lenB s).1 + u) ((spn e 2 1).1 + v))) (bitsB L) (c.a + N) := by
      unfold syP
      rw [bndP_of hnx]
    have Hsy := Lib.hid hsy
    clear hNX hMt hnx hub2 hnb2 hsy Hub Hnb
    by_cases h256 : s < 256
    · have hsi : (s : Int) < 256 := by omega
      have hem := emit_any (base := base) (UInt8.ofNat s) Hnb2.out.bk Hub2.out.ow hol (Nat.le_trans H.out.ub.lo (Nat.le_of_lt Hub2.out.gl))
      have hu8 : ((UInt8.ofNat s).toNat : Int) = (s : Int) := by rw [UInt8.toNat_ofNat', Nat.mod_eq_of_lt h256]
      rw [hu8] at hem
      have Hem := Lib.hid hem
      have hwr8 : IntKind.u8.wrap (s : Int) = (s : Int) := by rw [IntKind.wrap_u8']; omega
      clear hem hu8
      go_wp2_with fail
      refine Hem.out.mono ?_
      rintro e w2 ⟨rfl, vo', hbk2, how2, hc2, hvo⟩
      have hsc := stC_lit (a' := c.a + N) (v := s) Hst.out (by rw [Hsy.out, if_pos h256]; rfl)
      have hc2' : Ch (XU S g vo) w w2 := (Hch.out.mono (fun i h => .inl h)).trans hc2 (fun i h => .inl (by rcases h with rfl | h; exact .inr (.inl rfl); exact .inr (.inr h)))
      have hSX : ∀ i, S i → ¬ (i = g ∨ vo.ownBlock = some i) := fun i hi h => by
        rcases h with rfl | h
        · exact Hub2.out.sg hi
        · exact Hub2.out.os i h hi
      have hos' : ∀ b, vo'.ownBlock = some b → ¬ S b := fun b hb hs => by
        rcases hvo with h | ⟨k, h, hk⟩
        · exact Hub2.out.os b (h ▸ hb) hs
        · rw [h] at hb; injection hb with hb; have := Hub2.out.rd.lt b hs; omega
      have hX' : ∀ i, XU S g vo' i → XU S g vo i ∨ w.heap.size ≤ i := fun i hi => by
        rcases hi with h | h | h
        · exact .inl (.inl h)
        · exact .inl (.inr (.inl h))
        · rcases hvo with h2 | ⟨k, h2, hk⟩
          · exact .inl (.inr (.inr (h2 ▸ h)))
          · rw [h2] at h; injection h with h; have := Hch.out.size; exact .inr (by omega)
      have hun : UN w2 base g gi S L { c with a := c.a + N, out := c.out ++ [UInt8.ofNat s] } vo' (.pointer (some ⟨gl, 0, none⟩)) (.pointer (some ⟨gd, 0, none⟩)) := by
        refine ⟨hbk2, ⟨Hub2.out.rd.ch hc2 hSX, Hub2.out.sg, how2, hos', H.out.ub.lo, H.out.ub.ls, hbk2.lt⟩, fun h => ?_, fun h => absurd h (by show ¬ c.st = 3; rw [Hst.out]; decide), H.out.bd⟩
        obtain ⟨o1, o2⟩ := H.out.cd h
        exact ⟨o1.ch hc2' hX', o2.ch hc2' hX'⟩
      have hf : SyR w base g gi S L c vo (.pointer (some ⟨gl, 0, none⟩)) (.pointer (some ⟨gd, 0, none⟩)) (.returned (.int .i64 0)) w2 := ⟨0, rfl, hc2', .inl ⟨rfl, _, vo', hsc, hun, by
        rcases hvo with h | ⟨k, h, hk⟩
        · exact .inl h
        · have := Hch.out.size; exact .inr ⟨k, h, by omega⟩⟩⟩
      have Hf := Lib.hid hf
      clear hf hun hX' hos' hSX hc2' hsc hbk2 how2 hc2 hvo Hem
      go_wp2
      go_ret
      exact Hf.out
    have hsi : ¬ (s : Int) < 256 := by omega
    have hinC : Ch (XU S g vo) w wc := Hch.out.mono (fun i h => .inl h)
    have HinC := Lib.hid hinC
    clear hinC
    by_cases he256 : s = 256
    · have hsb : ((s : Int) == 256) = true := by rw [he256]; rfl
      have hsc := stC_eob (a' := c.a + N) Hst.out (by rw [Hsy.out, if_neg h256, if_pos he256]; rfl)
      have hnb3 := Hnb2.out.setR (i := 3) (by omega) (.int .i64 0)
      have hcg3 : wc.cell? ⟨g, 3, none⟩ = some (.int .i64 (c.st : Int)) := Hnb2.out.bk.cell 3
      have hfg3 : wc.frozen? ⟨g, 3, none⟩ = false := Hnb2.out.bk.free 3
      have hc3 : Ch (XU S g vo) w (wc.setCell ⟨g, 3, none⟩ (.int .i64 0)) := HinC.out.set (p := ⟨g, 3, none⟩) (.inl (.inr (.inl rfl))) _
      have hun : UN (wc.setCell ⟨g, 3, none⟩ (.int .i64 0)) base g gi S L { c with a := c.a + N, st := 0 } vo (.pointer (some ⟨gl, 0, none⟩)) (.pointer (some ⟨gd, 0, none⟩)) :=
        ⟨hnb3.bk, Hub2.out.ch ((Ch.refl (fun k => k = g) wc).set (p := ⟨g, 3, none⟩) (.inl rfl) _) (fun k hk => ⟨fun e => Hub2.out.sg (hk ▸ e), fun e => own_ne Hub2.out.ow Hnb2.out.bk (by decide) (hk ▸ e)⟩), (fun h => by rcases h with h | h <;> cases h), (fun h => by cases h), ⟨H.out.bd.1, Nat.zero_le _⟩⟩
      have hf : SyR w base g gi S L c vo (.pointer (some ⟨gl, 0, none⟩)) (.pointer (some ⟨gd, 0, none⟩)) (.returned (.int .i64 0)) (wc.setCell ⟨g, 3, none⟩ (.int .i64 0)) := ⟨0, rfl, hc3, .inl ⟨rfl, _, vo, hsc, hun, .inl rfl⟩⟩
      have Hf := Lib.hid hf
      clear hf hun hc3 hnb3 hsc he256
      go_wp2_with fail
      go_ret
      exact Hf.out
    have hsb : ((s : Int) == 256) = false := by rw [beq_eq_false_iff_ne]; omega
    have hend : ∀ (W : World) (E : Int) (a' : Nat), NB W g gi ge S L #[.pointer (some ⟨gi, 0, none⟩), vo, .int .i64 0, .int .i64 (c.st : Int), .bool c.last, .int .i64 (c.left : Int), .int .i64 (c.back : Int), .pointer (some ⟨gl, 0, none⟩), .pointer (some ⟨gd, 0, none⟩)] a' E → Ch (fun i => S i ∨ i = ge) wc W → stC (bitsB L) c = none → ∀ x : Int, x ≠ 0 → SyR w base g gi S L c vo (.pointer (some ⟨gl, 0, none⟩)) (.pointer (some ⟨gd, 0, none⟩)) (.returned (.int .i64 x)) W := by
      intro W E a' hnb hc hno x hx
      refine ⟨x, rfl, HinC.out.trans hc (fun i h => by rcases h with h | rfl; exact .inl (.inl h); exact .inr hge), .inr ⟨hx, hno, a', _, _, _, _, _, _, hnb.bk, hnb.rd, Hub2.out.sg, own_ch Hub2.out.ow hc (fun i hi h => by rcases h with h | rfl; exact Hub2.out.os i hi h; exact own_ne Hub2.out.ow Hnb2.out.er (by decide) hi), Hub2.out.os, Hub2.out.lo, Hub2.out.ls, hnb.bk.lt⟩⟩
    have Hend := Lib.hid hend
    clear hend
    by_cases h285 : 285 < s
    · have hsi2 : (285 : Int) < (s : Int) := by omega
      have Hf := Lib.hid (Hend.out wc 0 _ Hnb2.out (Ch.refl _ _) (stC_no Hst.out (by rw [Hsy.out, if_neg h256, if_neg he256, if_pos h285]; rfl)) 12 (by decide))
      go_wp2_with fail
      go_ret
      exact Hf.out
    have hsi2 : ¬ (285 : Int) < (s : Int) := by omega
    have hsy2 := Hsy.out
    rw [if_neg h256, if_neg he256, if_neg h285] at hsy2
    have Hsy2 := Lib.hid hsy2
    obtain ⟨t, rfl⟩ : ∃ t, s = 257 + t := ⟨s - 257, by omega⟩
    have hsp : ∀ W, Calls Try.prog 73 #[.int .i64 (257 + (t : Int) - 257), .int .i64 4, .int .i64 3] W fun e w' => e = .returned (.tuple #[.int .i64 ((spn t 4 3).1 : Int), .int .i64 ((spn t 4 3).2 : Int)]) ∧ W = w' := fun W => by
      rw [show 257 + (t : Int) - 257 = (t : Int) by omega]
      exact span4 t 3 W (by omega) (by omega)
    have Hsp := Lib.hid hsp
    have ht : ((257 + t : Nat) : Int) - 257 = (t : Int) := by omega
    have hlb := lenB_bd (s := 257 + t) (by omega)
    clear hsy2 hsp Hsy h256 he256 h285
    go_wp2_with fail
    refine (Hsp.out wc).mono ?_
    rintro e w2 ⟨rfl, rfl⟩
    have hlv : lenB (257 + t) = if t = 28 then (258, 0) else spn t 4 3 := by
      unfold lenB
      rw [show 257 + t - 257 = t by omega]
      by_cases h : t = 28
      · rw [if_pos h, if_pos (by omega)]
      · rw [if_neg h, if_neg (by omega)]
    obtain ⟨b0, m0, hbm⟩ : ∃ b0 m0, lenB (257 + t) = (b0, m0) := ⟨_, _, rfl⟩
    rw [hbm] at hlb hlv
    simp only at hlb
    have Hbm := Lib.hid hbm
    clear hbm Hsp
    have hnd := need_b m0 Hnb2.out (by omega)
    have Hnd := Lib.hid hnd
    have Hlv := Lib.hid hlv
    clear hnd hlv
    go_upto_if 48 with (fail)
    go_cut [5, 6] (fun v5 v6 wx => v5 = .int .i64 (b0 : Int) ∧ v6 = .int .i64 (m0 : Int) ∧ wx = wc)
    case first =>
      by_cases h28 : t = 28
      · have hlv := Hlv.out
        rw [if_pos h28] at hlv
        injection hlv with e1 e2
        have hti : ((257 : Int) + (t : Int) == 285) = true := by rw [h28]; rfl
        subst e1 e2
        clear h28
        go_wp2_with fail
        go_meet
        exact ⟨rfl, rfl, rfl⟩
      · have hlv := Hlv.out
        rw [if_neg h28] at hlv
        have hti : ((257 : Int) + (t : Int) == 285) = false := by rw [beq_eq_false_iff_ne]; omega
        have e1 : (spn t 4 3).1 = b0 := by rw [← hlv]
        have e2 : (spn t 4 3).2 = m0 := by rw [← hlv]
        rw [e1, e2]
        clear h28 e1 e2 hlv
        go_wp2_with fail
        go_meet
        exact ⟨rfl, rfl, rfl⟩
    case rest =>
      obtain ⟨rfl, rfl, rfl⟩ := hcut
      go_wp2_with fail
      refine Hnd.out.mono ?_
      rintro e w3 ⟨x, a3, E3, rfl, hx, hnb3, hc3, hy3, hno3⟩
      have hce3 : w3.cell? ⟨ge, 0, none⟩ = some (.int .i64 E3) := hnb3.er.cell 0
      have hx32 : x < 2 ^ 5 := Nat.lt_of_lt_of_le hx (Nat.pow_le_pow_right (by omega) hlb.2)
      simp only [Nat.reducePow] at hx32
      have Hnb3 := Lib.hid hnb3
      have Hc3 := Lib.hid hc3
      clear hx Hnd
      by_cases hE3 : ¬ E3 = 0
      · have hno : stC (bitsB L) c = none := by
          refine stC_no Hst.out ?_
          rw [Hsy2.out, Hbm.out]
          show bndP (ndP m0) _ _ _ = none
          rw [bndP_none (hno3 hE3 (by simp))]
        have hEb : (E3 != 0) = true := by rw [bne_iff_ne]; exact hE3
        have Hf := Lib.hid (Hend.out w3 E3 a3 hnb3 hc3 hno E3 hE3)
        clear hno hnb3 hc3 hy3 hno3 hE3
        go_wp2_with fail
        go_ret
        exact Hf.out
      have hE3 : E3 = 0 := by omega
      obtain ⟨_, e3⟩ := hy3 hE3
      subst hE3
      have hsy3 := Hsy2.out
      rw [Hbm.out] at hsy3
      have hsy4 : syP c.lits c.dist c.out.length (bitsB L) c.a = (bndP (nxP c.dist) fun e => if 29 < e then failP else
        bndP (ndP (spn e 2 1).2) fun v => if c.out.length < (spn e 2 1).1 + v then failP else retP (.cp (b0 + x) ((spn e 2 1).1 + v))) (bitsB L) a3 := by
        rw [hsy3]
        show bndP (ndP m0) _ _ _ = _
        rw [bndP_of e3]
      have Hsy4 := Lib.hid hsy4
      have hXc : Ch (XU S g vo) w w3 := HinC.out.trans hc3 (fun i h => by rcases h with h | rfl; exact .inl (.inl h); exact .inr hge)
      have k8 : w3.cell? ⟨g, 8, none⟩ = some (.pointer (some ⟨gd, 0, none⟩)) := hnb3.bk.cell 8
      have k0 : w3.cell? ⟨g, 0, none⟩ = some (.pointer (some ⟨gi, 0, none⟩)) := hnb3.bk.cell 0
      have hxn := hnext_c c.dist gd gi S L a3 w3.drew (fun w' hc => Hd1.out w' ((hXc.drew).trans (hc.mono (fun i hi => .inl hi)) (fun i hi => .inl hi))) (hnb3.rd.ch ((Ch.refl (fun _ => False) w3).drew) (fun _ _ h => h)) hd320 Hdall.out Hd3.out
      have hkk : ∀ w1, Ch S w3.drew w1 → (w1.cell? ⟨g, 8, none⟩ = some (.pointer (some ⟨gd, 0, none⟩)) ∧ w1.cell? ⟨g, 0, none⟩ = some (.pointer (some ⟨gi, 0, none⟩))) ∧ (∀ v, (w1.setCell ⟨ge, 0, none⟩ v).cell? ⟨g, 8, none⟩ = some (.pointer (some ⟨gd, 0, none⟩)) ∧ (w1.setCell ⟨ge, 0, none⟩ v).cell? ⟨g, 0, none⟩ = some (.pointer (some ⟨gi, 0, none⟩))) ∧ w1.cell? ⟨ge, 0, none⟩ = some (.int .i64 0) ∧ w1.frozen? ⟨ge, 0, none⟩ = false := fun w1 hc => by
        have h1 := (Bk.drew hnb3.bk).ch hc hnb3.sg
        have h2 := (Bk.drew hnb3.er).ch hc hnb3.se
        exact ⟨⟨h1.cell 8, h1.cell 0⟩, fun v => ⟨(h1.far (p := ⟨ge, 0, none⟩) hnb3.ne v).cell 8, (h1.far (p := ⟨ge, 0, none⟩) hnb3.ne v).cell 0⟩, h2.cell 0, h2.free 0⟩
      have Hxn := Lib.hid hxn
      have HKK := Lib.hid hkk
      have HXc := Lib.hid hXc
      clear hxn hkk hXc hsy3 hsy4 e3 hy3 hno3 hnb3 hc3 Hsy2
      go_wp2_with fail
      go_region_held3 (fun w' => w'.cell? ⟨g, 8, none⟩ = some (.pointer (some ⟨gd, 0, none⟩)) ∧ w'.cell? ⟨g, 0, none⟩ = some (.pointer (some ⟨gi, 0, none⟩))) (first | (exact ⟨k8, k0⟩) | (exact (HKK.out _ hc4).1) | (exact (HKK.out _ hc4).2.1 _) | go_keep)
        (first
          | ((go_at_call 44; (with_reducible refine Hxn.out.mono ?_); rintro e w4 ⟨E4, d, N4, hNX, rfl, hr4, hc4⟩; have hs1 := (HKK.out _ hc4).2.2.1; have hs2 := (HKK.out _ hc4).2.2.2)))
      have hbk4 := (Bk.drew Hnb3.out.bk).ch hc4 Hnb3.out.sg
      have her4 := (Bk.drew Hnb3.out.er).ch hc4 Hnb3.out.se
      have hnb4 : NB w4 g gi ge S L _ _ 0 := ⟨hbk4, rfl, hr4, her4, Hnb3.out.sg, Hnb3.out.se⟩
      have hnb5 := hnb4.setE (E4 : Int)
      have hc5 : Ch (fun i => S i ∨ i = ge) wc (w4.setCell ⟨ge, 0, none⟩ (.int .i64 (E4 : Int))) := ((Hc3.out.drew).trans hc4 (fun i h => .inl (.inl h))).set (p := ⟨ge, 0, none⟩) (.inl (.inr rfl)) _
      have hce5 : (w4.setCell ⟨ge, 0, none⟩ (.int .i64 (E4 : Int))).cell? ⟨ge, 0, none⟩ = some (.int .i64 (E4 : Int)) := hnb5.er.cell 0
      have Hnb5 := Lib.hid hnb5
      have Hc5 := Lib.hid hc5
      clear hbk4 her4 hnb4 hnb5 hc5 hs1 hs2 hr4 hc4 Hxn HKK Hnb3 Hc3 k8 k0 hce3 HXc
      by_cases hE4 : ¬ E4 = 0
      · have hno : stC (bitsB L) c = none := by
          refine stC_no Hst.out ?_
          have hn : ∀ s' N', ¬ Met c.dist ((bnn (bitsB L)).drop a3) s' N' := by
            rcases hNX with ⟨h, _⟩ | ⟨_, _, h, _⟩ | ⟨_, _, h, _⟩
            · exact absurd h hE4
            · exact h
            · exact h
          rw [Hsy4.out, bndP_none (nxP_none hn)]
        have hEb : ((E4 : Int) != 0) = true := by rw [bne_iff_ne]; omega
        have Hf := Lib.hid (Hend.out _ (E4 : Int) _ Hnb5.out Hc5.out hno (E4 : Int) (by omega))
        clear hno hNX hE4
        go_wp2_with fail
        go_ret
        exact Hf.out
      have hE4 : E4 = 0 := by omega
      have hMt : Met c.dist ((bnn (bitsB L)).drop a3) d N4 := by
        rcases hNX with ⟨_, h⟩ | ⟨h, _⟩ | ⟨h, _⟩
        · exact h
        · omega
        · omega
      have hd320' : d < 320 := by have := (List.getElem?_eq_some_iff.1 hMt.1).1; omega
      subst hE4
      have hnb6' := Hnb5.out
      rw [if_pos rfl] at hnb6'
      have hnb6 : NB (w4.setCell ⟨ge, 0, none⟩ (.int .i64 0)) g gi ge S L _ _ 0 := hnb6'
      have hc5' : Ch (fun i => S i ∨ i = ge) wc (w4.setCell ⟨ge, 0, none⟩ (.int .i64 0)) := Hc5.out
      have hce6 : (w4.setCell ⟨ge, 0, none⟩ (.int .i64 0)).cell? ⟨ge, 0, none⟩ = some (.int .i64 0) := hnb6.er.cell 0
      have Hc5' := Lib.hid hc5'
      clear hnb6' hc5' hce5 Hc5
      have hsy5 := Hsy4.out
      rw [bndP_of (nxP_some hMt)] at hsy5
      have Hnb6 := Lib.hid hnb6
      have Hsy5 := Lib.hid hsy5
      clear hNX hMt hnb6 hsy5 Hnb5 Hsy4
      by_cases h29 : 29 < d
      · have hdi : (29 : Int) < (d : Int) := by omega
        have Hf := Lib.hid (Hend.out _ _ _ Hnb6.out Hc5'.out (stC_no Hst.out (by rw [Hsy5.out, if_pos h29]; rfl)) 12 (by decide))
        clear h29
        go_wp2_with fail
        go_ret
        exact Hf.out
      have hdi : ¬ (29 : Int) < (d : Int) := by omega
      have hsy6 := Hsy5.out
      rw [if_neg h29] at hsy6
      have hdb := dis_bd (s := d) (by omega)
      have hsp := fun W => span2 d 1 W (by omega) (by omega)
      obtain ⟨f0, q0, hfq⟩ : ∃ f0 q0, spn d 2 1 = (f0, q0) := ⟨_, _, rfl⟩
      rw [hfq] at hdb hsy6 hsp
      simp only at hdb hsy6 hsp
      have hnd := need_b q0 Hnb6.out (by omega)
      have Hnd := Lib.hid hnd
      have Hsy6 := Lib.hid hsy6
      have Hsp := Lib.hid hsp
      clear hnd hsy6 hsp hfq h29 Hsy5
      go_wp2_with fail
      refine (Hsp.out _).mono ?_
      rintro e w6 ⟨rfl, rfl⟩
      go_wp2_with fail
      refine Hnd.out.mono ?_
      rintro e w6 ⟨y, a6, E6, rfl, hy, hnb7, hc7, hy7, hno7⟩
      have hy13 : y < 2 ^ 13 := Nat.lt_of_lt_of_le hy (Nat.pow_le_pow_right (by omega) hdb.2.2)
      simp only [Nat.reducePow] at hy13
      have hce7 : w6.cell? ⟨ge, 0, none⟩ = some (.int .i64 E6) := hnb7.er.cell 0
      have hfe7 : w6.frozen? ⟨ge, 0, none⟩ = false := hnb7.er.free 0
      have hc8 := Hc5'.out.trans hc7 (fun i h => .inl h)
      have Hc8 := Lib.hid hc8
      have Hnb7 := Lib.hid hnb7
      obtain ⟨Ao, co, hvo, _, _⟩ := own_form Hub2.out.ow
      have hcv : w6.cell? ⟨g, 1, none⟩ = some (.slice Ao c.out.length co) := (hnb7.bk.cell 1).trans (by rw [← hvo]; rfl)
      clear hc7 hc8 Hc5' Hnd Hsp hy hce6 hnb7
      by_cases hE6 : ¬ E6 = 0
      · have hno : stC (bitsB L) c = none := by
          refine stC_no Hst.out ?_
          rw [Hsy6.out]
          show bndP (ndP q0) _ _ _ = none
          rw [bndP_none (hno7 hE6 (by simp))]
        have hEb : (E6 == 0) = false := by rw [beq_eq_false_iff_ne]; exact hE6
        have Hf := Lib.hid (Hend.out w6 E6 a6 Hnb7.out Hc8.out hno E6 hE6)
        clear hno hy7 hno7 hE6
        go_wp2_with fail
        go_ret
        exact Hf.out
      have hE6 : E6 = 0 := by omega
      obtain ⟨_, e7⟩ := hy7 hE6
      subst hE6
      have hsy7 : syP c.lits c.dist c.out.length (bitsB L) c.a = if c.out.length < f0 + y then none else some (.cp (b0 + x) (f0 + y), a6) := by
        rw [Hsy6.out]
        show bndP (ndP q0) _ _ _ = _
        rw [bndP_of e7]
        split <;> rfl
      have Hsy7 := Lib.hid hsy7
      clear hsy7 e7 hy7 hno7 Hsy6
      by_cases hfar : c.out.length < f0 + y
      · have hsy8 := Hsy7.out
        rw [if_pos hfar] at hsy8
        have hfi : (c.out.length : Int) < (f0 : Int) + (y : Int) := by omega
        have hnb8 := Hnb7.out.setE 12
        have hce8 : (w6.setCell ⟨ge, 0, none⟩ (.int .i64 12)).cell? ⟨ge, 0, none⟩ = some (.int .i64 12) := hnb8.er.cell 0
        have Hf := Lib.hid (Hend.out _ 12 a6 hnb8 (Hc8.out.set (p := ⟨ge, 0, none⟩) (.inl (.inr rfl)) _) (stC_no Hst.out hsy8) 12 (by decide))
        clear hsy8 hfar hnb8
        go_wp2_with fail
        go_ret
        exact Hf.out
      have hsy8 := Hsy7.out
      rw [if_neg hfar] at hsy8
      have hfi : ¬ (c.out.length : Int) < (f0 : Int) + (y : Int) := by omega
      have hsc := stC_cp Hst.out hsy8
      have hnb8 := Hnb7.out.setR (i := 3) (by omega) (.int .i64 3)
      have hnb9 := hnb8.setR (i := 5) (by omega) (.int .i64 ((b0 : Int) + (x : Int)))
      have hnbA := hnb9.setR (i := 6) (by omega) (.int .i64 ((f0 : Int) + (y : Int)))
      have k1 : w6.cell? ⟨g, 3, none⟩ = some (.int .i64 (c.st : Int)) := Hnb7.out.bk.cell 3
      have k2 : w6.frozen? ⟨g, 3, none⟩ = false := Hnb7.out.bk.free 3
      have k3 : (w6.setCell ⟨g, 3, none⟩ (.int .i64 3)).cell? ⟨g, 5, none⟩ = some (.int .i64 (c.left : Int)) := hnb8.bk.cell 5
      have k4 : (w6.setCell ⟨g, 3, none⟩ (.int .i64 3)).frozen? ⟨g, 5, none⟩ = false := hnb8.bk.free 5
      have k5 : ((w6.setCell ⟨g, 3, none⟩ (.int .i64 3)).setCell ⟨g, 5, none⟩ (.int .i64 ((b0 : Int) + (x : Int)))).cell? ⟨g, 6, none⟩ = some (.int .i64 (c.back : Int)) := hnb9.bk.cell 6
      have k6 : ((w6.setCell ⟨g, 3, none⟩ (.int .i64 3)).setCell ⟨g, 5, none⟩ (.int .i64 ((b0 : Int) + (x : Int)))).frozen? ⟨g, 6, none⟩ = false := hnb9.bk.free 6
      have k7 : (((w6.setCell ⟨g, 3, none⟩ (.int .i64 3)).setCell ⟨g, 5, none⟩ (.int .i64 ((b0 : Int) + (x : Int)))).setCell ⟨g, 6, none⟩ (.int .i64 ((f0 : Int) + (y : Int)))).cell? ⟨ge, 0, none⟩ = some (.int .i64 0) := hnbA.er.cell 0
      have hcA : Ch (fun i => (S i ∨ i = ge) ∨ i = g) wc (((w6.setCell ⟨g, 3, none⟩ (.int .i64 3)).setCell ⟨g, 5, none⟩ (.int .i64 ((b0 : Int) + (x : Int)))).setCell ⟨g, 6, none⟩ (.int .i64 ((f0 : Int) + (y : Int)))) :=
        (((Hc8.out.mono (fun i h => .inl h)).set (p := ⟨g, 3, none⟩) (.inl (.inr rfl)) _).set (p := ⟨g, 5, none⟩) (.inl (.inr rfl)) _).set (p := ⟨g, 6, none⟩) (.inl (.inr rfl)) _
      have hcX : Ch (XU S g vo) w (((w6.setCell ⟨g, 3, none⟩ (.int .i64 3)).setCell ⟨g, 5, none⟩ (.int .i64 ((b0 : Int) + (x : Int)))).setCell ⟨g, 6, none⟩ (.int .i64 ((f0 : Int) + (y : Int)))) :=
        HinC.out.trans hcA (fun i h => by rcases h with (h | rfl) | rfl; exact .inl (.inl h); exact .inr hge; exact .inl (.inr (.inl rfl)))
      have hbkA : Bk (((w6.setCell ⟨g, 3, none⟩ (.int .i64 3)).setCell ⟨g, 5, none⟩ (.int .i64 ((b0 : Int) + (x : Int)))).setCell ⟨g, 6, none⟩ (.int .i64 ((f0 : Int) + (y : Int)))) g 95 #[.pointer (some ⟨gi, 0, none⟩), vo, .int .i64 0, .int .i64 3, .bool c.last, .int .i64 ((b0 : Int) + (x : Int)), .int .i64 ((f0 : Int) + (y : Int)), .pointer (some ⟨gl, 0, none⟩), .pointer (some ⟨gd, 0, none⟩)] := hnbA.bk
      rw [show (b0 : Int) + (x : Int) = ((b0 + x : Nat) : Int) by omega, show (f0 : Int) + (y : Int) = ((f0 + y : Nat) : Int) by omega] at hbkA
      have hun : UN (((w6.setCell ⟨g, 3, none⟩ (.int .i64 3)).setCell ⟨g, 5, none⟩ (.int .i64 ((b0 : Int) + (x : Int)))).setCell ⟨g, 6, none⟩ (.int .i64 ((f0 : Int) + (y : Int)))) base g gi S L { c with a := a6, st := 3, left := b0 + x, back := f0 + y } vo (.pointer (some ⟨gl, 0, none⟩)) (.pointer (some ⟨gd, 0, none⟩)) := by
        rw [show (b0 : Int) + (x : Int) = ((b0 + x : Nat) : Int) by omega, show (f0 : Int) + (y : Int) = ((f0 + y : Nat) : Int) by omega] at hnbA hcA hcX ⊢
        refine ⟨hbkA, ⟨hnbA.rd, hnbA.sg, own_ch Hub2.out.ow hcA (fun i hi h => ?_), Hub2.out.os, Hub2.out.lo, Hub2.out.ls, hnbA.bk.lt⟩, fun _ => ?_, fun _ => ⟨by show 1 ≤ f0 + y; omega, by show f0 + y ≤ c.out.length; omega⟩, ⟨by show b0 + x ≤ 65535; omega, by show 3 ≤ 4; omega⟩⟩
        · rcases h with (h | rfl) | rfl
          · exact Hub2.out.os i hi h
          · exact own_ne Hub2.out.ow Hnb2.out.er (by decide) hi
          · exact own_ne Hub2.out.ow Hnb2.out.bk (by decide) hi
        · obtain ⟨o1, o2⟩ := H.out.cd (.inl Hst.out)
          exact ⟨o1.ch hcX (fun i h => .inl h), o2.ch hcX (fun i h => .inl h)⟩
      have hf : SyR w base g gi S L c vo (.pointer (some ⟨gl, 0, none⟩)) (.pointer (some ⟨gd, 0, none⟩)) (.returned (.int .i64 0)) (((w6.setCell ⟨g, 3, none⟩ (.int .i64 3)).setCell ⟨g, 5, none⟩ (.int .i64 ((b0 : Int) + (x : Int)))).setCell ⟨g, 6, none⟩ (.int .i64 ((f0 : Int) + (y : Int)))) := ⟨0, rfl, hcX, .inl ⟨rfl, _, vo, hsc, hun, .inl rfl⟩⟩
      have Hf := Lib.hid hf
      clear hf hun hbkA hcX hcA hnb8 hnb9 hnbA hsc hsy8 hfar Hnb7 hvo
      go_wp2_with fail
      go_ret
      exact Hf.out
end Go.Proofs.Ytnedboomhbdecaa
