/- Contracts of package inflate: step. -/
import Derived.Test.YtnedboomhbdecaaInfS
import Derived.Test.YtnedboomhbdecaaInfQ
import Derived.Scope
import Derived.WalkMore
import Derived.ScopeJumps
import Derived.StillTailTactics
namespace Go.Proofs.Ytnedboomhbdecaa
open Go.RowKit
attribute [local go_sem ↓] Go.wp_at_zero Go.wp_at_succ

/-- As Q; by a goto to one of two labels: what holds there. -/
def Exit.jump2 (l1 l2 : Nat) (J1 J2 : Act → World → Prop) (Q : Exit → Act → World → Prop) : Exit → Act → World → Prop
  | .goto l, a, w => (l = l1 ∧ J1 a w) ∨ (l = l2 ∧ J2 a w)
  | e, a, w => Q e a w
/-- A scope whose run jumps to two labels; what every pass lowers is a number beside the state. -/
theorem wp_scope_two {P : Program} {a : Act} {w : World} {Q : Exit → Act → World → Prop} {c r1 r2 : Code} (l1 l2 : Nat) (J1 J2 : Nat → Act → World → Prop) (hf1 : findLabel c l1 = some r1) (hf2 : findLabel c l2 = some r2)
    (n0 : Nat) (first : c.wp P (Exit.jump2 l1 l2 (fun a w => ∃ k, k < n0 ∧ J1 k a w) (fun a w => ∃ k, k < n0 ∧ J2 k a w) Q) a w)
    (pass1 : ∀ n a w, J1 n a w → r1.wp P (Exit.jump2 l1 l2 (fun a w => ∃ k, k < n ∧ J1 k a w) (fun a w => ∃ k, k < n ∧ J2 k a w) Q) a w)
    (pass2 : ∀ n a w, J2 n a w → r2.wp P (Exit.jump2 l1 l2 (fun a w => ∃ k, k < n ∧ J1 k a w) (fun a w => ∃ k, k < n ∧ J2 k a w) Q) a w) : (Code.scope c).wp P Q a w := by
  intro b k cs
  have hg : ∀ l r, findLabel c l = some r → gotoIn l (.inScope c :: k) = some (.code r :: .inScope c :: k) := fun l r hf => by simp [gotoIn, hf]
  have key : ∀ n, (∀ a w, J1 n a w → ∃ e a' w', Q e a' w' ∧ Arrives P (lone (b.at a (.code r1 :: .inScope c :: k)) cs w) b k cs e a' w') ∧ (∀ a w, J2 n a w → ∃ e a' w', Q e a' w' ∧ Arrives P (lone (b.at a (.code r2 :: .inScope c :: k)) cs w) b k cs e a' w') := by
    intro n
    induction n using Nat.strongRecOn with
    | _ n ih =>
      refine ⟨fun a w hJ => ?_, fun a w hJ => ?_⟩
      · obtain ⟨e, a₁, w₁, hq, harr⟩ := pass1 n a w hJ b (.inScope c :: k) cs
        cases e with
        | normal => exact ⟨.normal, a₁, w₁, hq, Steps.trans harr (.one step_inScope)⟩
        | exit id => exact ⟨.exit id, a₁, w₁, hq, fun k' hk => harr k' (by simp [exitTo, hk])⟩
        | goto l' =>
          rcases hq with ⟨rfl, q, hlt, hJ'⟩ | ⟨rfl, q, hlt, hJ'⟩
          · obtain ⟨e₂, a₂, w₂, hq₂, harr₂⟩ := (ih q hlt).1 a₁ w₁ hJ'
            exact ⟨e₂, a₂, w₂, hq₂, .of_steps (harr _ (hg _ _ hf1)) harr₂⟩
          · obtain ⟨e₂, a₂, w₂, hq₂, harr₂⟩ := (ih q hlt).2 a₁ w₁ hJ'
            exact ⟨e₂, a₂, w₂, hq₂, .of_steps (harr _ (hg _ _ hf2)) harr₂⟩
        | ret => exact ⟨_, a₁, w₁, hq, harr⟩
        | panic ch => exact ⟨_, a₁, w₁, hq, harr⟩
        | outgrown => exact ⟨_, a₁, w₁, hq, harr⟩
      · obtain ⟨e, a₁, w₁, hq, harr⟩ := pass2 n a w hJ b (.inScope c :: k) cs
        cases e with
        | normal => exact ⟨.normal, a₁, w₁, hq, Steps.trans harr (.one step_inScope)⟩
        | exit id => exact ⟨.exit id, a₁, w₁, hq, fun k' hk => harr k' (by simp [exitTo, hk])⟩
        | goto l' =>
          rcases hq with ⟨rfl, q, hlt, hJ'⟩ | ⟨rfl, q, hlt, hJ'⟩
          · obtain ⟨e₂, a₂, w₂, hq₂, harr₂⟩ := (ih q hlt).1 a₁ w₁ hJ'
            exact ⟨e₂, a₂, w₂, hq₂, .of_steps (harr _ (hg _ _ hf1)) harr₂⟩
          · obtain ⟨e₂, a₂, w₂, hq₂, harr₂⟩ := (ih q hlt).2 a₁ w₁ hJ'
            exact ⟨e₂, a₂, w₂, hq₂, .of_steps (harr _ (hg _ _ hf2)) harr₂⟩
        | ret => exact ⟨_, a₁, w₁, hq, harr⟩
        | panic ch => exact ⟨_, a₁, w₁, hq, harr⟩
        | outgrown => exact ⟨_, a₁, w₁, hq, harr⟩
  obtain ⟨e, a₁, w₁, hq, harr⟩ := first b (.inScope c :: k) cs
  cases e with
  | normal => exact ⟨.normal, a₁, w₁, hq, .head step_scope (Steps.trans harr (.one step_inScope))⟩
  | exit id => exact ⟨.exit id, a₁, w₁, hq, fun k' hk => .head step_scope (harr k' (by simp [exitTo, hk]))⟩
  | goto l' =>
    rcases hq with ⟨rfl, q, _, hJ'⟩ | ⟨rfl, q, _, hJ'⟩
    · obtain ⟨e₂, a₂, w₂, hq₂, harr₂⟩ := (key q).1 a₁ w₁ hJ'
      exact ⟨e₂, a₂, w₂, hq₂, .of_steps (.head step_scope (harr _ (hg _ _ hf1))) harr₂⟩
    · obtain ⟨e₂, a₂, w₂, hq₂, harr₂⟩ := (key q).2 a₁ w₁ hJ'
      exact ⟨e₂, a₂, w₂, hq₂, .of_steps (.head step_scope (harr _ (hg _ _ hf2))) harr₂⟩
  | ret => exact ⟨_, a₁, w₁, hq, .of_steps (.one step_scope) harr⟩
  | panic ch => exact ⟨_, a₁, w₁, hq, .of_steps (.one step_scope) harr⟩
  | outgrown => exact ⟨_, a₁, w₁, hq, .of_steps (.one step_scope) harr⟩
set_option maxRecDepth 100000 in
def FrA (g m : Nat) (a : Act) : Prop := ∃ u5 u6 u7 u8 u9 u10 u11 u12 u13 u14 u15 u16 u17 u18 u19 u20 u21 u22 u23 u24 u25 u26 u27 u28 u29 u30 u31 u32 u33 u34 u35 u36 u37 u38 u39 u40 u41 u42 u43 u44 u45 u46 u47 u48 u49 u50 u51 u52 u53 u54 u55 u56 u57 u58 u59 u60 u61 u62 u63 u64 u65 u66 u67 u68 u69 u70 u71 u72 u73 u74 u75 u76 u77 u78 u79 u80 u81 u82 u83 u84 u85 u86 u87 u88 u89 u90 u91 u92 u93 u94 u95 u96 u97 u98 u99 u100 u101 u102 u103 u104 u105 u106 u107 u108 u109 u110 u111 u112 u113 u114 u115 u116 u117 u118 u119 u120 u121 u122 u123 u124 u125 u126 u127 u128 u129 u130 u131 u132 u133 u134 u135 u136 u137 u138 u139 u140 u141 u142 u143 u144 u145 : Value, a = { tmps := #[.pointer (some ⟨g, 0, none⟩), .int .i64 (m : Int), undef, undef, .int .i64 0, u5, u6, u7, u8, u9, u10, u11, u12, u13, u14, u15, u16, u17, u18, u19, u20, u21, u22, u23, u24, u25, u26, u27, u28, u29, u30, u31, u32, u33, u34, u35, u36, u37, u38, u39, u40, u41, u42, u43, u44, u45, u46, u47, u48, u49, u50, u51, u52, u53, u54, u55, u56, u57, u58, u59, u60, u61, u62, u63, u64, u65, u66, u67, u68, u69, u70, u71, u72, u73, u74, u75, u76, u77, u78, u79, u80, u81, u82, u83, u84, u85, u86, u87, u88, u89, u90, u91, u92, u93, u94, u95, u96, u97, u98, u99, u100, u101, u102, u103, u104, u105, u106, u107, u108, u109, u110, u111, u112, u113, u114, u115, u116, u117, u118, u119, u120, u121, u122, u123, u124, u125, u126, u127, u128, u129, u130, u131, u132, u133, u134, u135, u136, u137, u138, u139, u140, u141, u142, u143, u144, u145], defers := [] }
def FrB (g m : Nat) (k s E : Int) (a : Act) : Prop := ∃ u8 u9 u10 u11 u12 u13 u14 u15 u16 u17 u18 u19 u20 u21 u22 u23 u24 u25 u26 u27 u28 u29 u30 u31 u32 u33 u34 u35 u36 u37 u38 u39 u40 u41 u42 u43 u44 u45 u46 u47 u48 u49 u50 u51 u52 u53 u54 u55 u56 u57 u58 u59 u60 u61 u62 u63 u64 u65 u66 u67 u68 u69 u70 u71 u72 u73 u74 u75 u76 u77 u78 u79 u80 u81 u82 u83 u84 u85 u86 u87 u88 u89 u90 u91 u92 u93 u94 u95 u96 u97 u98 u99 u100 u101 u102 u103 u104 u105 u106 u107 u108 u109 u110 u111 u112 u113 u114 u115 u116 u117 u118 u119 u120 u121 u122 u123 u124 u125 u126 u127 u128 u129 u130 u131 u132 u133 u134 u135 u136 u137 u138 u139 u140 u141 u142 u143 u144 u145 : Value, a = { tmps := #[.pointer (some ⟨g, 0, none⟩), .int .i64 (m : Int), undef, undef, .int .i64 0, .int .i64 k, .int .i64 s, .int .i64 E, u8, u9, u10, u11, u12, u13, u14, u15, u16, u17, u18, u19, u20, u21, u22, u23, u24, u25, u26, u27, u28, u29, u30, u31, u32, u33, u34, u35, u36, u37, u38, u39, u40, u41, u42, u43, u44, u45, u46, u47, u48, u49, u50, u51, u52, u53, u54, u55, u56, u57, u58, u59, u60, u61, u62, u63, u64, u65, u66, u67, u68, u69, u70, u71, u72, u73, u74, u75, u76, u77, u78, u79, u80, u81, u82, u83, u84, u85, u86, u87, u88, u89, u90, u91, u92, u93, u94, u95, u96, u97, u98, u99, u100, u101, u102, u103, u104, u105, u106, u107, u108, u109, u110, u111, u112, u113, u114, u115, u116, u117, u118, u119, u120, u121, u122, u123, u124, u125, u126, u127, u128, u129, u130, u131, u132, u133, u134, u135, u136, u137, u138, u139, u140, u141, u142, u143, u144, u145], defers := [] }

/-- An unpacker on its way. -/
def StI (w0 : World) (base g gi : Nat) (S : Nat → Prop) (L : List UInt8) (c0 : Cf) (m n : Nat) (w : World) : Prop :=
  ∃ c vo v7 v8, UN w base g gi S L c vo v7 v8 ∧ Rn (bitsB L) c0 c ∧ c.out.length ≤ m ∧ Below base w0 w ∧ n = 2 * meC (bitsB L) c + 1
theorem UN.cells {w : World} {base g gi : Nat} {S : Nat → Prop} {L : List UInt8} {c : Cf} {vo v7 v8 : Value} (h : UN w base g gi S L c vo v7 v8) : (w.cell? ⟨g, 0, none⟩ = some (.pointer (some ⟨gi, 0, none⟩)) ∧ w.cell? ⟨g, 1, none⟩ = some vo ∧ w.cell? ⟨g, 2, none⟩ = some (.int .i64 0) ∧ w.cell? ⟨g, 3, none⟩ = some (.int .i64 (c.st : Int)) ∧ w.cell? ⟨g, 4, none⟩ = some (.bool c.last) ∧ w.cell? ⟨g, 5, none⟩ = some (.int .i64 (c.left : Int)) ∧ w.cell? ⟨g, 6, none⟩ = some (.int .i64 (c.back : Int))) ∧ (w.frozen? ⟨g, 3, none⟩ = false ∧ w.frozen? ⟨g, 4, none⟩ = false ∧ w.frozen? ⟨g, 5, none⟩ = false) :=
  ⟨⟨h.bk.cell 0, h.bk.cell 1, h.bk.cell 2, h.bk.cell 3, h.bk.cell 4, h.bk.cell 5, h.bk.cell 6⟩, h.bk.free 3, h.bk.free 4, h.bk.free 5⟩
/-- Draws change nothing. -/
theorem UB.drewN {w : World} {base g gi : Nat} {S : Nat → Prop} {L out : List UInt8} {vo : Value} {a : Nat} (h : UB w base g gi S L out vo a) (q : Nat) : UB (w.drewN q) base g gi S L out vo a := h.ch ((Ch.refl (fun _ => False) w).drewN q) (fun _ h => h.elim)
theorem UN.drewN {w : World} {base g gi : Nat} {S : Nat → Prop} {L : List UInt8} {c : Cf} {vo v7 v8 : Value} (h : UN w base g gi S L c vo v7 v8) (q : Nat) : UN (w.drewN q) base g gi S L c vo v7 v8 :=
  ⟨h.bk.drewN q, h.ub.drewN q, fun hs => by obtain ⟨o1, o2⟩ := h.cd hs; exact ⟨o1.ch ((Ch.refl _ w).drewN q) (fun i h => .inl h), o2.ch ((Ch.refl _ w).drewN q) (fun i h => .inl h)⟩, h.iv, h.bd⟩
/-- The state changes. -/
theorem UN.setSt {w : World} {base g gi : Nat} {S : Nat → Prop} {L : List UInt8} {c : Cf} {vo v7 v8 : Value} (h : UN w base g gi S L c vo v7 v8) (k : Nat) (hk : k = 0 ∨ k = 4 ∨ (k = 2 ∧ c.st = 3)) : UN (w.setCell ⟨g, 3, none⟩ (.int .i64 (k : Int))) base g gi S L { c with st := k } vo v7 v8 := by
  have hg : vo.ownBlock ≠ some g := own_ne h.ub.ow h.bk (by decide)
  have hc : Ch (fun i => i = g) w (w.setCell ⟨g, 3, none⟩ (.int .i64 (k : Int))) := (Ch.refl (fun i => i = g) w).set (p := ⟨g, 3, none⟩) (.inl rfl) _
  refine ⟨h.bk.set 3 _, h.ub.ch hc (fun i hi => by subst hi; exact ⟨h.ub.sg, hg⟩), fun hs => ?_, fun h3 => ?_, h.bd.1, ?_⟩
  · have hs' : c.st = 2 ∨ c.st = 3 := by rcases hk with rfl | rfl | ⟨rfl, h3⟩ <;> simp_all
    obtain ⟨o1, o2⟩ := h.cd hs'
    have hc' : Ch (XU S g vo) w (w.setCell ⟨g, 3, none⟩ (.int .i64 (k : Int))) := hc.mono (fun i hi => .inr (.inl hi))
    exact ⟨o1.ch hc' (fun i h => .inl h), o2.ch hc' (fun i h => .inl h)⟩
  · rcases hk with rfl | rfl | ⟨rfl, _⟩ <;> cases h3
  · show k ≤ 4
    rcases hk with rfl | rfl | ⟨rfl, _⟩ <;> omega
theorem UN.bel {w w' : World} {base g gi : Nat} {S : Nat → Prop} {L : List UInt8} {c : Cf} {vo v7 v8 : Value} (h : UN w base g gi S L c vo v7 v8) (hc : Ch (XU S g vo) w w') (hb : base ≤ w.heap.size) : Below base w w' := hc.below hb h.ub.low
/-- A byte was put out, and one less is left. -/
theorem UN.put {w w1 w2 : World} {base g gi a' : Nat} {S : Nat → Prop} {L : List UInt8} {c : Cf} {vo vo' v7 v8 : Value} {u : UInt8} (h : UN w base g gi S L c vo v7 v8) (hr : RdS w1 S gi L a') (hc : Ch S w w1)
    (hb2 : Bk w2 g 95 #[.pointer (some ⟨gi, 0, none⟩), vo', .int .i64 0, .int .i64 (c.st : Int), .bool c.last, .int .i64 (c.left : Int), .int .i64 (c.back : Int), v7, v8])
    (ho2 : w2.ownsRow base 5 1 vo' (c.out ++ [u]).length (bys (c.out ++ [u]))) (hc2 : Ch (fun k => k = g ∨ vo.ownBlock = some k) w1 w2) (hv : vo'.ownBlock = vo.ownBlock ∨ ∃ k, vo'.ownBlock = some k ∧ w1.heap.size ≤ k) :
    UN (w2.setCell ⟨g, 5, none⟩ (.int .i64 ((c.left - 1 : Nat) : Int))) base g gi S L { c with a := a', out := c.out ++ [u], left := c.left - 1 } vo' v7 v8 ∧ Ch (XU S g vo) w (w2.setCell ⟨g, 5, none⟩ (.int .i64 ((c.left - 1 : Nat) : Int))) := by
  have hg : vo'.ownBlock ≠ some g := own_ne ho2 hb2 (by decide)
  have hcA : Ch (XU S g vo) w w2 := (hc.mono (fun i hi => .inl hi)).trans hc2 (fun i hi => .inl (.inr hi))
  have hcB : Ch (XU S g vo) w (w2.setCell ⟨g, 5, none⟩ (.int .i64 ((c.left - 1 : Nat) : Int))) := hcA.set (p := ⟨g, 5, none⟩) (.inl (.inr (.inl rfl))) _
  have hc3 : Ch (fun i => i = g) w2 (w2.setCell ⟨g, 5, none⟩ (.int .i64 ((c.left - 1 : Nat) : Int))) := (Ch.refl (fun i => i = g) w2).set (p := ⟨g, 5, none⟩) (.inl rfl) _
  have hlt1 := hr.lt
  have hlt := h.ub.rd.lt
  have hos : ∀ b, vo'.ownBlock = some b → ¬ S b := fun b hb hS => by
    rcases hv with e | ⟨k, e, hk⟩
    · exact h.ub.os b (by rw [← e]; exact hb) hS
    · rw [e] at hb
      injection hb with hb
      subst hb
      have := hlt1 _ hS
      omega
  have hrd2 : RdS w2 S gi L a' := hr.ch hc2 (fun i hi he => by
    rcases he with rfl | he
    · exact h.ub.sg hi
    · exact h.ub.os i he hi)
  refine ⟨⟨hb2.set 5 _, ⟨hrd2.ch hc3 (fun i hi he => by subst he; exact h.ub.sg hi), h.ub.sg, own_ch ho2 hc3 (fun i hi he => by subst he; exact hg hi), hos, h.ub.lo, h.ub.ls, Nat.lt_of_lt_of_le h.ub.gl hcB.size⟩, fun hs => ?_, fun h3 => ?_, ?_, h.bd.2⟩, hcB⟩
  · obtain ⟨o1, o2⟩ := h.cd hs
    have hX : ∀ i, XU S g vo' i → XU S g vo i ∨ w.heap.size ≤ i := fun i hi => by
      rcases hi with hi | hi | hi
      · exact .inl (.inl hi)
      · exact .inl (.inr (.inl hi))
      · rcases hv with e | ⟨k, e, hk⟩
        · exact .inl (.inr (.inr (by rw [← e]; exact hi)))
        · rw [e] at hi
          injection hi with hi
          subst hi
          exact .inr (Nat.le_trans hc.size hk)
    exact ⟨o1.ch hcB hX, o2.ch hcB hX⟩
  · have := h.iv h3
    simp only [List.length_append, List.length_singleton]
    omega
  · have := h.bd.1
    show c.left - 1 ≤ 65535
    omega
theorem UN.ue {w : World} {base g gi : Nat} {S : Nat → Prop} {L : List UInt8} {c : Cf} {vo v7 v8 : Value} (h : UN w base g gi S L c vo v7 v8) : UE w base g gi S L c.out vo := ⟨_, _, _, _, _, _, _, h.bk, h.ub⟩
/-- The stream moves, and the unpacker's own cells change. -/
theorem UB.mk2 {w w' : World} {base g gi a a' : Nat} {S : Nat → Prop} {L out : List UInt8} {vo : Value} (h : UB w base g gi S L out vo a) (hg : vo.ownBlock ≠ some g) (hc : Ch (fun i => S i ∨ i = g) w w') (hr : RdS w' S gi L a') : UB w' base g gi S L out vo a' :=
  ⟨hr, h.sg, own_ch h.ow hc (fun i hi e => by rcases e with e | rfl; exact h.os i hi e; exact hg hi), h.os, h.lo, h.ls, Nat.lt_of_lt_of_le h.gl hc.size⟩
theorem rmark_eq (g : Nat) (S : Nat → Prop) (l : List UInt8) (a : Nat) (w : World) (h : RdS w S g l a) : Calls Try.prog 35 #[.pointer (some ⟨g, 0, none⟩)] w fun e w' => e = .returned (.int .i64 a) ∧ w' = w :=
  (rmark_any g S l a w h).mono fun _ _ ⟨h1, h2⟩ => ⟨h1, h2.symm⟩
section
variable {B : List Bool} {c : Cf} {a' : Nat}
theorem stC_end (h : c.st = 0) (hl : c.last = true) : stC B c = some { c with st := 4 } := by unfold stC; rw [if_pos h, if_pos hl]
theorem stC_hs (h : c.st = 0) (hl : ¬ c.last = true) {la : Bool} {n : Nat} (hh : hdP B c.a = some ((la, .st n), a')) : stC B c = some { c with a := a', st := 1, last := la, left := n } := by unfold stC; rw [if_pos h, if_neg hl, hh]
theorem stC_hc (h : c.st = 0) (hl : ¬ c.last = true) {la : Bool} {l d : List Int} (hh : hdP B c.a = some ((la, .co l d), a')) : stC B c = some { c with a := a', st := 2, last := la, lits := l, dist := d } := by unfold stC; rw [if_pos h, if_neg hl, hh]
theorem stC_hn (h : c.st = 0) (hl : ¬ c.last = true) (hh : hdP B c.a = none) : stC B c = none := by unfold stC; rw [if_pos h, if_neg hl, hh]
theorem stC_z1 (h : c.st = 1) (hl : c.left = 0) : stC B c = some { c with st := 0 } := by unfold stC; rw [if_neg (by omega), if_pos h, if_pos hl]
theorem stC_b1 (h : c.st = 1) (hl : ¬ c.left = 0) {v : Nat} (hh : ndP 8 B c.a = some (v, a')) : stC B c = some { c with a := a', out := c.out ++ [UInt8.ofNat v], left := c.left - 1 } := by unfold stC; rw [if_neg (by omega), if_pos h, if_neg hl, hh]
theorem stC_n1 (h : c.st = 1) (hl : ¬ c.left = 0) (hh : ndP 8 B c.a = none) : stC B c = none := by unfold stC; rw [if_neg (by omega), if_pos h, if_neg hl, hh]
theorem stC_z3 (h : c.st = 3) (hl : c.left = 0) : stC B c = some { c with st := 2 } := by unfold stC; rw [if_neg (by omega), if_neg (by omega), if_neg (by omega), if_pos h, if_pos hl]
theorem stC_c3 (h : c.st = 3) (hl : ¬ c.left = 0) : stC B c = some { c with out := c.out ++ [c.out[c.out.length - c.back]?.getD 0], left := c.left - 1 } := by unfold stC; rw [if_neg (by omega), if_neg (by omega), if_neg (by omega), if_pos h, if_neg hl]
end
theorem wrap8 (v : Nat) (h : v < 256) : IntKind.u8.wrap (v : Int) = ((UInt8.ofNat v).toNat : Int) := by
  have : (UInt8.ofNat v).toNat = v := by simp; omega
  rw [this]
  exact IntWalk.u8_in _ (by omega)
theorem peek8 {L : List UInt8} {a : Nat} (h : a + 8 ≤ 8 * L.length) : peekN L a 8 < 256 := (ndP_in (nd_yes h)).2
def ErI (w0 : World) (base g gi : Nat) (S : Nat → Prop) (L : List UInt8) (c0 : Cf) (m : Nat) (w : World) : Prop :=
  ∃ c vo, UE w base g gi S L c.out vo ∧ Rn (bitsB L) c0 c ∧ c.out.length < m ∧ c.st ≠ 4 ∧ stC (bitsB L) c = none ∧ Below base w0 w
def StR (w0 : World) (base g gi : Nat) (S : Nat → Prop) (L : List UInt8) (c0 : Cf) (m : Nat) (e : Ending) (w : World) : Prop :=
  ∃ E : Int, e = .returned (.int .i64 E) ∧ ((E = 0 ∧ ∃ c vo v7 v8, UN w base g gi S L c vo v7 v8 ∧ Rn (bitsB L) c0 c ∧ c.out.length ≤ m ∧ (m ≤ c.out.length ∨ c.st = 4) ∧ Below base w0 w) ∨ (E ≠ 0 ∧ ErI w0 base g gi S L c0 m w))
def J2s (w0 : World) (base g gi : Nat) (S : Nat → Prop) (L : List UInt8) (c0 : Cf) (m n : Nat) (E : Int) (w : World) : Prop :=
  (E = 0 ∧ ∃ k, k < n ∧ StI w0 base g gi S L c0 m k w) ∨ (E ≠ 0 ∧ ErI w0 base g gi S L c0 m w)
theorem toJ2 {w0 w3 : World} {base g gi m n : Nat} {S : Nat → Prop} {L : List UInt8} {c c' : Cf} {vo : Value} {E : Int} (hgo : ∀ c'', stC (bitsB L) c' = some c'' → 2 * meC (bitsB L) c'' + 2 < n ∧ c''.out.length ≤ m) (hn0 : 0 < n) (hrn : Rn (bitsB L) c c') (hlt : ¬ m ≤ c'.out.length) (h4 : c'.st ≠ 4) (hb : Below base w0 w3)
    (hJ : (E = 0 ∧ ∃ c'' vo'' y7 y8, stC (bitsB L) c' = some c'' ∧ UN w3 base g gi S L c'' vo'' y7 y8) ∨ (E ≠ 0 ∧ stC (bitsB L) c' = none ∧ UE w3 base g gi S L c'.out vo)) : ∃ k, k < n ∧ J2s w0 base g gi S L c m k E w3 := by
  rcases hJ with ⟨rfl, c'', vo'', y7, y8, hs, hu⟩ | ⟨hE, hs, hu⟩
  · exact ⟨2 * meC (bitsB L) c'' + 2, (hgo _ hs).1, .inl ⟨rfl, _, Nat.lt_succ_self _, _, _, _, _, hu, .step hrn hs, (hgo _ hs).2, hb, rfl⟩⟩
  · exact ⟨0, hn0, .inr ⟨hE, _, _, hu, hrn, by omega, h4, hs, hb⟩⟩
theorem bits8_yes {gi : Nat} {S : Nat → Prop} {L : List UInt8} {a : Nat} {w : World} (h : RdS w S gi L a) (hx : a + 8 ≤ 8 * L.length) :
    Calls Try.prog 32 #[.pointer (some ⟨gi, 0, none⟩), .int .i64 8] w fun e w' => e = .returned (.tuple #[.int .i64 ((peekN L a 8 : Nat) : Int), .bool true]) ∧ RdS w' S gi L (a + 8) ∧ Ch S w w' := by
  have e8 : hel 8 = 8 := by decide
  have := rbits_yes gi S L a 8 w h (by rw [e8]; omega)
  rw [e8] at this
  exact this
theorem bits8_no {gi : Nat} {S : Nat → Prop} {L : List UInt8} {a : Nat} {w : World} (h : RdS w S gi L a) (hx : ¬ a + 8 ≤ 8 * L.length) :
    Calls Try.prog 32 #[.pointer (some ⟨gi, 0, none⟩), .int .i64 8] w fun e w' => e = .returned (.tuple #[.int .i64 0, .bool false]) ∧ ∃ q, w' = w.drewN q := by
  have e8 : hel 8 = 8 := by decide
  exact rbits_no gi S L a 8 w h (by rw [e8]; omega)
set_option maxHeartbeats 16000000 in
set_option maxRecDepth 100000 in
theorem step_any (base g gi : Nat) (S : Nat → Prop) (L : List UInt8) (c : Cf) (vo v7 v8 : Value) (w0 w : World) (h : UN w base g gi S L c vo v7 v8) (hbel : Below base w0 w) (m : Nat) (hm : m ≤ 30000) (hbase : base ≤ w0.heap.size) (hout : c.out.length ≤ m) :
    Calls Try.prog 62 #[.pointer (some ⟨g, 0, none⟩), .int .i64 m] w fun e w' => StR w0 base g gi S L c m e w' := by
  have hst : StI w0 base g gi S L c m (2 * meC (bitsB L) c + 1) w := ⟨c, vo, v7, v8, h, .refl _, hout, hbel, rfl⟩
  have Hst := Lib.hid hst
  clear hst h hout hbel
  go_enter Try.func62, Try.ntmps62
  go_wp2_with fail
  refine wp_scope_two 0 1 (fun n a w' => FrA g m a ∧ StI w0 base g gi S L c m n w') (fun n a w' => ∃ (k s E : Int), FrB g m k s E a ∧ J2s w0 base g gi S L c m n E w') rfl rfl (2 * meC (bitsB L) c + 1) ?_ ?_ ?_
  rotate_right
  · clear Hst
    rintro n a w ⟨k, s, E, ha, hJ⟩
    unfold FrB at ha
    obtain ⟨u8, ha⟩ := ha
    obtain ⟨u9, ha⟩ := ha
    obtain ⟨u10, ha⟩ := ha
    obtain ⟨u11, ha⟩ := ha
    obtain ⟨u12, ha⟩ := ha
    obtain ⟨u13, ha⟩ := ha
    obtain ⟨u14, ha⟩ := ha
    obtain ⟨u15, ha⟩ := ha
    obtain ⟨u16, ha⟩ := ha
    obtain ⟨u17, ha⟩ := ha
    obtain ⟨u18, ha⟩ := ha
    obtain ⟨u19, ha⟩ := ha
    obtain ⟨u20, ha⟩ := ha
    obtain ⟨u21, ha⟩ := ha
    obtain ⟨u22, ha⟩ := ha
    obtain ⟨u23, ha⟩ := ha
    obtain ⟨u24, ha⟩ := ha
    obtain ⟨u25, ha⟩ := ha
    obtain ⟨u26, ha⟩ := ha
    obtain ⟨u27, ha⟩ := ha
    obtain ⟨u28, ha⟩ := ha
    obtain ⟨u29, ha⟩ := ha
    obtain ⟨u30, ha⟩ := ha
    obtain ⟨u31, ha⟩ := ha
    obtain ⟨u32, ha⟩ := ha
    obtain ⟨u33, ha⟩ := ha
    obtain ⟨u34, ha⟩ := ha
    obtain ⟨u35, ha⟩ := ha
    obtain ⟨u36, ha⟩ := ha
    obtain ⟨u37, ha⟩ := ha
    obtain ⟨u38, ha⟩ := ha
    obtain ⟨u39, ha⟩ := ha
    obtain ⟨u40, ha⟩ := ha
    obtain ⟨u41, ha⟩ := ha
    obtain ⟨u42, ha⟩ := ha
    obtain ⟨u43, ha⟩ := ha
    obtain ⟨u44, ha⟩ := ha
    obtain ⟨u45, ha⟩ := ha
    obtain ⟨u46, ha⟩ := ha
    obtain ⟨u47, ha⟩ := ha
    obtain ⟨u48, ha⟩ := ha
    obtain ⟨u49, ha⟩ := ha
    obtain ⟨u50, ha⟩ := ha
    obtain ⟨u51, ha⟩ := ha
    obtain ⟨u52, ha⟩ := ha
    obtain ⟨u53, ha⟩ := ha
    obtain ⟨u54, ha⟩ := ha
    obtain ⟨u55, ha⟩ := ha
    obtain ⟨u56, ha⟩ := ha
    obtain ⟨u57, ha⟩ := ha
    obtain ⟨u58, ha⟩ := ha
    obtain ⟨u59, ha⟩ := ha
    obtain ⟨u60, ha⟩ := ha
    obtain ⟨u61, ha⟩ := ha
    obtain ⟨u62, ha⟩ := ha
    obtain ⟨u63, ha⟩ := ha
    obtain ⟨u64, ha⟩ := ha
    obtain ⟨u65, ha⟩ := ha
    obtain ⟨u66, ha⟩ := ha
    obtain ⟨u67, ha⟩ := ha
    obtain ⟨u68, ha⟩ := ha
    obtain ⟨u69, ha⟩ := ha
    obtain ⟨u70, ha⟩ := ha
    obtain ⟨u71, ha⟩ := ha
    obtain ⟨u72, ha⟩ := ha
    obtain ⟨u73, ha⟩ := ha
    obtain ⟨u74, ha⟩ := ha
    obtain ⟨u75, ha⟩ := ha
    obtain ⟨u76, ha⟩ := ha
    obtain ⟨u77, ha⟩ := ha
    obtain ⟨u78, ha⟩ := ha
    obtain ⟨u79, ha⟩ := ha
    obtain ⟨u80, ha⟩ := ha
    obtain ⟨u81, ha⟩ := ha
    obtain ⟨u82, ha⟩ := ha
    obtain ⟨u83, ha⟩ := ha
    obtain ⟨u84, ha⟩ := ha
    obtain ⟨u85, ha⟩ := ha
    obtain ⟨u86, ha⟩ := ha
    obtain ⟨u87, ha⟩ := ha
    obtain ⟨u88, ha⟩ := ha
    obtain ⟨u89, ha⟩ := ha
    obtain ⟨u90, ha⟩ := ha
    obtain ⟨u91, ha⟩ := ha
    obtain ⟨u92, ha⟩ := ha
    obtain ⟨u93, ha⟩ := ha
    obtain ⟨u94, ha⟩ := ha
    obtain ⟨u95, ha⟩ := ha
    obtain ⟨u96, ha⟩ := ha
    obtain ⟨u97, ha⟩ := ha
    obtain ⟨u98, ha⟩ := ha
    obtain ⟨u99, ha⟩ := ha
    obtain ⟨u100, ha⟩ := ha
    obtain ⟨u101, ha⟩ := ha
    obtain ⟨u102, ha⟩ := ha
    obtain ⟨u103, ha⟩ := ha
    obtain ⟨u104, ha⟩ := ha
    obtain ⟨u105, ha⟩ := ha
    obtain ⟨u106, ha⟩ := ha
    obtain ⟨u107, ha⟩ := ha
    obtain ⟨u108, ha⟩ := ha
    obtain ⟨u109, ha⟩ := ha
    obtain ⟨u110, ha⟩ := ha
    obtain ⟨u111, ha⟩ := ha
    obtain ⟨u112, ha⟩ := ha
    obtain ⟨u113, ha⟩ := ha
    obtain ⟨u114, ha⟩ := ha
    obtain ⟨u115, ha⟩ := ha
    obtain ⟨u116, ha⟩ := ha
    obtain ⟨u117, ha⟩ := ha
    obtain ⟨u118, ha⟩ := ha
    obtain ⟨u119, ha⟩ := ha
    obtain ⟨u120, ha⟩ := ha
    obtain ⟨u121, ha⟩ := ha
    obtain ⟨u122, ha⟩ := ha
    obtain ⟨u123, ha⟩ := ha
    obtain ⟨u124, ha⟩ := ha
    obtain ⟨u125, ha⟩ := ha
    obtain ⟨u126, ha⟩ := ha
    obtain ⟨u127, ha⟩ := ha
    obtain ⟨u128, ha⟩ := ha
    obtain ⟨u129, ha⟩ := ha
    obtain ⟨u130, ha⟩ := ha
    obtain ⟨u131, ha⟩ := ha
    obtain ⟨u132, ha⟩ := ha
    obtain ⟨u133, ha⟩ := ha
    obtain ⟨u134, ha⟩ := ha
    obtain ⟨u135, ha⟩ := ha
    obtain ⟨u136, ha⟩ := ha
    obtain ⟨u137, ha⟩ := ha
    obtain ⟨u138, ha⟩ := ha
    obtain ⟨u139, ha⟩ := ha
    obtain ⟨u140, ha⟩ := ha
    obtain ⟨u141, ha⟩ := ha
    obtain ⟨u142, ha⟩ := ha
    obtain ⟨u143, ha⟩ := ha
    obtain ⟨u144, ha⟩ := ha
    obtain ⟨u145, ha⟩ := ha
    subst ha
    have HJ := Lib.hid hJ
    clear hJ
    by_cases hE0 : E = 0
    · subst hE0
      have hst : ∃ k, k < n ∧ StI w0 base g gi S L c m k w := by
        rcases HJ.out with ⟨_, h⟩ | ⟨h, _⟩
        · exact h
        · exact absurd rfl h
      obtain ⟨k1, hk1, hst⟩ := hst
      have Hk1 := Lib.hid hk1
      have Hst := Lib.hid hst
      clear hk1 hst HJ
      go_wp2_with fail
      go_step3
      exact .inl ⟨rfl, k1, Hk1.out, ⟨_, _, _, _, _, _, _, _, _, _, _, _, _, _, _, _, _, _, _, _, _, _, _, _, _, _, _, _, _, _, _, _, _, _, _, _, _, _, _, _, _, _, _, _, _, _, _, _, _, _, _, _, _, _, _, _, _, _, _, _, _, _, _, _, _, _, _, _, _, _, _, _, _, _, _, _, _, _, _, _, _, _, _, _, _, _, _, _, _, _, _, _, _, _, _, _, _, _, _, _, _, _, _, _, _, _, _, _, _, _, _, _, _, _, _, _, _, _, _, _, _, _, _, _, _, _, _, _, _, _, _, _, _, _, _, _, _, _, _, _, _, rfl⟩, Hst.out⟩
    · have her : ErI w0 base g gi S L c m w := by
        rcases HJ.out with ⟨h, _⟩ | ⟨_, h⟩
        · exact absurd h hE0
        · exact h
      obtain ⟨c', vo', ⟨a5, y3, y5, y6, y7, y8, y4, hbk, hub⟩, hrn, hlt, h4, hsc, hbl⟩ := her
      have hEd : (E == 0) = false := by simp [hE0]
      have hbz : base ≤ w.heap.size := Nat.le_trans hbase hbl.size
      have q0 : w.cell? ⟨g, 0, none⟩ = some (.pointer (some ⟨gi, 0, none⟩)) := hbk.cell 0
      have f3 : w.frozen? ⟨g, 3, none⟩ = false := hbk.free 3
      have q3 : w.cell? ⟨g, 3, none⟩ = some y3 := hbk.cell 3
      have hfin : ∀ (wx : World) (cs : Array Value) (ax : Nat) (z3 z4 z5 z6 z7 z8 : Value), Bk wx g 95 #[.pointer (some ⟨gi, 0, none⟩), vo', .int .i64 0, z3, z4, z5, z6, z7, z8] → RdS wx S gi L ax → Ch (fun i => S i ∨ i = g) w wx → ∀ F : Int, F ≠ 0 → StR w0 base g gi S L c m (.returned (.int .i64 F)) wx := fun wx _ ax _ _ _ _ _ _ h1 h2 h3 F hF =>
        ⟨F, rfl, .inr ⟨hF, c', vo', ⟨_, _, _, _, _, _, _, h1, hub.mk2 (own_ne hub.ow hbk (by decide)) h3 h2⟩, hrn, hlt, h4, hsc, hbl.trans (h3.below hbz (fun i hi => by rcases hi with hi | rfl; exact hub.ls i hi; exact hub.lo))⟩⟩
      have Hfin := Lib.hid hfin
      have HE0 := Lib.hid hE0
      have hrd := hub.rd
      have hsg := hub.sg
      have Hrd := Lib.hid hrd
      have Hsg := Lib.hid hsg
      have Hbk := Lib.hid hbk
      clear hfin hE0 hrd hsg hbk hub hrn hlt h4 hsc hbl HJ
      by_cases hE3 : E = 3
      · have h3d : (E == 3) = true := by simp [hE3]
        have hba := rback_any gi S L a5 w k Hrd.out
        have Hba := Lib.hid hba
        clear hE3 hba
        go_wp2_with fail
        refine Hba.out.mono ?_
        rintro e w3 ⟨rfl, hr3, hc3⟩
        have hbk3 := Hbk.out.ch hc3 Hsg.out
        have k3 : w3.frozen? ⟨g, 3, none⟩ = false := hbk3.free 3
        have k3c : w3.cell? ⟨g, 3, none⟩ = some y3 := hbk3.cell 3
        have k4 : w3.frozen? ⟨g, 4, none⟩ = false := hbk3.free 4
        have hbk4 := hbk3.set 3 (.int .i64 s)
        have hc4 : Ch (fun i => S i ∨ i = g) w (w3.setCell ⟨g, 3, none⟩ (.int .i64 s)) := (hc3.mono (fun i hi => .inl hi)).set (p := ⟨g, 3, none⟩) (.inl (.inr rfl)) _
        have hr4 := hr3.ch ((Ch.refl (fun i => i = g) w3).set (p := ⟨g, 3, none⟩) (.inl rfl) (.int .i64 s)) (fun i hi e => by subst e; exact Hsg.out hi)
        have Hbk4 := Lib.hid hbk4
        have Hc4 := Lib.hid hc4
        have Hr4 := Lib.hid hr4
        have j4 : (w3.setCell ⟨g, 3, none⟩ (.int .i64 s)).frozen? ⟨g, 4, none⟩ = false := hbk4.free 4
        have k4c : w3.cell? ⟨g, 4, none⟩ = some y4 := hbk3.cell 4
        have j4c : (w3.setCell ⟨g, 3, none⟩ (.int .i64 s)).cell? ⟨g, 4, none⟩ = some y4 := hbk4.cell 4
        clear hbk4 hc4 hr4 hbk3 hr3 hc3
        by_cases hs0 : s = 0
        · have hsd : (s == 0) = true := by simp [hs0]
          clear hs0
          have hbk5 := Hbk4.out.set 4 (.bool false)
          have hc5 := Hc4.out.set (p := ⟨g, 4, none⟩) (.inl (.inr rfl)) (.bool false)
          have hr5 := Hr4.out.ch ((Ch.refl (fun i => i = g) _).set (p := ⟨g, 4, none⟩) (.inl rfl) (.bool false)) (fun i hi e => by subst e; exact Hsg.out hi)
          have Hbk5 := Lib.hid hbk5
          have Hc5 := Lib.hid hc5
          have Hr5 := Lib.hid hr5
          clear hbk5 hc5 hr5 Hba
          go_wp2_with fail
          simp only [Exit.jump2]
          go_ret
          exact Hfin.out _ #[] _ _ _ _ _ _ _ Hbk5.out Hr5.out Hc5.out _ HE0.out
        · have hsd : (s == 0) = false := by simp [hs0]
          clear hs0 Hba
          go_wp2_with fail
          simp only [Exit.jump2]
          go_ret
          exact Hfin.out _ #[] _ _ _ _ _ _ _ Hbk4.out Hr4.out Hc4.out _ HE0.out
      · have h3d : (E == 3) = false := by simp [hE3]
        clear hE3
        have hbk4 := Hbk.out.set 3 (.int .i64 5)
        have hc4 : Ch (fun i => S i ∨ i = g) w (w.setCell ⟨g, 3, none⟩ (.int .i64 5)) := (Ch.refl _ w).set (p := ⟨g, 3, none⟩) (.inl (.inr rfl)) _
        have hr4 := Hrd.out.ch ((Ch.refl (fun i => i = g) w).set (p := ⟨g, 3, none⟩) (.inl rfl) (.int .i64 5)) (fun i hi e => by subst e; exact Hsg.out hi)
        have Hbk4 := Lib.hid hbk4
        have Hc4 := Lib.hid hc4
        have Hr4 := Lib.hid hr4
        clear hbk4 hc4 hr4
        go_wp2_with fail
        simp only [Exit.jump2]
        go_ret
        exact Hfin.out _ #[] _ _ _ _ _ _ _ Hbk4.out Hr4.out Hc4.out _ (by decide)
  rotate_right
  · clear Hst
    rintro n a w ⟨ha, hst⟩
    unfold FrA at ha
    obtain ⟨u5, ha⟩ := ha
    obtain ⟨u6, ha⟩ := ha
    obtain ⟨u7, ha⟩ := ha
    obtain ⟨u8, ha⟩ := ha
    obtain ⟨u9, ha⟩ := ha
    obtain ⟨u10, ha⟩ := ha
    obtain ⟨u11, ha⟩ := ha
    obtain ⟨u12, ha⟩ := ha
    obtain ⟨u13, ha⟩ := ha
    obtain ⟨u14, ha⟩ := ha
    obtain ⟨u15, ha⟩ := ha
    obtain ⟨u16, ha⟩ := ha
    obtain ⟨u17, ha⟩ := ha
    obtain ⟨u18, ha⟩ := ha
    obtain ⟨u19, ha⟩ := ha
    obtain ⟨u20, ha⟩ := ha
    obtain ⟨u21, ha⟩ := ha
    obtain ⟨u22, ha⟩ := ha
    obtain ⟨u23, ha⟩ := ha
    obtain ⟨u24, ha⟩ := ha
    obtain ⟨u25, ha⟩ := ha
    obtain ⟨u26, ha⟩ := ha
    obtain ⟨u27, ha⟩ := ha
    obtain ⟨u28, ha⟩ := ha
    obtain ⟨u29, ha⟩ := ha
    obtain ⟨u30, ha⟩ := ha
    obtain ⟨u31, ha⟩ := ha
    obtain ⟨u32, ha⟩ := ha
    obtain ⟨u33, ha⟩ := ha
    obtain ⟨u34, ha⟩ := ha
    obtain ⟨u35, ha⟩ := ha
    obtain ⟨u36, ha⟩ := ha
    obtain ⟨u37, ha⟩ := ha
    obtain ⟨u38, ha⟩ := ha
    obtain ⟨u39, ha⟩ := ha
    obtain ⟨u40, ha⟩ := ha
    obtain ⟨u41, ha⟩ := ha
    obtain ⟨u42, ha⟩ := ha
    obtain ⟨u43, ha⟩ := ha
    obtain ⟨u44, ha⟩ := ha
    obtain ⟨u45, ha⟩ := ha
    obtain ⟨u46, ha⟩ := ha
    obtain ⟨u47, ha⟩ := ha
    obtain ⟨u48, ha⟩ := ha
    obtain ⟨u49, ha⟩ := ha
    obtain ⟨u50, ha⟩ := ha
    obtain ⟨u51, ha⟩ := ha
    obtain ⟨u52, ha⟩ := ha
    obtain ⟨u53, ha⟩ := ha
    obtain ⟨u54, ha⟩ := ha
    obtain ⟨u55, ha⟩ := ha
    obtain ⟨u56, ha⟩ := ha
    obtain ⟨u57, ha⟩ := ha
    obtain ⟨u58, ha⟩ := ha
    obtain ⟨u59, ha⟩ := ha
    obtain ⟨u60, ha⟩ := ha
    obtain ⟨u61, ha⟩ := ha
    obtain ⟨u62, ha⟩ := ha
    obtain ⟨u63, ha⟩ := ha
    obtain ⟨u64, ha⟩ := ha
    obtain ⟨u65, ha⟩ := ha
    obtain ⟨u66, ha⟩ := ha
    obtain ⟨u67, ha⟩ := ha
    obtain ⟨u68, ha⟩ := ha
    obtain ⟨u69, ha⟩ := ha
    obtain ⟨u70, ha⟩ := ha
    obtain ⟨u71, ha⟩ := ha
    obtain ⟨u72, ha⟩ := ha
    obtain ⟨u73, ha⟩ := ha
    obtain ⟨u74, ha⟩ := ha
    obtain ⟨u75, ha⟩ := ha
    obtain ⟨u76, ha⟩ := ha
    obtain ⟨u77, ha⟩ := ha
    obtain ⟨u78, ha⟩ := ha
    obtain ⟨u79, ha⟩ := ha
    obtain ⟨u80, ha⟩ := ha
    obtain ⟨u81, ha⟩ := ha
    obtain ⟨u82, ha⟩ := ha
    obtain ⟨u83, ha⟩ := ha
    obtain ⟨u84, ha⟩ := ha
    obtain ⟨u85, ha⟩ := ha
    obtain ⟨u86, ha⟩ := ha
    obtain ⟨u87, ha⟩ := ha
    obtain ⟨u88, ha⟩ := ha
    obtain ⟨u89, ha⟩ := ha
    obtain ⟨u90, ha⟩ := ha
    obtain ⟨u91, ha⟩ := ha
    obtain ⟨u92, ha⟩ := ha
    obtain ⟨u93, ha⟩ := ha
    obtain ⟨u94, ha⟩ := ha
    obtain ⟨u95, ha⟩ := ha
    obtain ⟨u96, ha⟩ := ha
    obtain ⟨u97, ha⟩ := ha
    obtain ⟨u98, ha⟩ := ha
    obtain ⟨u99, ha⟩ := ha
    obtain ⟨u100, ha⟩ := ha
    obtain ⟨u101, ha⟩ := ha
    obtain ⟨u102, ha⟩ := ha
    obtain ⟨u103, ha⟩ := ha
    obtain ⟨u104, ha⟩ := ha
    obtain ⟨u105, ha⟩ := ha
    obtain ⟨u106, ha⟩ := ha
    obtain ⟨u107, ha⟩ := ha
    obtain ⟨u108, ha⟩ := ha
    obtain ⟨u109, ha⟩ := ha
    obtain ⟨u110, ha⟩ := ha
    obtain ⟨u111, ha⟩ := ha
    obtain ⟨u112, ha⟩ := ha
    obtain ⟨u113, ha⟩ := ha
    obtain ⟨u114, ha⟩ := ha
    obtain ⟨u115, ha⟩ := ha
    obtain ⟨u116, ha⟩ := ha
    obtain ⟨u117, ha⟩ := ha
    obtain ⟨u118, ha⟩ := ha
    obtain ⟨u119, ha⟩ := ha
    obtain ⟨u120, ha⟩ := ha
    obtain ⟨u121, ha⟩ := ha
    obtain ⟨u122, ha⟩ := ha
    obtain ⟨u123, ha⟩ := ha
    obtain ⟨u124, ha⟩ := ha
    obtain ⟨u125, ha⟩ := ha
    obtain ⟨u126, ha⟩ := ha
    obtain ⟨u127, ha⟩ := ha
    obtain ⟨u128, ha⟩ := ha
    obtain ⟨u129, ha⟩ := ha
    obtain ⟨u130, ha⟩ := ha
    obtain ⟨u131, ha⟩ := ha
    obtain ⟨u132, ha⟩ := ha
    obtain ⟨u133, ha⟩ := ha
    obtain ⟨u134, ha⟩ := ha
    obtain ⟨u135, ha⟩ := ha
    obtain ⟨u136, ha⟩ := ha
    obtain ⟨u137, ha⟩ := ha
    obtain ⟨u138, ha⟩ := ha
    obtain ⟨u139, ha⟩ := ha
    obtain ⟨u140, ha⟩ := ha
    obtain ⟨u141, ha⟩ := ha
    obtain ⟨u142, ha⟩ := ha
    obtain ⟨u143, ha⟩ := ha
    obtain ⟨u144, ha⟩ := ha
    obtain ⟨u145, ha⟩ := ha
    subst ha
    have Hst := Lib.hid hst
    clear hst
    obtain ⟨c', vo', x7, x8, hun, hrn, hle, hbl, hn⟩ := Hst.out
    obtain ⟨⟨q0, q1, q2, q3, q4, q5, q6⟩, f3, f4, f5⟩ := hun.cells
    obtain ⟨Ao, co, rfl, hco, _⟩ := own_form hun.ub.ow
    have hst4 := hun.bd.2
    have hl65 := hun.bd.1
    have hol : c'.out.length ≤ 30000 := by omega
    have Hun := Lib.hid hun
    have Hrn := Lib.hid hrn
    have Hbl := Lib.hid hbl
    have Hn := Lib.hid hn
    clear hun hrn hbl hn Hst
    have hw1 : IntKind.i64.wrap (c'.out.length : Int) = c'.out.length := IntWalk.i64_in _ (by omega)
    go_wp2_with fail
    by_cases h1 : m ≤ c'.out.length
    · have h1d : decide (m ≤ c'.out.length) = true := by simp [h1]
      go_quiet (fail)
      go_wp2_with fail
      simp only [Exit.jump2]
      go_ret
      exact ⟨0, rfl, .inl ⟨rfl, _, _, _, _, Hun.out.drewN _, Hrn.out, hle, .inl h1, below_drewN Hbl.out _⟩⟩
    · have h1d : decide (m ≤ c'.out.length) = false := by simp [h1]
      by_cases hs4 : c'.st = 4
      · have h4d : ((c'.st : Int) == 4) = true := by simp [hs4]
        have Hs4 := Lib.hid hs4
        clear hs4
        go_quiet (fail)
        go_wp2_with fail
        simp only [Exit.jump2]
        go_ret
        exact ⟨0, rfl, .inl ⟨rfl, _, _, _, _, Hun.out.drewN _, Hrn.out, hle, .inr Hs4.out, below_drewN Hbl.out _⟩⟩
      · have h4d : ((c'.st : Int) == 4) = false := by simp; omega
        go_quiet (fail)
        go_wp2_with fail
        have Hun1 := Lib.hid (Hun.out.drewN nq)
        have Hbl1 := Lib.hid (below_drewN Hbl.out nq)
        clear Hun Hbl
        generalize w.drewN nq = w1 at *
        obtain ⟨⟨q0, q1, q2, q3, q4, q5, q6⟩, f3, f4, f5⟩ := Hun1.out.cells
        have hmk : ∀ x, Calls Try.prog 35 #[.pointer (some ⟨gi, 0, none⟩)] (w1.drewN x) fun e w'' => e = .returned (.int .i64 c'.a) ∧ ∃ n, w'' = w1.drewN n := fun x =>
          (rmark_eq gi S L c'.a (w1.drewN x) (Hun1.out.drewN x).ub.rd).mono fun _ _ ⟨h1, h2⟩ => ⟨h1, x, h2⟩
        go_quiet ((go_at_call 35; exact hmk _))
        have Hun2 := Lib.hid (Hun1.out.drewN nq)
        have Hbl2 := Lib.hid (below_drewN Hbl1.out nq)
        clear Hun1 Hbl1 hmk q0 q1 q2 q3 q4 q5 q6 f3 f4 f5
        generalize w1.drewN nq = w2 at *
        obtain ⟨⟨q0, q1, q2, q3, q4, q5, q6⟩, f3, f4, f5⟩ := Hun2.out.cells
        have hbz : base ≤ w2.heap.size := Nat.le_trans hbase Hbl2.out.size
        have hac : c'.a ≤ (bitsB L).length := by rw [bitsB_len]; exact Hun2.out.ub.rd.le
        have hgo : ∀ c'', stC (bitsB L) c' = some c'' → 2 * meC (bitsB L) c'' + 2 < n ∧ c''.out.length ≤ m := fun c'' hs => by
          have k1 := stC_less hac hs
          have k2 := (stC_loc hac hs).2.2.2.2
          have := Hn.out
          omega
        have Hgo := Lib.hid hgo
        have Hac := Lib.hid hac
        have hn0 : 0 < n := by have := Hn.out; omega
        have Hn0 := Lib.hid hn0
        have Hh1 := Lib.hid h1
        have Hs4 := Lib.hid hs4
        clear hgo hac Hn hn0 h1 h1d hs4 h4d
        by_cases hs0 : c'.st = 0
        · have q3' : w2.cell? ⟨g, 3, none⟩ = some (.int .i64 0) := by rw [q3, hs0]; rfl
          clear q3
          by_cases hl : c'.last = true
          · have q4' : w2.cell? ⟨g, 4, none⟩ = some (.bool true) := by rw [q4, hl]
            clear q4
            have hsc := stC_end (B := bitsB L) hs0 hl
            have hun3 := Hun2.out.setSt 4 (.inr (.inl rfl))
            have hbl3 := Hbl2.out.trans (Hun2.out.bel (Ch.set (Ch.refl _ w2) (p := ⟨g, 3, none⟩) (.inl (.inr (.inl rfl))) (.int .i64 (4 : Nat))) hbz)
            have Hsc := Lib.hid hsc
            have Hun3 := Lib.hid hun3
            have Hbl3 := Lib.hid hbl3
            clear hsc hun3 hbl3 hs0 hl
            go_wp2_with fail
            go_step3
            exact .inl ⟨rfl, _, Nat.lt_of_succ_lt (Hgo.out _ Hsc.out).1, ⟨_, _, _, _, _, _, _, _, _, _, _, _, _, _, _, _, _, _, _, _, _, _, _, _, _, _, _, _, _, _, _, _, _, _, _, _, _, _, _, _, _, _, _, _, _, _, _, _, _, _, _, _, _, _, _, _, _, _, _, _, _, _, _, _, _, _, _, _, _, _, _, _, _, _, _, _, _, _, _, _, _, _, _, _, _, _, _, _, _, _, _, _, _, _, _, _, _, _, _, _, _, _, _, _, _, _, _, _, _, _, _, _, _, _, _, _, _, _, _, _, _, _, _, _, _, _, _, _, _, _, _, _, _, _, _, _, _, _, _, _, _, rfl⟩, _, _, _, _, Hun3.out, .step Hrn.out Hsc.out, (Hgo.out _ Hsc.out).2, Hbl3.out, rfl⟩
          · have q4' : w2.cell? ⟨g, 4, none⟩ = some (.bool false) := by rw [q4]; simp [hl]
            clear q4
            have hhd := head_any g gi S L c'.a (.slice Ao c'.out.length co) _ _ _ _ _ _ _ w2 Hun2.out.bk Hun2.out.ub.rd Hun2.out.ub.sg
            have Hhd := Lib.hid hhd
            have Hs0 := Lib.hid hs0
            have Hl := Lib.hid hl
            clear hhd hs0 hl
            go_wp2_with fail
            refine Hhd.out.mono ?_
            rintro e w3 ⟨⟨E, a', c3, c4, c5, y7, y8, rfl, hbk3, hr3, hres⟩, hc3⟩
            have hbl3 := Hbl2.out.trans (Hun2.out.bel (hc3.mono (fun i hi => by rcases hi with hi | hi; exact .inl hi; exact .inr (.inl hi))) hbz)
            have hub3 := Hun2.out.ub.mk2 (own_ne Hun2.out.ub.ow Hun2.out.bk (by decide)) hc3 hr3
            have hJ : (E = 0 ∧ ∃ c'' vo'' y7 y8, stC (bitsB L) c' = some c'' ∧ UN w3 base g gi S L c'' vo'' y7 y8) ∨ (E ≠ 0 ∧ stC (bitsB L) c' = none ∧ UE w3 base g gi S L c'.out (.slice Ao c'.out.length co)) := by
              rcases hres with ⟨hE, ⟨la, n', hh, hn', rfl, rfl, rfl⟩ | ⟨la, l, d, hh, rfl, rfl, rfl, hcod⟩⟩ | ⟨hE, hh⟩
              · exact .inl ⟨hE, _, _, _, _, stC_hs Hs0.out Hl.out hh, hbk3, hub3, (fun h => by rcases h with h | h <;> cases h), (fun h => by cases h), (by show n' ≤ 65535; omega), (by show (1 : Nat) ≤ 4; omega)⟩
              · exact .inl ⟨hE, _, _, _, _, stC_hc Hs0.out Hl.out hh, hbk3, hub3, (fun _ => hcod _ Hun2.out.ub.lt), (fun h => by cases h), Hun2.out.bd.1, (by show (2 : Nat) ≤ 4; omega)⟩
              · exact .inr ⟨hE, stC_hn Hs0.out Hl.out hh, _, _, _, _, _, _, _, hbk3, hub3⟩
            obtain ⟨k, hk, hj⟩ := toJ2 Hgo.out Hn0.out Hrn.out Hh1.out Hs4.out hbl3 hJ
            have Hk := Lib.hid hk
            have Hj := Lib.hid hj
            clear hk hj hJ hub3 hbl3 hres hr3 hbk3 hc3
            go_wp2_with fail
            go_step3
            exact .inr ⟨rfl, k, Hk.out, _, _, _, ⟨_, _, _, _, _, _, _, _, _, _, _, _, _, _, _, _, _, _, _, _, _, _, _, _, _, _, _, _, _, _, _, _, _, _, _, _, _, _, _, _, _, _, _, _, _, _, _, _, _, _, _, _, _, _, _, _, _, _, _, _, _, _, _, _, _, _, _, _, _, _, _, _, _, _, _, _, _, _, _, _, _, _, _, _, _, _, _, _, _, _, _, _, _, _, _, _, _, _, _, _, _, _, _, _, _, _, _, _, _, _, _, _, _, _, _, _, _, _, _, _, _, _, _, _, _, _, _, _, _, _, _, _, _, _, _, _, _, _, rfl⟩, Hj.out⟩
        by_cases hs1 : c'.st = 1
        · have q3' : w2.cell? ⟨g, 3, none⟩ = some (.int .i64 1) := by rw [q3, hs1]; rfl
          clear q3 hs0
          by_cases hl : c'.left = 0
          · have q5' : w2.cell? ⟨g, 5, none⟩ = some (.int .i64 0) := by rw [q5, hl]; rfl
            clear q5
            have hsc := stC_z1 (B := bitsB L) hs1 hl
            have hun3 := Hun2.out.setSt 0 (.inl rfl)
            have hbl3 := Hbl2.out.trans (Hun2.out.bel (Ch.set (Ch.refl _ w2) (p := ⟨g, 3, none⟩) (.inl (.inr (.inl rfl))) (.int .i64 (0 : Nat))) hbz)
            have Hsc := Lib.hid hsc
            have Hun3 := Lib.hid hun3
            have Hbl3 := Lib.hid hbl3
            clear hsc hun3 hbl3 hs1 hl
            go_wp2_with fail
            go_step3
            exact .inl ⟨rfl, _, Nat.lt_of_succ_lt (Hgo.out _ Hsc.out).1, ⟨_, _, _, _, _, _, _, _, _, _, _, _, _, _, _, _, _, _, _, _, _, _, _, _, _, _, _, _, _, _, _, _, _, _, _, _, _, _, _, _, _, _, _, _, _, _, _, _, _, _, _, _, _, _, _, _, _, _, _, _, _, _, _, _, _, _, _, _, _, _, _, _, _, _, _, _, _, _, _, _, _, _, _, _, _, _, _, _, _, _, _, _, _, _, _, _, _, _, _, _, _, _, _, _, _, _, _, _, _, _, _, _, _, _, _, _, _, _, _, _, _, _, _, _, _, _, _, _, _, _, _, _, _, _, _, _, _, _, _, _, _, rfl⟩, _, _, _, _, Hun3.out, .step Hrn.out Hsc.out, (Hgo.out _ Hsc.out).2, Hbl3.out, rfl⟩
          · have h5d : ((c'.left : Int) == 0) = false := by simp; omega
            by_cases hfit : c'.a + 8 ≤ 8 * L.length
            · have hsc := stC_b1 hs1 hl (nd_yes hfit)
              have hw8 := wrap8 (peekN L c'.a 8) (peek8 hfit)
              have hb8 := bits8_yes Hun2.out.ub.rd hfit
              obtain ⟨u, hu⟩ : ∃ u, UInt8.ofNat (peekN L c'.a 8) = u := ⟨_, rfl⟩
              rw [hu] at hsc hw8
              have hw5 : IntKind.i64.wrap ((c'.left : Int) - 1) = ((c'.left - 1 : Nat) : Int) := by rw [IntWalk.i64_in _ (by omega)]; omega
              have Hsc := Lib.hid hsc
              have Hb8 := Lib.hid hb8
              clear hsc hb8 hu hs1 hl hfit
              go_wp2_with fail
              refine Hb8.out.mono ?_
              rintro e w3 ⟨rfl, hr3, hc3⟩
              have hbk3 := Hun2.out.bk.ch hc3 Hun2.out.ub.sg
              have how3 := own_ch Hun2.out.ub.ow hc3 (fun i hi => Hun2.out.ub.os i hi)
              have hem := emit_any u hbk3 how3 (by omega) (Nat.le_trans hbz hc3.size)
              have Hem := Lib.hid hem
              have Hr3 := Lib.hid hr3
              have Hc3 := Lib.hid hc3
              clear hem hr3 hc3 hbk3 how3
              go_wp2_with fail
              refine Hem.out.mono ?_
              rintro e w4 ⟨rfl, vo4, hbk4, how4, hc4, hv4⟩
              have k5 : w4.cell? ⟨g, 5, none⟩ = some (.int .i64 (c'.left : Int)) := hbk4.cell 5
              have l5 : w4.frozen? ⟨g, 5, none⟩ = false := hbk4.free 5
              obtain ⟨hun5, hc5⟩ := UN.put Hun2.out Hr3.out Hc3.out hbk4 how4 hc4 hv4
              have hbl5 := Hbl2.out.trans (Hun2.out.bel hc5 hbz)
              have Hun5 := Lib.hid hun5
              have Hbl5 := Lib.hid hbl5
              clear hun5 hbl5 hbk4 how4 hc4 hv4 hc5 Hun2 Hbl2 Hem Hb8 Hc3 Hr3
              go_wp2_with fail
              go_step3
              exact .inl ⟨rfl, _, Nat.lt_of_succ_lt (Hgo.out _ Hsc.out).1, ⟨_, _, _, _, _, _, _, _, _, _, _, _, _, _, _, _, _, _, _, _, _, _, _, _, _, _, _, _, _, _, _, _, _, _, _, _, _, _, _, _, _, _, _, _, _, _, _, _, _, _, _, _, _, _, _, _, _, _, _, _, _, _, _, _, _, _, _, _, _, _, _, _, _, _, _, _, _, _, _, _, _, _, _, _, _, _, _, _, _, _, _, _, _, _, _, _, _, _, _, _, _, _, _, _, _, _, _, _, _, _, _, _, _, _, _, _, _, _, _, _, _, _, _, _, _, _, _, _, _, _, _, _, _, _, _, _, _, _, _, _, _, rfl⟩, _, _, _, _, Hun5.out, .step Hrn.out Hsc.out, (Hgo.out _ Hsc.out).2, Hbl5.out, rfl⟩
            · have hsc := stC_n1 hs1 hl (nd_no hfit)
              have hb8 := bits8_no Hun2.out.ub.rd hfit
              have Hsc := Lib.hid hsc
              have Hb8 := Lib.hid hb8
              clear hsc hb8 hs1 hl hfit
              go_wp2_with fail
              refine Hb8.out.mono ?_
              rintro e w3 ⟨rfl, q, rfl⟩
              go_wp2_with fail
              simp only [Exit.jump2]
              go_ret
              exact ⟨3, rfl, .inr ⟨by decide, _, _, (Hun2.out.drewN q).ue, Hrn.out, Nat.lt_of_not_le Hh1.out, Hs4.out, Hsc.out, below_drewN Hbl2.out q⟩⟩
        by_cases hs2 : c'.st = 2
        · have q3' : w2.cell? ⟨g, 3, none⟩ = some (.int .i64 2) := by rw [q3, hs2]; rfl
          clear q3 hs0 hs1
          have hsy := symbol_any base g gi S L c' _ _ _ w2 Hun2.out hs2 (by omega)
          have Hsy := Lib.hid hsy
          clear hsy hs2
          go_wp2_with fail
          refine Hsy.out.mono ?_
          rintro e w3 ⟨E, rfl, hc3, hres⟩
          have hbl3 := Hbl2.out.trans (Hun2.out.bel hc3 hbz)
          have hJ : (E = 0 ∧ ∃ c'' vo'' y7 y8, stC (bitsB L) c' = some c'' ∧ UN w3 base g gi S L c'' vo'' y7 y8) ∨ (E ≠ 0 ∧ stC (bitsB L) c' = none ∧ UE w3 base g gi S L c'.out (.slice Ao c'.out.length co)) := by
            rcases hres with ⟨hE, c'', vo'', hs, hu, _⟩ | hno
            · exact .inl ⟨hE, _, _, _, _, hs, hu⟩
            · exact .inr hno
          obtain ⟨k, hk, hj⟩ := toJ2 Hgo.out Hn0.out Hrn.out Hh1.out Hs4.out hbl3 hJ
          have Hk := Lib.hid hk
          have Hj := Lib.hid hj
          clear hk hj hJ hbl3 hres hc3
          go_wp2_with fail
          go_step3
          exact .inr ⟨rfl, k, Hk.out, _, _, _, ⟨_, _, _, _, _, _, _, _, _, _, _, _, _, _, _, _, _, _, _, _, _, _, _, _, _, _, _, _, _, _, _, _, _, _, _, _, _, _, _, _, _, _, _, _, _, _, _, _, _, _, _, _, _, _, _, _, _, _, _, _, _, _, _, _, _, _, _, _, _, _, _, _, _, _, _, _, _, _, _, _, _, _, _, _, _, _, _, _, _, _, _, _, _, _, _, _, _, _, _, _, _, _, _, _, _, _, _, _, _, _, _, _, _, _, _, _, _, _, _, _, _, _, _, _, _, _, _, _, _, _, _, _, _, _, _, _, _, _, rfl⟩, Hj.out⟩
        · have hs3 : c'.st = 3 := by have := Hs4.out; omega
          have q3' : w2.cell? ⟨g, 3, none⟩ = some (.int .i64 3) := by rw [q3, hs3]; rfl
          clear q3 hs0 hs1 hs2
          by_cases hl : c'.left = 0
          · have q5' : w2.cell? ⟨g, 5, none⟩ = some (.int .i64 0) := by rw [q5, hl]; rfl
            clear q5
            have hsc := stC_z3 (B := bitsB L) hs3 hl
            have hun3 := Hun2.out.setSt 2 (.inr (.inr ⟨rfl, hs3⟩))
            have hbl3 := Hbl2.out.trans (Hun2.out.bel (Ch.set (Ch.refl _ w2) (p := ⟨g, 3, none⟩) (.inl (.inr (.inl rfl))) (.int .i64 (2 : Nat))) hbz)
            have Hsc := Lib.hid hsc
            have Hun3 := Lib.hid hun3
            have Hbl3 := Lib.hid hbl3
            clear hsc hun3 hbl3 hs3 hl
            go_wp2_with fail
            go_step3
            exact .inl ⟨rfl, _, Nat.lt_of_succ_lt (Hgo.out _ Hsc.out).1, ⟨_, _, _, _, _, _, _, _, _, _, _, _, _, _, _, _, _, _, _, _, _, _, _, _, _, _, _, _, _, _, _, _, _, _, _, _, _, _, _, _, _, _, _, _, _, _, _, _, _, _, _, _, _, _, _, _, _, _, _, _, _, _, _, _, _, _, _, _, _, _, _, _, _, _, _, _, _, _, _, _, _, _, _, _, _, _, _, _, _, _, _, _, _, _, _, _, _, _, _, _, _, _, _, _, _, _, _, _, _, _, _, _, _, _, _, _, _, _, _, _, _, _, _, _, _, _, _, _, _, _, _, _, _, _, _, _, _, _, _, _, _, rfl⟩, _, _, _, _, Hun3.out, .step Hrn.out Hsc.out, (Hgo.out _ Hsc.out).2, Hbl3.out, rfl⟩
          · have h5d : ((c'.left : Int) == 0) = false := by simp; omega
            have hsc := stC_c3 (B := bitsB L) hs3 hl
            obtain ⟨hv1, hv2⟩ := Hun2.out.iv hs3
            obtain ⟨Ab, rfl⟩ : ∃ Ab, Ao = some ⟨Ab, 0, none⟩ := by
              rcases Hun2.out.ub.ow.2 with ⟨h2, h3⟩ | ⟨gg, cap, cur, hv, _⟩
              · omega
              · injection hv with hv; exact ⟨_, hv⟩
            have hw6 : IntKind.i64.wrap ((c'.out.length : Int) - (c'.back : Int)) = ((c'.out.length - c'.back : Nat) : Int) := by rw [IntWalk.i64_in _ (by omega)]; omega
            have hby := own_byte Hun2.out.ub.ow (j := c'.out.length - c'.back) (by omega)
            obtain ⟨u, hu⟩ : ∃ u, c'.out[c'.out.length - c'.back]?.getD 0 = u := ⟨_, rfl⟩
            rw [hu] at hsc hby
            have hw5 : IntKind.i64.wrap ((c'.left : Int) - 1) = ((c'.left - 1 : Nat) : Int) := by rw [IntWalk.i64_in _ (by omega)]; omega
            obtain ⟨j, hj⟩ : ∃ j, c'.out.length - c'.back = j := ⟨_, rfl⟩
            rw [hj] at hw6 hby
            have hjl : (j : Int) < (c'.out.length : Int) := by omega
            have Hsc := Lib.hid hsc
            clear hsc hu hs3 hl hv1 hv2 hj
            go_wp2_with fail
            have hem := emit_any u Hun2.out.bk.drew (own_ch Hun2.out.ub.ow ((Ch.refl (fun _ => False) w2).drew) (fun i _ h => h)) (by omega) (show base ≤ w2.drew.heap.size from hbz)
            have Hem := Lib.hid hem
            clear hem
            go_still_tail 17, (by kernel_rfl)
            change wpList _ _ _ _ _ w2.drew
            go_wp2_with fail
            refine Hem.out.mono ?_
            rintro e w4 ⟨rfl, vo4, hbk4, how4, hc4, hv4⟩
            have k5 : w4.cell? ⟨g, 5, none⟩ = some (.int .i64 (c'.left : Int)) := hbk4.cell 5
            have l5 : w4.frozen? ⟨g, 5, none⟩ = false := hbk4.free 5
            obtain ⟨hun5, hc5⟩ := UN.put Hun2.out (Hun2.out.ub.rd.ch ((Ch.refl (fun _ => False) w2).drew) (fun _ _ h => h)) ((Ch.refl S w2).drew) hbk4 how4 hc4 hv4
            have hbl5 := Hbl2.out.trans (Hun2.out.bel hc5 hbz)
            have Hun5 := Lib.hid hun5
            have Hbl5 := Lib.hid hbl5
            clear hun5 hbl5 hbk4 how4 hc4 hv4 hc5 Hun2 Hbl2 Hem
            go_wp2_with fail
            go_step3
            exact .inl ⟨rfl, _, Nat.lt_of_succ_lt (Hgo.out _ Hsc.out).1, ⟨_, _, _, _, _, _, _, _, _, _, _, _, _, _, _, _, _, _, _, _, _, _, _, _, _, _, _, _, _, _, _, _, _, _, _, _, _, _, _, _, _, _, _, _, _, _, _, _, _, _, _, _, _, _, _, _, _, _, _, _, _, _, _, _, _, _, _, _, _, _, _, _, _, _, _, _, _, _, _, _, _, _, _, _, _, _, _, _, _, _, _, _, _, _, _, _, _, _, _, _, _, _, _, _, _, _, _, _, _, _, _, _, _, _, _, _, _, _, _, _, _, _, _, _, _, _, _, _, _, _, _, _, _, _, _, _, _, _, _, _, _, rfl⟩, _, _, _, _, Hun5.out, .step Hrn.out Hsc.out, (Hgo.out _ Hsc.out).2, Hbl5.out, rfl⟩
  · obtain ⟨n, hn⟩ : ∃ n, 2 * meC (bitsB L) c + 1 = n := ⟨_, rfl⟩
    rw [hn] at Hst ⊢
    clear hn
    obtain ⟨c', vo', x7, x8, hun, hrn, hle, hbl, hn⟩ := Hst.out
    obtain ⟨⟨q0, q1, q2, q3, q4, q5, q6⟩, f3, f4, f5⟩ := hun.cells
    obtain ⟨Ao, co, rfl, hco, _⟩ := own_form hun.ub.ow
    have hst4 := hun.bd.2
    have hl65 := hun.bd.1
    have hol : c'.out.length ≤ 30000 := by omega
    have Hun := Lib.hid hun
    have Hrn := Lib.hid hrn
    have Hbl := Lib.hid hbl
    have Hn := Lib.hid hn
    clear hun hrn hbl hn Hst
    have hw1 : IntKind.i64.wrap (c'.out.length : Int) = c'.out.length := IntWalk.i64_in _ (by omega)
    go_wp2_with fail
    go_step3
    go_wp2_with fail
    by_cases h1 : m ≤ c'.out.length
    · have h1d : decide (m ≤ c'.out.length) = true := by simp [h1]
      go_quiet (fail)
      go_wp2_with fail
      simp only [Exit.jump2]
      go_ret
      exact ⟨0, rfl, .inl ⟨rfl, _, _, _, _, Hun.out.drewN _, Hrn.out, hle, .inl h1, below_drewN Hbl.out _⟩⟩
    · have h1d : decide (m ≤ c'.out.length) = false := by simp [h1]
      by_cases hs4 : c'.st = 4
      · have h4d : ((c'.st : Int) == 4) = true := by simp [hs4]
        have Hs4 := Lib.hid hs4
        clear hs4
        go_quiet (fail)
        go_wp2_with fail
        simp only [Exit.jump2]
        go_ret
        exact ⟨0, rfl, .inl ⟨rfl, _, _, _, _, Hun.out.drewN _, Hrn.out, hle, .inr Hs4.out, below_drewN Hbl.out _⟩⟩
      · have h4d : ((c'.st : Int) == 4) = false := by simp; omega
        go_quiet (fail)
        go_wp2_with fail
        have Hun1 := Lib.hid (Hun.out.drewN nq)
        have Hbl1 := Lib.hid (below_drewN Hbl.out nq)
        clear Hun Hbl
        generalize w.drewN nq = w1 at *
        obtain ⟨⟨q0, q1, q2, q3, q4, q5, q6⟩, f3, f4, f5⟩ := Hun1.out.cells
        have hmk : ∀ x, Calls Try.prog 35 #[.pointer (some ⟨gi, 0, none⟩)] (w1.drewN x) fun e w'' => e = .returned (.int .i64 c'.a) ∧ ∃ n, w'' = w1.drewN n := fun x =>
          (rmark_eq gi S L c'.a (w1.drewN x) (Hun1.out.drewN x).ub.rd).mono fun _ _ ⟨h1, h2⟩ => ⟨h1, x, h2⟩
        go_quiet ((go_at_call 35; exact hmk _))
        have Hun2 := Lib.hid (Hun1.out.drewN nq)
        have Hbl2 := Lib.hid (below_drewN Hbl1.out nq)
        clear Hun1 Hbl1 hmk q0 q1 q2 q3 q4 q5 q6 f3 f4 f5
        generalize w1.drewN nq = w2 at *
        obtain ⟨⟨q0, q1, q2, q3, q4, q5, q6⟩, f3, f4, f5⟩ := Hun2.out.cells
        have hbz : base ≤ w2.heap.size := Nat.le_trans hbase Hbl2.out.size
        have hac : c'.a ≤ (bitsB L).length := by rw [bitsB_len]; exact Hun2.out.ub.rd.le
        have hgo : ∀ c'', stC (bitsB L) c' = some c'' → 2 * meC (bitsB L) c'' + 2 < n ∧ c''.out.length ≤ m := fun c'' hs => by
          have k1 := stC_less hac hs
          have k2 := (stC_loc hac hs).2.2.2.2
          have := Hn.out
          omega
        have Hgo := Lib.hid hgo
        have Hac := Lib.hid hac
        have hn0 : 0 < n := by have := Hn.out; omega
        have Hn0 := Lib.hid hn0
        have Hh1 := Lib.hid h1
        have Hs4 := Lib.hid hs4
        clear hgo hac Hn hn0 h1 h1d hs4 h4d
        by_cases hs0 : c'.st = 0
        · have q3' : w2.cell? ⟨g, 3, none⟩ = some (.int .i64 0) := by rw [q3, hs0]; rfl
          clear q3
          by_cases hl : c'.last = true
          · have q4' : w2.cell? ⟨g, 4, none⟩ = some (.bool true) := by rw [q4, hl]
            clear q4
            have hsc := stC_end (B := bitsB L) hs0 hl
            have hun3 := Hun2.out.setSt 4 (.inr (.inl rfl))
            have hbl3 := Hbl2.out.trans (Hun2.out.bel (Ch.set (Ch.refl _ w2) (p := ⟨g, 3, none⟩) (.inl (.inr (.inl rfl))) (.int .i64 (4 : Nat))) hbz)
            have Hsc := Lib.hid hsc
            have Hun3 := Lib.hid hun3
            have Hbl3 := Lib.hid hbl3
            clear hsc hun3 hbl3 hs0 hl
            go_wp2_with fail
            go_step3
            exact .inl ⟨rfl, _, Nat.lt_of_succ_lt (Hgo.out _ Hsc.out).1, ⟨_, _, _, _, _, _, _, _, _, _, _, _, _, _, _, _, _, _, _, _, _, _, _, _, _, _, _, _, _, _, _, _, _, _, _, _, _, _, _, _, _, _, _, _, _, _, _, _, _, _, _, _, _, _, _, _, _, _, _, _, _, _, _, _, _, _, _, _, _, _, _, _, _, _, _, _, _, _, _, _, _, _, _, _, _, _, _, _, _, _, _, _, _, _, _, _, _, _, _, _, _, _, _, _, _, _, _, _, _, _, _, _, _, _, _, _, _, _, _, _, _, _, _, _, _, _, _, _, _, _, _, _, _, _, _, _, _, _, _, _, _, rfl⟩, _, _, _, _, Hun3.out, .step Hrn.out Hsc.out, (Hgo.out _ Hsc.out).2, Hbl3.out, rfl⟩
          · have q4' : w2.cell? ⟨g, 4, none⟩ = some (.bool false) := by rw [q4]; simp [hl]
            clear q4
            have hhd := head_any g gi S L c'.a (.slice Ao c'.out.length co) _ _ _ _ _ _ _ w2 Hun2.out.bk Hun2.out.ub.rd Hun2.out.ub.sg
            have Hhd := Lib.hid hhd
            have Hs0 := Lib.hid hs0
            have Hl := Lib.hid hl
            clear hhd hs0 hl
            go_wp2_with fail
            refine Hhd.out.mono ?_
            rintro e w3 ⟨⟨E, a', c3, c4, c5, y7, y8, rfl, hbk3, hr3, hres⟩, hc3⟩
            have hbl3 := Hbl2.out.trans (Hun2.out.bel (hc3.mono (fun i hi => by rcases hi with hi | hi; exact .inl hi; exact .inr (.inl hi))) hbz)
            have hub3 := Hun2.out.ub.mk2 (own_ne Hun2.out.ub.ow Hun2.out.bk (by decide)) hc3 hr3
            have hJ : (E = 0 ∧ ∃ c'' vo'' y7 y8, stC (bitsB L) c' = some c'' ∧ UN w3 base g gi S L c'' vo'' y7 y8) ∨ (E ≠ 0 ∧ stC (bitsB L) c' = none ∧ UE w3 base g gi S L c'.out (.slice Ao c'.out.length co)) := by
              rcases hres with ⟨hE, ⟨la, n', hh, hn', rfl, rfl, rfl⟩ | ⟨la, l, d, hh, rfl, rfl, rfl, hcod⟩⟩ | ⟨hE, hh⟩
              · exact .inl ⟨hE, _, _, _, _, stC_hs Hs0.out Hl.out hh, hbk3, hub3, (fun h => by rcases h with h | h <;> cases h), (fun h => by cases h), (by show n' ≤ 65535; omega), (by show (1 : Nat) ≤ 4; omega)⟩
              · exact .inl ⟨hE, _, _, _, _, stC_hc Hs0.out Hl.out hh, hbk3, hub3, (fun _ => hcod _ Hun2.out.ub.lt), (fun h => by cases h), Hun2.out.bd.1, (by show (2 : Nat) ≤ 4; omega)⟩
              · exact .inr ⟨hE, stC_hn Hs0.out Hl.out hh, _, _, _, _, _, _, _, hbk3, hub3⟩
            obtain ⟨k, hk, hj⟩ := toJ2 Hgo.out Hn0.out Hrn.out Hh1.out Hs4.out hbl3 hJ
            have Hk := Lib.hid hk
            have Hj := Lib.hid hj
            clear hk hj hJ hub3 hbl3 hres hr3 hbk3 hc3
            go_wp2_with fail
            go_step3
            exact .inr ⟨rfl, k, Hk.out, _, _, _, ⟨_, _, _, _, _, _, _, _, _, _, _, _, _, _, _, _, _, _, _, _, _, _, _, _, _, _, _, _, _, _, _, _, _, _, _, _, _, _, _, _, _, _, _, _, _, _, _, _, _, _, _, _, _, _, _, _, _, _, _, _, _, _, _, _, _, _, _, _, _, _, _, _, _, _, _, _, _, _, _, _, _, _, _, _, _, _, _, _, _, _, _, _, _, _, _, _, _, _, _, _, _, _, _, _, _, _, _, _, _, _, _, _, _, _, _, _, _, _, _, _, _, _, _, _, _, _, _, _, _, _, _, _, _, _, _, _, _, _, rfl⟩, Hj.out⟩
        by_cases hs1 : c'.st = 1
        · have q3' : w2.cell? ⟨g, 3, none⟩ = some (.int .i64 1) := by rw [q3, hs1]; rfl
          clear q3 hs0
          by_cases hl : c'.left = 0
          · have q5' : w2.cell? ⟨g, 5, none⟩ = some (.int .i64 0) := by rw [q5, hl]; rfl
            clear q5
            have hsc := stC_z1 (B := bitsB L) hs1 hl
            have hun3 := Hun2.out.setSt 0 (.inl rfl)
            have hbl3 := Hbl2.out.trans (Hun2.out.bel (Ch.set (Ch.refl _ w2) (p := ⟨g, 3, none⟩) (.inl (.inr (.inl rfl))) (.int .i64 (0 : Nat))) hbz)
            have Hsc := Lib.hid hsc
            have Hun3 := Lib.hid hun3
            have Hbl3 := Lib.hid hbl3
            clear hsc hun3 hbl3 hs1 hl
            go_wp2_with fail
            go_step3
            exact .inl ⟨rfl, _, Nat.lt_of_succ_lt (Hgo.out _ Hsc.out).1, ⟨_, _, _, _, _, _, _, _, _, _, _, _, _, _, _, _, _, _, _, _, _, _, _, _, _, _, _, _, _, _, _, _, _, _, _, _, _, _, _, _, _, _, _, _, _, _, _, _, _, _, _, _, _, _, _, _, _, _, _, _, _, _, _, _, _, _, _, _, _, _, _, _, _, _, _, _, _, _, _, _, _, _, _, _, _, _, _, _, _, _, _, _, _, _, _, _, _, _, _, _, _, _, _, _, _, _, _, _, _, _, _, _, _, _, _, _, _, _, _, _, _, _, _, _, _, _, _, _, _, _, _, _, _, _, _, _, _, _, _, _, _, rfl⟩, _, _, _, _, Hun3.out, .step Hrn.out Hsc.out, (Hgo.out _ Hsc.out).2, Hbl3.out, rfl⟩
          · have h5d : ((c'.left : Int) == 0) = false := by simp; omega
            by_cases hfit : c'.a + 8 ≤ 8 * L.length
            · have hsc := stC_b1 hs1 hl (nd_yes hfit)
              have hw8 := wrap8 (peekN L c'.a 8) (peek8 hfit)
              have hb8 := bits8_yes Hun2.out.ub.rd hfit
              obtain ⟨u, hu⟩ : ∃ u, UInt8.ofNat (peekN L c'.a 8) = u := ⟨_, rfl⟩
              rw [hu] at hsc hw8
              have hw5 : IntKind.i64.wrap ((c'.left : Int) - 1) = ((c'.left - 1 : Nat) : Int) := by rw [IntWalk.i64_in _ (by omega)]; omega
              have Hsc := Lib.hid hsc
              have Hb8 := Lib.hid hb8
              clear hsc hb8 hu hs1 hl hfit
              go_wp2_with fail
              refine Hb8.out.mono ?_
              rintro e w3 ⟨rfl, hr3, hc3⟩
              have hbk3 := Hun2.out.bk.ch hc3 Hun2.out.ub.sg
              have how3 := own_ch Hun2.out.ub.ow hc3 (fun i hi => Hun2.out.ub.os i hi)
              have hem := emit_any u hbk3 how3 (by omega) (Nat.le_trans hbz hc3.size)
              have Hem := Lib.hid hem
              have Hr3 := Lib.hid hr3
              have Hc3 := Lib.hid hc3
              clear hem hr3 hc3 hbk3 how3
              go_wp2_with fail
              refine Hem.out.mono ?_
              rintro e w4 ⟨rfl, vo4, hbk4, how4, hc4, hv4⟩
              have k5 : w4.cell? ⟨g, 5, none⟩ = some (.int .i64 (c'.left : Int)) := hbk4.cell 5
              have l5 : w4.frozen? ⟨g, 5, none⟩ = false := hbk4.free 5
              obtain ⟨hun5, hc5⟩ := UN.put Hun2.out Hr3.out Hc3.out hbk4 how4 hc4 hv4
              have hbl5 := Hbl2.out.trans (Hun2.out.bel hc5 hbz)
              have Hun5 := Lib.hid hun5
              have Hbl5 := Lib.hid hbl5
              clear hun5 hbl5 hbk4 how4 hc4 hv4 hc5 Hun2 Hbl2 Hem Hb8 Hc3 Hr3
              go_wp2_with fail
              go_step3
              exact .inl ⟨rfl, _, Nat.lt_of_succ_lt (Hgo.out _ Hsc.out).1, ⟨_, _, _, _, _, _, _, _, _, _, _, _, _, _, _, _, _, _, _, _, _, _, _, _, _, _, _, _, _, _, _, _, _, _, _, _, _, _, _, _, _, _, _, _, _, _, _, _, _, _, _, _, _, _, _, _, _, _, _, _, _, _, _, _, _, _, _, _, _, _, _, _, _, _, _, _, _, _, _, _, _, _, _, _, _, _, _, _, _, _, _, _, _, _, _, _, _, _, _, _, _, _, _, _, _, _, _, _, _, _, _, _, _, _, _, _, _, _, _, _, _, _, _, _, _, _, _, _, _, _, _, _, _, _, _, _, _, _, _, _, _, rfl⟩, _, _, _, _, Hun5.out, .step Hrn.out Hsc.out, (Hgo.out _ Hsc.out).2, Hbl5.out, rfl⟩
            · have hsc := stC_n1 hs1 hl (nd_no hfit)
              have hb8 := bits8_no Hun2.out.ub.rd hfit
              have Hsc := Lib.hid hsc
              have Hb8 := Lib.hid hb8
              clear hsc hb8 hs1 hl hfit
              go_wp2_with fail
              refine Hb8.out.mono ?_
              rintro e w3 ⟨rfl, q, rfl⟩
              go_wp2_with fail
              simp only [Exit.jump2]
              go_ret
              exact ⟨3, rfl, .inr ⟨by decide, _, _, (Hun2.out.drewN q).ue, Hrn.out, Nat.lt_of_not_le Hh1.out, Hs4.out, Hsc.out, below_drewN Hbl2.out q⟩⟩
        by_cases hs2 : c'.st = 2
        · have q3' : w2.cell? ⟨g, 3, none⟩ = some (.int .i64 2) := by rw [q3, hs2]; rfl
          clear q3 hs0 hs1
          have hsy := symbol_any base g gi S L c' _ _ _ w2 Hun2.out hs2 (by omega)
          have Hsy := Lib.hid hsy
          clear hsy hs2
          go_wp2_with fail
          refine Hsy.out.mono ?_
          rintro e w3 ⟨E, rfl, hc3, hres⟩
          have hbl3 := Hbl2.out.trans (Hun2.out.bel hc3 hbz)
          have hJ : (E = 0 ∧ ∃ c'' vo'' y7 y8, stC (bitsB L) c' = some c'' ∧ UN w3 base g gi S L c'' vo'' y7 y8) ∨ (E ≠ 0 ∧ stC (bitsB L) c' = none ∧ UE w3 base g gi S L c'.out (.slice Ao c'.out.length co)) := by
            rcases hres with ⟨hE, c'', vo'', hs, hu, _⟩ | hno
            · exact .inl ⟨hE, _, _, _, _, hs, hu⟩
            · exact .inr hno
          obtain ⟨k, hk, hj⟩ := toJ2 Hgo.out Hn0.out Hrn.out Hh1.out Hs4.out hbl3 hJ
          have Hk := Lib.hid hk
          have Hj := Lib.hid hj
          clear hk hj hJ hbl3 hres hc3
          go_wp2_with fail
          go_step3
          exact .inr ⟨rfl, k, Hk.out, _, _, _, ⟨_, _, _, _, _, _, _, _, _, _, _, _, _, _, _, _, _, _, _, _, _, _, _, _, _, _, _, _, _, _, _, _, _, _, _, _, _, _, _, _, _, _, _, _, _, _, _, _, _, _, _, _, _, _, _, _, _, _, _, _, _, _, _, _, _, _, _, _, _, _, _, _, _, _, _, _, _, _, _, _, _, _, _, _, _, _, _, _, _, _, _, _, _, _, _, _, _, _, _, _, _, _, _, _, _, _, _, _, _, _, _, _, _, _, _, _, _, _, _, _, _, _, _, _, _, _, _, _, _, _, _, _, _, _, _, _, _, _, rfl⟩, Hj.out⟩
        · have hs3 : c'.st = 3 := by have := Hs4.out; omega
          have q3' : w2.cell? ⟨g, 3, none⟩ = some (.int .i64 3) := by rw [q3, hs3]; rfl
          clear q3 hs0 hs1 hs2
          by_cases hl : c'.left = 0
          · have q5' : w2.cell? ⟨g, 5, none⟩ = some (.int .i64 0) := by rw [q5, hl]; rfl
            clear q5
            have hsc := stC_z3 (B := bitsB L) hs3 hl
            have hun3 := Hun2.out.setSt 2 (.inr (.inr ⟨rfl, hs3⟩))
            have hbl3 := Hbl2.out.trans (Hun2.out.bel (Ch.set (Ch.refl _ w2) (p := ⟨g, 3, none⟩) (.inl (.inr (.inl rfl))) (.int .i64 (2 : Nat))) hbz)
            have Hsc := Lib.hid hsc
            have Hun3 := Lib.hid hun3
            have Hbl3 := Lib.hid hbl3
            clear hsc hun3 hbl3 hs3 hl
            go_wp2_with fail
            go_step3
            exact .inl ⟨rfl, _, Nat.lt_of_succ_lt (Hgo.out _ Hsc.out).1, ⟨_, _, _, _, _, _, _, _, _, _, _, _, _, _, _, _, _, _, _, _, _, _, _, _, _, _, _, _, _, _, _, _, _, _, _, _, _, _, _, _, _, _, _, _, _, _, _, _, _, _, _, _, _, _, _, _, _, _, _, _, _, _, _, _, _, _, _, _, _, _, _, _, _, _, _, _, _, _, _, _, _, _, _, _, _, _, _, _, _, _, _, _, _, _, _, _, _, _, _, _, _, _, _, _, _, _, _, _, _, _, _, _, _, _, _, _, _, _, _, _, _, _, _, _, _, _, _, _, _, _, _, _, _, _, _, _, _, _, _, _, _, rfl⟩, _, _, _, _, Hun3.out, .step Hrn.out Hsc.out, (Hgo.out _ Hsc.out).2, Hbl3.out, rfl⟩
          · have h5d : ((c'.left : Int) == 0) = false := by simp; omega
            have hsc := stC_c3 (B := bitsB L) hs3 hl
            obtain ⟨hv1, hv2⟩ := Hun2.out.iv hs3
            obtain ⟨Ab, rfl⟩ : ∃ Ab, Ao = some ⟨Ab, 0, none⟩ := by
              rcases Hun2.out.ub.ow.2 with ⟨h2, h3⟩ | ⟨gg, cap, cur, hv, _⟩
              · omega
              · injection hv with hv; exact ⟨_, hv⟩
            have hw6 : IntKind.i64.wrap ((c'.out.length : Int) - (c'.back : Int)) = ((c'.out.length - c'.back : Nat) : Int) := by rw [IntWalk.i64_in _ (by omega)]; omega
            have hby := own_byte Hun2.out.ub.ow (j := c'.out.length - c'.back) (by omega)
            obtain ⟨u, hu⟩ : ∃ u, c'.out[c'.out.length - c'.back]?.getD 0 = u := ⟨_, rfl⟩
            rw [hu] at hsc hby
            have hw5 : IntKind.i64.wrap ((c'.left : Int) - 1) = ((c'.left - 1 : Nat) : Int) := by rw [IntWalk.i64_in _ (by omega)]; omega
            obtain ⟨j, hj⟩ : ∃ j, c'.out.length - c'.back = j := ⟨_, rfl⟩
            rw [hj] at hw6 hby
            have hjl : (j : Int) < (c'.out.length : Int) := by omega
            have Hsc := Lib.hid hsc
            clear hsc hu hs3 hl hv1 hv2 hj
            go_wp2_with fail
            have hem := emit_any u Hun2.out.bk.drew (own_ch Hun2.out.ub.ow ((Ch.refl (fun _ => False) w2).drew) (fun i _ h => h)) (by omega) (show base ≤ w2.drew.heap.size from hbz)
            have Hem := Lib.hid hem
            clear hem
            go_still_tail 17, (by kernel_rfl)
            change wpList _ _ _ _ _ w2.drew
            go_wp2_with fail
            refine Hem.out.mono ?_
            rintro e w4 ⟨rfl, vo4, hbk4, how4, hc4, hv4⟩
            have k5 : w4.cell? ⟨g, 5, none⟩ = some (.int .i64 (c'.left : Int)) := hbk4.cell 5
            have l5 : w4.frozen? ⟨g, 5, none⟩ = false := hbk4.free 5
            obtain ⟨hun5, hc5⟩ := UN.put Hun2.out (Hun2.out.ub.rd.ch ((Ch.refl (fun _ => False) w2).drew) (fun _ _ h => h)) ((Ch.refl S w2).drew) hbk4 how4 hc4 hv4
            have hbl5 := Hbl2.out.trans (Hun2.out.bel hc5 hbz)
            have Hun5 := Lib.hid hun5
            have Hbl5 := Lib.hid hbl5
            clear hun5 hbl5 hbk4 how4 hc4 hv4 hc5 Hun2 Hbl2 Hem
            go_wp2_with fail
            go_step3
            exact .inl ⟨rfl, _, Nat.lt_of_succ_lt (Hgo.out _ Hsc.out).1, ⟨_, _, _, _, _, _, _, _, _, _, _, _, _, _, _, _, _, _, _, _, _, _, _, _, _, _, _, _, _, _, _, _, _, _, _, _, _, _, _, _, _, _, _, _, _, _, _, _, _, _, _, _, _, _, _, _, _, _, _, _, _, _, _, _, _, _, _, _, _, _, _, _, _, _, _, _, _, _, _, _, _, _, _, _, _, _, _, _, _, _, _, _, _, _, _, _, _, _, _, _, _, _, _, _, _, _, _, _, _, _, _, _, _, _, _, _, _, _, _, _, _, _, _, _, _, _, _, _, _, _, _, _, _, _, _, _, _, _, _, _, _, rfl⟩, _, _, _, _, Hun5.out, .step Hrn.out Hsc.out, (Hgo.out _ Hsc.out).2, Hbl5.out, rfl⟩
end Go.Proofs.Ytnedboomhbdecaa
