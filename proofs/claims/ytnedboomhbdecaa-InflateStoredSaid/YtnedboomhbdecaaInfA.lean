/- Contracts of package inflate: need, emit. -/
import Derived.Test.YtnedboomhbdecaaInfH
import Derived.Test.YtnedboomhbdecaaMem
namespace Go.Proofs.Ytnedboomhbdecaa
open Go.RowKit
attribute [local go_sem ↓] Go.wp_at_zero Go.wp_at_succ

section
variable {w w' : World}
theorem Bk.ne {g g' : Nat} {t t' : TypeId} {cs cs' : Array Value} (h : Bk w g t cs) (h' : Bk w g' t' cs') (hne : t ≠ t') : g ≠ g' := by
  rintro rfl
  unfold Bk at h h'
  rw [h] at h'
  injection h' with h'
  injection h' with _ ht
  exact hne ht
theorem own_ne {base s n : Nat} {e t : TypeId} {v : Value} {xs : List Value} {g : Nat} {cs : Array Value} (h : w.ownsRow base e s v n xs) (hg : Bk w g t cs) (hne : e ≠ t) : v.ownBlock ≠ some g := by
  rcases h.2 with ⟨rfl, _⟩ | ⟨g', cap, cur, rfl, _, hh, _⟩
  · simp [Value.ownBlock]
  · intro he
    have : g' = g := by simpa [Value.ownBlock] using he
    subst this
    exact Bk.ne (t := e) hh hg hne rfl
theorem own_apart' {base s n : Nat} {e t : TypeId} {v : Value} {xs : List Value} {g : Nat} {cs : Array Value} (h : w.ownsRow base e s v n xs) (hg : Bk w g t cs) (hne : e ≠ t) {i : Nat} {u : Value} : (w.setCell ⟨g, i, none⟩ u).ownsRow base e s v n xs := by
  refine h.kept (gb_set (World.grownBy.refl _ _) i u) ?_
  exact .inr (own_ne h hg hne)
end
/-- The first error stays. -/
def erE (E : Int) : Int := if E = 0 then 3 else E
theorem hel_id {n : Nat} (h : n ≤ 24) : hel (n : Int) = n ∧ (hel (n : Int)).toNat = n := by unfold hel; omega
/-- Bits that are there. -/
theorem need_yes {g gi : Nat} {S : Nat → Prop} {L : List UInt8} {a : Nat} {w : World} (n : Nat) (ve : Value) (hc : w.cell? ⟨g, 0, none⟩ = some (.pointer (some ⟨gi, 0, none⟩))) (hr : RdS w S gi L a) (hn : n ≤ 24) (ha : a + n ≤ 8 * L.length) :
    Calls Try.prog 70 #[.pointer (some ⟨g, 0, none⟩), .int .i64 n, ve] w fun e w' => e = .returned (.int .i64 (peekN L a n : Nat)) ∧ RdS w' S gi L (a + n) ∧ Ch S w w' := by
  have hb := rbits_yes gi S L a (n : Int) w hr (by rw [(hel_id hn).1]; omega)
  rw [(hel_id hn).2] at hb
  have Hb := Lib.hid hb
  clear hb hr ha
  generalize peekN L a n = x at *
  go_enter Try.func70, Try.ntmps70
  go_wp2_with fail
  refine Hb.out.mono ?_
  rintro e w1 ⟨rfl, h1, h2⟩
  go_wp2
  go_ret
  exact ⟨rfl, h1, h2⟩
/-- Bits that aren't. -/
theorem need_no {g gi ge : Nat} {S : Nat → Prop} {L : List UInt8} {a : Nat} {w : World} (n : Nat) {E : Int} (hc : w.cell? ⟨g, 0, none⟩ = some (.pointer (some ⟨gi, 0, none⟩))) (hr : RdS w S gi L a) (hn : n ≤ 24) (ha : ¬ a + n ≤ 8 * L.length) (he : Bk w ge 34 #[.int .i64 E]) :
    Calls Try.prog 70 #[.pointer (some ⟨g, 0, none⟩), .int .i64 n, .pointer (some ⟨ge, 0, none⟩)] w fun e w' => e = .returned (.int .i64 0) ∧ Bk w' ge 34 #[.int .i64 (erE E)] ∧ Ch (fun k => k = ge) w w' := by
  have hb := rbits_no gi S L a (n : Int) w hr (by rw [(hel_id hn).1]; omega)
  have Hb := Lib.hid hb
  have he0 := he.cell 0
  have hf0 := he.free 0
  have He := Lib.hid he
  clear hb hr ha he
  simp at he0
  go_enter Try.func70, Try.ntmps70
  go_wp2_with fail
  refine Hb.out.mono ?_
  rintro e w1 ⟨rfl, q, rfl⟩
  by_cases hE : E = 0
  · have hEb : (E == 0) = true := by simp [hE]
    have hset := (He.out.drewN q).set 0 (.int .i64 3)
    rw [show (3 : Int) = erE E by simp [erE, hE]] at hset
    have Hset := Lib.hid hset
    have h3 : erE E = 3 := by simp [erE, hE]
    have H3 := Lib.hid h3
    clear hE hset h3
    go_wp2
    go_ret
    exact ⟨rfl, by have := Hset.out; rw [H3.out] at this ⊢; exact this, ((Ch.refl (fun k => k = ge) w).drewN q).set (p := ⟨ge, 0, none⟩) (.inl rfl) _⟩
  · have hEb : (E == 0) = false := by simp [hE]
    have H3 := Lib.hid (show erE E = E by simp [erE, hE])
    clear hE
    go_wp2
    go_ret
    exact ⟨rfl, by rw [H3.out]; exact He.out.drewN q, (Ch.refl _ _).drewN q⟩
/-- A byte is put out. -/
theorem emit_any {g base : Nat} {c0 vo c2 c3 c4 c5 c6 c7 c8 : Value} {out : List UInt8} {w : World} (u : UInt8) (hb : Bk w g 95 #[c0, vo, c2, c3, c4, c5, c6, c7, c8]) (ho : w.ownsRow base 5 1 vo out.length (bys out)) (hn : out.length ≤ 1000000) (hbase : base ≤ w.heap.size) :
    Calls Try.prog 67 #[.pointer (some ⟨g, 0, none⟩), .int .u8 (u.toNat : Int)] w fun e w' => e = .returned (.tuple #[]) ∧ ∃ vo', Bk w' g 95 #[c0, vo', c2, c3, c4, c5, c6, c7, c8] ∧ w'.ownsRow base 5 1 vo' (out ++ [u]).length (bys (out ++ [u])) ∧ Ch (fun k => k = g ∨ vo.ownBlock = some k) w w' ∧ (vo'.ownBlock = vo.ownBlock ∨ ∃ k, vo'.ownBlock = some k ∧ w.heap.size ≤ k) := by
  have k1 := hb.cell 1
  simp at k1
  obtain ⟨Ao, co, rfl, hco, _⟩ := own_form ho
  have hbA := hb.alloc (.cells #[.int .u8 (u.toNat : Int)] 5)
  have hoA := ho.alloc (.cells #[.int .u8 (u.toNat : Int)] 5)
  have hgne := own_ne ho hb (by decide)
  have hone : Rd (w.alloc (.cells #[.int .u8 (u.toNat : Int)] 5)) (w.heap.size + 1) 1 (some ⟨w.heap.size, 0, none⟩) 1 (bys [u]) := Rd.oneB w 5 rfl
  have Hone := Lib.hid hone
  have HbA := Lib.hid hbA
  have HoA := Lib.hid hoA
  have Hgne := Lib.hid hgne
  have hglt := hb.lt
  clear hone hbA hoA ho hb hgne
  go_enter Try.func67, Try.ntmps67
  go_wp2_with ((at_builtin; refine ap_bys (base := base) (w0 := w.alloc (.cells #[.int .u8 (u.toNat : Int)] 5)) HoA.out Hone.out (Below.refl _ _) (by simp; omega) (by omega) (by rfl) (by rfl) (by rfl) ?_; intro v4 w4 hown4 hb4 hg4 hat4; obtain ⟨A4, c4', rfl, _, _⟩ := own_form hown4; have hbk4 := HbA.out.grown hg4 (fun e => Hgne.out e.symm); have hf4 := hbk4.free 1; have hc4 := hbk4.cell 1; simp at hc4; have Hbk4 := Lib.hid hbk4; have Hown4 := Lib.hid hown4; have Hg4 := Lib.hid hg4; have Hat4 := Lib.hid hat4; clear hbk4 hown4 hb4 hg4 hat4))
  go_end0
  have hset := Hbk4.out.set 1 (.slice A4 (out.length + 1) c4')
  refine ⟨rfl, _, hset, ?_, ?_, ?_⟩
  · rw [List.length_append]
    exact own_apart' Hown4.out Hbk4.out (by decide)
  · exact (((Ch.refl _ w).alloc _).grown Hg4.out (fun i hi => .inl (.inr hi.symm.symm))).set (p := ⟨g, 1, none⟩) (.inl (.inl rfl)) _
  · rcases Hat4.out with h | h
    · exact .inl h
    · exact .inr ⟨_, h, by simp⟩
end Go.Proofs.Ytnedboomhbdecaa
