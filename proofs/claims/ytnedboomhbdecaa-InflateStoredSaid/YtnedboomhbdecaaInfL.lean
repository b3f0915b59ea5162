/- Contracts of package inflate: lengths. -/
import Derived.Test.YtnedboomhbdecaaInfO
import Derived.Test.YtnedboomhbdecaaInts
import Derived.Deep.CutBlock
import Derived.Deep.DeepCutAuto
namespace Go.Proofs.Ytnedboomhbdecaa
open Go.RowKit
attribute [local go_sem ↓] Go.wp_at_zero Go.wp_at_succ

theorem Ch.cell {S : Nat → Prop} {w w' : World} (h : Ch S w w') {b : Nat} (hb : b < w.heap.size) (hS : ¬ S b) (o : Nat) : w'.cell? ⟨b, o, none⟩ = w.cell? ⟨b, o, none⟩ := World.cell?_of_block (h.block b hb hS)
theorem RdS.lt {w : World} {S : Nat → Prop} {g : Nat} {l : List UInt8} {a : Nat} (h : RdS w S g l a) : ∀ k, S k → k < w.heap.size := by obtain ⟨_, _, _, _, _, h, _⟩ := h; exact h
theorem RdS.le {w : World} {S : Nat → Prop} {g : Nat} {l : List UInt8} {a : Nat} (h : RdS w S g l a) : a ≤ 8 * l.length := by obtain ⟨_, _, _, _, _, _, h, _⟩ := h; exact h
theorem restL_bnn (L : List UInt8) (a : Nat) : restL L a = (bnn (bitsB L)).drop a := rfl
theorem nd_yes {L : List UInt8} {a k : Nat} (h : a + k ≤ 8 * L.length) : ndP k (bitsB L) a = some (peekN L a k, a + k) := by
  unfold ndP; rw [if_pos (by rw [bitsB_len]; exact h)]; rfl
theorem nd_no {L : List UInt8} {a k : Nat} (h : ¬ a + k ≤ 8 * L.length) : ndP k (bitsB L) a = none := by
  unfold ndP; rw [if_neg (by rw [bitsB_len]; exact h)]
section
variable {cl acc : List Int} {n f : Nat} {L : List UInt8} {a s N : Nat} (h : acc.length < n) (hM : Met cl ((bnn (bitsB L)).drop a) s N)
include h hM
theorem lenP_go : lenP cl n (f + 1) acc (bitsB L) a = (if s = 16 then bndP (ndP 2) fun v => (if acc.length = 0 then failP else lenP cl n f (acc ++ List.replicate (3 + v) (acc[acc.length - 1]?.getD 0)))
    else if s = 17 then bndP (ndP 3) fun v => lenP cl n f (acc ++ List.replicate (3 + v) 0)
    else if s = 18 then bndP (ndP 7) fun v => lenP cl n f (acc ++ List.replicate (11 + v) 0)
    else lenP cl n f (acc ++ [(s : Int)])) (bitsB L) (a + N) := by
  conv => lhs; unfold lenP
  rw [if_neg (by omega), bndP_of (nxP_some hM)]
theorem lenP_other (h1 : s ≠ 16) (h2 : s ≠ 17) (h3 : s ≠ 18) : lenP cl n (f + 1) acc (bitsB L) a = lenP cl n f (acc ++ List.replicate 1 (s : Int)) (bitsB L) (a + N) := by
  rw [lenP_go h hM, if_neg h1, if_neg h2, if_neg h3]; rfl
theorem lenP_16 (h1 : s = 16) (h2 : acc.length ≠ 0) (h3 : a + N + 2 ≤ 8 * L.length) : lenP cl n (f + 1) acc (bitsB L) a = lenP cl n f (acc ++ List.replicate (3 + peekN L (a + N) 2) (acc[acc.length - 1]?.getD 0)) (bitsB L) (a + N + 2) := by
  rw [lenP_go h hM, if_pos h1, bndP_of (nd_yes h3), if_neg h2]
theorem lenP_16n (h1 : s = 16) (h2 : acc.length = 0 ∨ ¬ a + N + 2 ≤ 8 * L.length) : lenP cl n (f + 1) acc (bitsB L) a = none := by
  rw [lenP_go h hM, if_pos h1]
  by_cases h3 : a + N + 2 ≤ 8 * L.length
  · rw [bndP_of (nd_yes h3), if_pos (by omega)]; rfl
  · rw [bndP_none (nd_no h3)]
theorem lenP_17 (h1 : s = 17) (h3 : a + N + 3 ≤ 8 * L.length) : lenP cl n (f + 1) acc (bitsB L) a = lenP cl n f (acc ++ List.replicate (3 + peekN L (a + N) 3) 0) (bitsB L) (a + N + 3) := by
  rw [lenP_go h hM, if_neg (by omega), if_pos h1, bndP_of (nd_yes h3)]
theorem lenP_17n (h1 : s = 17) (h3 : ¬ a + N + 3 ≤ 8 * L.length) : lenP cl n (f + 1) acc (bitsB L) a = none := by
  rw [lenP_go h hM, if_neg (by omega), if_pos h1, bndP_none (nd_no h3)]
theorem lenP_18 (h1 : s = 18) (h3 : a + N + 7 ≤ 8 * L.length) : lenP cl n (f + 1) acc (bitsB L) a = lenP cl n f (acc ++ List.replicate (11 + peekN L (a + N) 7) 0) (bitsB L) (a + N + 7) := by
  rw [lenP_go h hM, if_neg (by omega), if_neg (by omega), if_pos h1, bndP_of (nd_yes h3)]
theorem lenP_18n (h1 : s = 18) (h3 : ¬ a + N + 7 ≤ 8 * L.length) : lenP cl n (f + 1) acc (bitsB L) a = none := by
  rw [lenP_go h hM, if_neg (by omega), if_neg (by omega), if_pos h1, bndP_none (nd_no h3)]
end
def lenV : Value → Nat
  | .slice _ m _ => m
  | _ => 0
/-- How the reading of lengths ends. -/
def LenR (cl : List Int) (n : Nat) (B : List Bool) (a : Nat) (lo gi : Nat) (S : Nat → Prop) (L : List UInt8) (e : Ending) (w' : World) : Prop :=
  (∃ l a' A c, lenP cl n (n + 1) [] B a = some (l, a') ∧ e = .returned (.tuple #[.slice A n c, .int .i64 0]) ∧ l.length = n ∧ n ≤ c ∧ w'.ownsRow lo 3 1 (.slice A n c) n (its l) ∧ RdS w' S gi L a') ∨
  (lenP cl n (n + 1) [] B a = none ∧ ∃ E a', e = .returned (.tuple #[.slice none 0 0, .int .i64 E]) ∧ E ≠ 0 ∧ RdS w' S gi L a')
/-- What stands at the head of the loop. -/
def LenI (cl : List Int) (n : Nat) (B : List Bool) (a : Nat) (lo gi : Nat) (S : Nat → Prop) (L : List UInt8) (w : World) (v : Value) (acc : List Int) (wr : World) : Prop :=
  ∃ a1 f, wr.ownsRow lo 3 1 v acc.length (its acc) ∧ RdS wr S gi L a1 ∧ Ch S w wr ∧ lenP cl n (n + 1) [] B a = lenP cl n f acc B a1 ∧ n + 1 ≤ f + acc.length
/-- Behind the switch. -/
def LenM (cl : List Int) (n : Nat) (B : List Bool) (a : Nat) (lo gi ge : Nat) (S : Nat → Prop) (L : List UInt8) (w : World) (v : Value) (acc : List Int) (x : Int) (T : Nat) (E : Int) (wx : World) : Prop :=
  wx.ownsRow lo 3 1 v acc.length (its acc) ∧ Ch S w wx ∧ wx.cell? ⟨ge, 0, none⟩ = some (.int .i64 E) ∧ ∃ a2, RdS wx S gi L a2 ∧
    ((E = 0 ∧ 1 ≤ T ∧ ∃ f, lenP cl n (n + 1) [] B a = lenP cl n f (acc ++ List.replicate T x) B a2 ∧ n + 1 ≤ f + acc.length + T) ∨ (E ≠ 0 ∧ lenP cl n (n + 1) [] B a = none))
set_option maxHeartbeats 8000000 in
set_option maxRecDepth 100000 in
theorem lengths_any (g gi gc : Nat) (S : Nat → Prop) (L : List UInt8) (a n : Nat) (cl : List Int) (w : World) (hc : ∀ w', Ch S w w' → HRw w' cl gc) (hr : RdS w S gi L a) (h0 : w.cell? ⟨g, 0, none⟩ = some (.pointer (some ⟨gi, 0, none⟩))) (hg : g < w.heap.size) (hgS : ¬ S g) (hn : n ≤ 400) (hm : mayB cl = true) (ho : overTo cl 15 = false) :
    Calls Try.prog 76 #[.pointer (some ⟨g, 0, none⟩), .pointer (some ⟨gc, 0, none⟩), .int .i64 n] w fun e w' => LenR cl n (bitsB L) a w.heap.size gi S L e w' ∧ Ch S w w' := by
  obtain ⟨hall, hl320⟩ := may_all hm
  have Hc := Lib.hid hc
  have Hr := Lib.hid hr
  have H0 := Lib.hid h0
  have Hm := Lib.hid hm
  have Ho := Lib.hid ho
  have Hall := Lib.hid hall
  have Hst := Lib.hid (show LenI cl n (bitsB L) a w.heap.size gi S L w (.slice none 0 0) [] w from ⟨a, n + 1, own_nilI _ _ _, hr, Ch.refl _ _, rfl, by simp⟩)
  clear hc hr h0 hm ho hall
  go_enter Try.func76, Try.ntmps76
  go_wp2_with fail
  go_loopw [8] (fun s wr => ∃ (acc : List Int) (Al : Option Addr) (m c : Nat), s = .slice Al m c ∧ m = acc.length ∧ m ≤ n + 138 ∧ Hid (LenI cl n (bitsB L) a w.heap.size gi S L w (.slice Al m c) acc wr)) (fun s _ => n - lenV s)
  case atStart => exact ⟨[], none, 0, 0, rfl, rfl, by omega, Hst⟩
  case round =>
    obtain ⟨acc, Al, m, c, rfl, hma, hmn, hI⟩ := hrel
    clear Hst
    obtain ⟨a1, f, hown, hrd, hch, hlen, hf⟩ := hI.out
    have hgl : g < wr.heap.size := Nat.lt_of_lt_of_le hg hch.size
    have h0r : wr.cell? ⟨g, 0, none⟩ = some (.pointer (some ⟨gi, 0, none⟩)) := (hch.cell hg hgS 0).trans H0.out
    by_cases hlt : m < n
    · have hnx := hnext_c cl gc gi S L a1 wr (fun w' h => Hc.out w' (hch.trans h (fun i hi => .inl hi))) hrd hl320 Hall.out Ho.out
      have Hnx := Lib.hid hnx
      have Hown := Lib.hid hown
      have Hch := Lib.hid hch
      have Hlen := Lib.hid hlen
      have Hma := Lib.hid hma
      have Hf := Lib.hid hf
      clear hnx hown hch hlen hrd hI hma hf
      go_wp2_with fail
      refine Hnx.out.mono ?_
      rintro e w1 ⟨E, s, N, hNX, rfl, hr1, hc1⟩
      have hz1 := hc1.size
      by_cases hE : E = 0
      · have hM : Met cl ((bnn (bitsB L)).drop a1) s N := by
          rcases hNX with ⟨_, h⟩ | ⟨h, _⟩ | ⟨h, _⟩
          · exact h
          · omega
          · omega
        rw [if_pos hE] at hr1
        have hs320 : s < 320 := by have := (List.getElem?_eq_some_iff.1 hM.1).1; omega
        have HM := Lib.hid hM
        have hch1 : Ch S w w1 := Hch.out.trans hc1 (fun i hi => .inl hi)
        have Hch1 := Lib.hid hch1
        have hown1 := own_ch Hown.out hc1 (fun i hi h => by have := (Hown.out.lt i hi).1; have := Hr.out.lt i h; omega)
        have h01 := (hch1.cell hg hgS 0).trans H0.out
        have hgl1 : g < w1.heap.size := Nat.lt_of_lt_of_le hg hch1.size
        subst hE
        clear hNX hM hch1 hc1
        have Hr1 := Lib.hid hr1
        have Hown1 := Lib.hid hown1
        clear hr1 hown1
        go_upto_block 2 with (fail)
        go_cut [11, 12] (fun v11 v12 wx => ∃ (x : Int) (T : Nat) (E : Int), v11 = .int .i64 x ∧ v12 = .int .i64 T ∧ T ≤ 138 ∧ Hid (LenM cl n (bitsB L) a w.heap.size gi w1.heap.size S L w (.slice Al m c) acc x T E wx))
        case rest =>
          obtain ⟨x, T, E, rfl, rfl, hT, hM⟩ := hcut
          obtain ⟨hown, hch, hce, a2, hr2, hcs⟩ := hM.out
          rcases hcs with ⟨rfl, hT1, f2, hl2, hf2⟩ | ⟨hE, hnone⟩
          · have Hown := Lib.hid hown
            have Hch := Lib.hid hch
            have Hr2 := Lib.hid hr2
            have Hl2 := Lib.hid hl2
            have Hf2 := Lib.hid hf2
            clear hown hch hr2 hl2 hf2 hM HM Hown1 Hch1 Hr1 Hnx h01 h0r Hlen Hf
            go_wp2_with fail
            clear hce
            obtain ⟨wo, rfl⟩ : ∃ wo : World, wo = wc := ⟨_, rfl⟩
            go_loopw [8, 59] (fun v i wr => ∃ (k : Nat) (Ak : Option Addr) (ck : Nat), v = .slice Ak (m + k) ck ∧ i = .int .i64 k ∧ k ≤ T ∧ Hid (wr.ownsRow w.heap.size 3 1 (.slice Ak (m + k) ck) (m + k) (its (acc ++ List.replicate k x))) ∧ Hid (RdS wr S gi L a2) ∧ Hid (Ch S w wr)) (fun _ i _ => T - (intOf i).toNat)
            case atStart => exact ⟨0, Al, c, rfl, rfl, Nat.zero_le _, Lib.hid (by rw [List.replicate_zero, List.append_nil]; have := Hown.out; rw [← Hma.out] at this; exact this), Hr2, Hch⟩
            case round =>
              obtain ⟨k, Ak, ck, rfl, rfl, hk, ho, hrr, hcc⟩ := hrel
              clear Hown Hr2 Hch
              by_cases hkT : k < T
              · have hox := ho.out.alloc (.cells #[.int .i64 x] 3)
                have hone : Rd (wr.alloc (.cells #[.int .i64 x] 3)) (wr.heap.size + 1) 1 (some ⟨wr.heap.size, 0, none⟩) 1 (its [x]) := Rd.oneI wr 3 x
                have Hox := Lib.hid hox
                have Hone := Lib.hid hone
                have hzz := hcc.out.size
                have Hsnoc := Lib.hid (show acc ++ List.replicate (k + 1) x = acc ++ List.replicate k x ++ [x] by rw [List.replicate_succ', List.append_assoc])
                clear hox hone
                go_wp2_with ((at_builtin; refine ap_its (base := w.heap.size) (w0 := wr.alloc (.cells #[.int .i64 x] 3)) Hox.out Hone.out (Below.refl _ _) (by simp; omega) (by omega) (by rfl) (by rfl) (by rfl) ?_; intro v7 w7 hown7 hb7 hg7 hat7; obtain ⟨A7, c7, rfl, _, _⟩ := own_form hown7))
                have hg7' : Ch S w w7 := (hcc.out.alloc _).grown hg7 (fun i hi => .inr (ho.out.lt i hi.symm.symm).1)
                have hr7 : RdS w7 S gi L a2 := (hrr.out.ch ((Ch.refl (fun _ => False) wr).alloc _) (fun _ _ h => h)).ch ((Ch.refl (fun i => (Value.slice Ak (m + k) ck).ownBlock = some i) _).grown hg7 (fun i hi => .inl hi)) (fun i hi h => by have := (ho.out.lt i h).1; have := Hr.out.lt i hi; omega)
                rw [← Hsnoc.out] at hown7
                have Hown7 := Lib.hid hown7
                have Hr7 := Lib.hid hr7
                have Hc7 := Lib.hid hg7'
                clear hown7 hb7 hg7 hat7 hr7 hg7' ho hrr hcc Hox Hone
                go_wp2_with fail
                go_roundw
                case rel => exact ⟨k + 1, A7, c7, rfl, by go_num, by omega, Hown7, Hr7, Hc7⟩
                case measure => simp [intOf]; omega
              · obtain rfl : T = k := by omega
                have hnx : LenI cl n (bitsB L) a w.heap.size gi S L w (.slice Ak (m + T) ck) (acc ++ List.replicate T x) wr := by
                  refine ⟨a2, f2, ?_, hrr.out, hcc.out, Hl2.out, ?_⟩
                  · have := ho.out
                    rw [show (acc ++ List.replicate T x).length = m + T by rw [List.length_append, List.length_replicate, Hma.out]]
                    exact this
                  · rw [List.length_append, List.length_replicate]; have := Hf2.out; omega
                have Hnx := Lib.hid hnx
                have hlen2 : m + T = (acc ++ List.replicate T x).length := by rw [List.length_append, List.length_replicate, Hma.out]
                have Hlen2 := Lib.hid hlen2
                clear hnx ho hrr hcc hlen2
                go_wp2_with fail
                go_roundw
                case rel => exact ⟨_, Ak, _, ck, rfl, Hlen2.out, by omega, Hnx⟩
                case measure => simp only [lenV]; omega
          · have hEb : (E != 0) = true := by rw [bne_iff_ne]; exact hE
            have Hnone := Lib.hid hnone
            have Hr2 := Lib.hid hr2
            have Hch := Lib.hid hch
            have HE := Lib.hid hE
            clear hnone hr2 hch hown hM HM Hown1 Hch1 Hr1 Hnx h01 h0r hE
            go_wp2_with fail
            go_quiet (fail)
            go_wp2
            go_ret2
            exact ⟨.inr ⟨Hnone.out, E, a2, rfl, HE.out, Hr2.out.drewN' _⟩, Hch.out.drewN _⟩
        case first =>
          have hlt' : acc.length < n := by have := Hma.out; omega
          obtain ⟨f', hf'⟩ : ∃ f', f = f' + 1 := ⟨f - 1, by have := Hf.out; omega⟩
          have Hf' := Lib.hid hf'
          have Hle1 := Lib.hid hlt'
          clear hf' hlt'
          have hbe := Bk.new w1 34 #[.int .i64 0]
          have hra := (Hr1.out.ch ((Ch.refl (fun _ => False) w1).alloc (.cells #[.int .i64 0] 34)) (fun _ _ h => h))
          have Hra := Lib.hid hra
          have Hbe := Lib.hid hbe
          have h0a : (w1.alloc (.cells #[.int .i64 0] 34)).cell? ⟨g, 0, none⟩ = some (.pointer (some ⟨gi, 0, none⟩)) := (World.cell?_alloc_lt w1 _ ⟨g, 0, none⟩ hgl1).trans h01
          have Hcha := Lib.hid (Hch1.out.alloc (.cells #[.int .i64 0] 34))
          have Hoa := Lib.hid (Hown1.out.alloc (.cells #[.int .i64 0] 34))
          have Hch1z : w.heap.size ≤ w1.heap.size := Hch1.out.size
          have hgeS : ¬ S w1.heap.size := fun h => by have := Hr.out.lt _ h; have := Hch1.out.size; omega
          clear hbe hra Hr1 Hown1 Hch1 hgl h0r
          have hmid : ∀ (k : Nat) (w2 : World), Ch S (w1.alloc (.cells #[.int .i64 0] 34)) w2 → RdS w2 S gi L (a1 + N + k) → ∀ (x : Int) (T : Nat), 1 ≤ T → (lenP cl n (f' + 1) acc (bitsB L) a1 = lenP cl n f' (acc ++ List.replicate T x) (bitsB L) (a1 + N + k)) → LenM cl n (bitsB L) a w.heap.size gi w1.heap.size S L w (.slice Al m c) acc x T 0 w2 := by
            intro k w2 hc2 hr2 x T hT hl
            refine ⟨own_ch Hoa.out hc2 (fun i hi h => by have := (Hoa.out.lt i hi).1; have := Hr.out.lt i h; omega), Hcha.out.trans hc2 (fun i h => .inl h), (hc2.cell Hbe.out.lt hgeS 0).trans (Hbe.out.cell 0), _, hr2, .inl ⟨rfl, hT, f', by rw [Hlen.out, Hf'.out, hl], by have := Hf.out; have := Hf'.out; omega⟩⟩
          have hbad : ∀ (w2 : World) (E x : Int) (T : Nat), Ch (fun k => k = w1.heap.size) (w1.alloc (.cells #[.int .i64 0] 34)) w2 → Bk w2 w1.heap.size 34 #[.int .i64 E] → E ≠ 0 → lenP cl n (f' + 1) acc (bitsB L) a1 = none → LenM cl n (bitsB L) a w.heap.size gi w1.heap.size S L w (.slice Al m c) acc x T E w2 := by
            intro w2 E x T hc2 hb2 hE hl
            refine ⟨own_ch Hoa.out hc2 (fun i hi h => own_ne Hoa.out Hbe.out (by decide) (by rw [hi, h])), Hcha.out.trans hc2 (fun i h => .inr (by have := Hch1z; omega)), hb2.cell 0, _, Hra.out.ch hc2 (fun i hi h => hgeS (h ▸ hi)), .inr ⟨hE, by rw [Hlen.out, Hf'.out, hl]⟩⟩
          by_cases h16 : s = 16
          · have hsb : ((s : Int) == 16) = true := by rw [h16]; rfl
            by_cases hm0 : m = 0
            · have hl := lenP_16n (cl := cl) (n := n) (f := f') Hle1.out HM.out h16 (.inl (by have := Hma.out; omega))
              have hnone : lenP cl n (n + 1) [] (bitsB L) a = none := by rw [Hlen.out, Hf'.out, hl]
              have hmb : ((m : Int) == 0) = true := by rw [hm0]; rfl
              have Hnone := Lib.hid hnone
              have Hm0 := Lib.hid hm0
              by_cases hy : a1 + N + 2 ≤ 8 * L.length
              · have hnd := need_yes 2 (.pointer (some ⟨w1.heap.size, 0, none⟩)) h0a Hra.out (by omega) hy
                have hT := peekN_lt L (a1 + N) 2
                generalize peekN L (a1 + N) 2 = x at *
                have Hnd := Lib.hid hnd
                clear hmid hbad hnd hl h16 hnone hm0
                go_wp2_with fail
                refine Hnd.out.mono ?_
                rintro e w2 ⟨rfl, hr2, hc2⟩
                have hfin := Hcha.out.trans hc2 (fun i h => .inl h)
                have Hfin := Lib.hid hfin
                have Hr2 := Lib.hid hr2
                clear hfin hr2 hc2 Hnd
                go_wp2
                go_ret2
                exact ⟨.inr ⟨Hnone.out, 12, _, rfl, by decide, Hr2.out⟩, Hfin.out⟩
              · have hnd := need_no 2 h0a Hra.out (by omega) hy Hbe.out
                have Hnd := Lib.hid hnd
                clear hmid hbad hnd hl h16 hnone hm0
                go_wp2_with fail
                refine Hnd.out.mono ?_
                rintro e w2 ⟨rfl, hb2, hc2⟩
                have hfin := Hcha.out.trans hc2 (fun i h => .inr (by omega))
                have hr2 := Hra.out.ch hc2 (fun i hi h => hgeS (h ▸ hi))
                have Hfin := Lib.hid hfin
                have Hr2 := Lib.hid hr2
                clear hfin hr2 hb2 hc2 Hnd
                go_wp2
                go_ret2
                exact ⟨.inr ⟨Hnone.out, 12, _, rfl, by decide, Hr2.out⟩, Hfin.out⟩
            · have hmb : ((m : Int) == 0) = false := by rw [beq_eq_false_iff_ne]; omega
              by_cases hy : a1 + N + 2 ≤ 8 * L.length
              · have hnd := need_yes 2 (.pointer (some ⟨w1.heap.size, 0, none⟩)) h0a Hra.out (by omega) hy
                have hT := peekN_lt L (a1 + N) 2
                have hl := lenP_16 (cl := cl) (n := n) (f := f') Hle1.out HM.out h16 (by have := Hma.out; omega) hy
                generalize peekN L (a1 + N) 2 = x at *
                have hown2 : ∀ w2, Ch S (w1.alloc (.cells #[.int .i64 0] 34)) w2 → w2.ownsRow w.heap.size 3 1 (.slice Al m c) m (its acc) := fun w2 hc2 => by
                  have h := own_ch Hoa.out hc2 (fun i hi h => by have := (Hoa.out.lt i hi).1; have := Hr.out.lt i h; omega)
                  rw [← Hma.out] at h
                  exact h
                obtain ⟨bl, ol, u, hAl, _, hu, _⟩ := (Rd.of_own (hown2 _ (Ch.refl _ _))).num (k := m - 1) (by omega)
                have hcell : ∀ w2, Ch S (w1.alloc (.cells #[.int .i64 0] 34)) w2 → w2.cell? ⟨bl, ol + (m - 1), none⟩ = some (.int .i64 u) := fun w2 hc2 => by
                  obtain ⟨bl', ol', u', e1, _, hu', hcu⟩ := (Rd.of_own (hown2 w2 hc2)).num (k := m - 1) (by omega)
                  rw [hAl] at e1
                  injection e1 with e1
                  injection e1 with e1 e2
                  subst e1 e2
                  rw [hu] at hu'
                  injection hu' with hu'
                  rw [hu']; exact hcu
                rw [show acc[acc.length - 1]?.getD 0 = u by rw [← Hma.out, hu]; rfl] at hl
                have hmid' := fun w2 h1 h2 => hmid 2 w2 h1 h2 u (3 + x) (by omega) hl
                subst hAl
                have Hmid := Lib.hid hmid'
                have Hnd := Lib.hid hnd
                have Hcell := Lib.hid hcell
                have i0 : (0 : Int) ≤ (m : Int) - 1 := by omega
                have i1 : (m : Int) - 1 < (m : Int) := by omega
                have i2 : ((m : Int) - 1).toNat = m - 1 := by omega
                clear hmid hmid' hbad hnd hl h16 hown2 hcell hu
                go_wp2_with fail
                refine Hnd.out.mono ?_
                rintro e w2 ⟨rfl, hr2, hc2⟩
                have hM2 := Hmid.out w2 hc2 hr2
                have hc9 := Hcell.out w2 hc2
                have HM2 := Lib.hid hM2
                clear hM2 hr2 hc2 Hmid Hnd
                go_wp2_with fail
                go_meet
                exact ⟨u, 3 + x, 0, rfl, by go_num, by omega, HM2⟩
              · have hnd := need_no 2 h0a Hra.out (by omega) hy Hbe.out
                have hl := lenP_16n (cl := cl) (n := n) (f := f') Hle1.out HM.out h16 (.inr hy)
                have hown2 : ∀ w2, Ch (fun k => k = w1.heap.size) (w1.alloc (.cells #[.int .i64 0] 34)) w2 → w2.ownsRow w.heap.size 3 1 (.slice Al m c) m (its acc) := fun w2 hc2 => by
                  have h := own_ch Hoa.out hc2 (fun i hi h => own_ne Hoa.out Hbe.out (by decide) (by rw [hi, h]))
                  rw [← Hma.out] at h
                  exact h
                obtain ⟨bl, ol, u, hAl, _, hu, _⟩ := (Rd.of_own (hown2 _ (Ch.refl _ _))).num (k := m - 1) (by omega)
                have hcell : ∀ w2, Ch (fun k => k = w1.heap.size) (w1.alloc (.cells #[.int .i64 0] 34)) w2 → w2.cell? ⟨bl, ol + (m - 1), none⟩ = some (.int .i64 u) := fun w2 hc2 => by
                  obtain ⟨bl', ol', u', e1, _, hu', hcu⟩ := (Rd.of_own (hown2 w2 hc2)).num (k := m - 1) (by omega)
                  rw [hAl] at e1
                  injection e1 with e1
                  injection e1 with e1 e2
                  subst e1 e2
                  rw [hu] at hu'
                  injection hu' with hu'
                  rw [hu']; exact hcu
                have hbad' := fun w2 h1 h2 => hbad w2 3 u 3 h1 h2 (by decide) hl
                subst hAl
                have Hbad := Lib.hid hbad'
                have Hnd := Lib.hid hnd
                have Hcell := Lib.hid hcell
                have i0 : (0 : Int) ≤ (m : Int) - 1 := by omega
                have i1 : (m : Int) - 1 < (m : Int) := by omega
                have i2 : ((m : Int) - 1).toNat = m - 1 := by omega
                clear hmid hbad hbad' hnd hl h16 hown2 hcell hu
                go_wp2_with fail
                refine Hnd.out.mono ?_
                rintro e w2 ⟨rfl, hb2, hc2⟩
                have hM2 := Hbad.out w2 hc2 hb2
                have hc9 := Hcell.out w2 hc2
                have HM2 := Lib.hid hM2
                clear hM2 hb2 hc2 Hbad Hnd
                go_wp2_with fail
                go_meet
                exact ⟨u, 3, 3, rfl, rfl, by omega, HM2⟩
          by_cases h17 : s = 17
          · have hsb : ((s : Int) == 17) = true := by rw [h17]; rfl
            have hs16 : ((s : Int) == 16) = false := by rw [h17]; rfl

            by_cases hy : a1 + N + 3 ≤ 8 * L.length
            · have hnd := need_yes 3 (.pointer (some ⟨w1.heap.size, 0, none⟩)) h0a Hra.out (by omega) hy
              have hT := peekN_lt L (a1 + N) 3
              have hl := lenP_17 (cl := cl) (n := n) (f := f') Hle1.out HM.out h17 hy
              generalize peekN L (a1 + N) 3 = x at *
              have hmid' := fun w2 h1 h2 => hmid 3 w2 h1 h2 0 (3 + x) (by omega) hl
              have hx : (3 : Int) + (x : Int) = ((3 + x : Nat) : Int) := by omega
              have Hmid := Lib.hid hmid'
              have Hnd := Lib.hid hnd
              clear hmid hmid' hbad hnd hl h17 hx
              go_wp2_with fail
              refine Hnd.out.mono ?_
              rintro e w2 ⟨rfl, hr2, hc2⟩
              have hM2 := Hmid.out w2 hc2 hr2
              have HM2 := Lib.hid hM2
              clear hM2 hr2 hc2 Hmid Hnd
              go_wp2_with fail
              go_meet
              exact ⟨0, 3 + x, 0, rfl, by go_num, by omega, HM2⟩
            · have hnd := need_no 3 h0a Hra.out (by omega) hy Hbe.out
              have hl := lenP_17n (cl := cl) (n := n) (f := f') Hle1.out HM.out h17 hy
              have hbad' := fun w2 h1 h2 => hbad w2 3 0 3 h1 h2 (by decide) hl
              have Hbad := Lib.hid hbad'
              have Hnd := Lib.hid hnd
              clear hmid hbad hbad' hnd hl h17
              go_wp2_with fail
              refine Hnd.out.mono ?_
              rintro e w2 ⟨rfl, hb2, hc2⟩
              have hM2 := Hbad.out w2 hc2 hb2
              have HM2 := Lib.hid hM2
              clear hM2 hb2 hc2 Hbad Hnd
              go_wp2_with fail
              go_meet
              exact ⟨0, 3, 3, rfl, rfl, by omega, HM2⟩
          by_cases h18 : s = 18
          · have hsb : ((s : Int) == 18) = true := by rw [h18]; rfl
            have hs16 : ((s : Int) == 16) = false := by rw [h18]; rfl
            have hs17 : ((s : Int) == 17) = false := by rw [h18]; rfl
            by_cases hy : a1 + N + 7 ≤ 8 * L.length
            · have hnd := need_yes 7 (.pointer (some ⟨w1.heap.size, 0, none⟩)) h0a Hra.out (by omega) hy
              have hT := peekN_lt L (a1 + N) 7
              have hl := lenP_18 (cl := cl) (n := n) (f := f') Hle1.out HM.out h18 hy
              generalize peekN L (a1 + N) 7 = x at *
              have hmid' := fun w2 h1 h2 => hmid 7 w2 h1 h2 0 (11 + x) (by omega) hl
              have hx : (11 : Int) + (x : Int) = ((11 + x : Nat) : Int) := by omega
              have Hmid := Lib.hid hmid'
              have Hnd := Lib.hid hnd
              clear hmid hmid' hbad hnd hl h18 hx
              go_wp2_with fail
              refine Hnd.out.mono ?_
              rintro e w2 ⟨rfl, hr2, hc2⟩
              have hM2 := Hmid.out w2 hc2 hr2
              have HM2 := Lib.hid hM2
              clear hM2 hr2 hc2 Hmid Hnd
              go_wp2_with fail
              go_meet
              exact ⟨0, 11 + x, 0, rfl, by go_num, by omega, HM2⟩
            · have hnd := need_no 7 h0a Hra.out (by omega) hy Hbe.out
              have hl := lenP_18n (cl := cl) (n := n) (f := f') Hle1.out HM.out h18 hy
              have hbad' := fun w2 h1 h2 => hbad w2 3 0 11 h1 h2 (by decide) hl
              have Hbad := Lib.hid hbad'
              have Hnd := Lib.hid hnd
              clear hmid hbad hbad' hnd hl h18
              go_wp2_with fail
              refine Hnd.out.mono ?_
              rintro e w2 ⟨rfl, hb2, hc2⟩
              have hM2 := Hbad.out w2 hc2 hb2
              have HM2 := Lib.hid hM2
              clear hM2 hb2 hc2 Hbad Hnd
              go_wp2_with fail
              go_meet
              exact ⟨0, 11, 3, rfl, rfl, by omega, HM2⟩
          have hsb1 : ((s : Int) == 16) = false := by rw [beq_eq_false_iff_ne]; omega
          have hsb2 : ((s : Int) == 17) = false := by rw [beq_eq_false_iff_ne]; omega
          have hsb3 : ((s : Int) == 18) = false := by rw [beq_eq_false_iff_ne]; omega
          have hl := lenP_other (cl := cl) (n := n) (f := f') Hle1.out HM.out h16 h17 h18
          have hM2 := hmid 0 _ (Ch.refl _ _) Hra.out (s : Int) 1 (by omega) hl
          have HM2 := Lib.hid hM2
          clear hM2 hmid hbad hl h16 h17 h18
          go_wp2_with fail
          go_meet
          exact ⟨(s : Int), 1, 0, rfl, rfl, by omega, HM2⟩
      · have hno : ∀ s' N', ¬ Met cl ((bnn (bitsB L)).drop a1) s' N' := by
          rcases hNX with ⟨h, _⟩ | ⟨_, _, h, _⟩ | ⟨_, _, h, _⟩
          · exact absurd h hE
          · exact h
          · exact h
        rw [if_neg hE] at hr1
        have hnone : lenP cl n (n + 1) [] (bitsB L) a = none := by
          rw [Hlen.out]
          obtain ⟨f', rfl⟩ : ∃ f', f = f' + 1 := ⟨f - 1, by have := Hf.out; have := Hma.out; omega⟩
          unfold lenP
          rw [if_neg (by have := Hma.out; omega), bndP_none (nxP_none hno)]
        have Hnone := Lib.hid hnone
        have hEb : ((E : Int) != 0) = true := by rw [bne_iff_ne]; omega
        have hfin : Ch S w (w1.alloc (.cells #[.int .i64 (E : Int)] 34)) := (Hch.out.trans hc1 (fun i hi => .inl hi)).alloc _
        have Hfin := Lib.hid hfin
        have hr2 : RdS (w1.alloc (.cells #[.int .i64 (E : Int)] 34)) S gi L a1 := hr1.ch ((Ch.refl (fun _ => False) w1).alloc _) (fun _ _ h => h)
        have Hr2 := Lib.hid hr2
        have hEi : ¬ (E : Int) = 0 := by omega
        have HEi := Lib.hid hEi
        clear hnone hno hNX hr1 hc1 hfin hr2 hE hEi
        go_wp2_with fail
        go_quiet (fail)
        go_wp2
        go_ret2
        exact ⟨.inr ⟨Hnone.out, _, a1, rfl, HEi.out, Hr2.out.drewN' _⟩, Hfin.out.drewN _⟩
    · have hlast : lenP cl n (n + 1) [] (bitsB L) a = if acc.length = n then some (acc, a1) else none := by
        rw [hlen]
        by_cases h : acc.length = n
        · obtain ⟨f', rfl⟩ : ∃ f', f = f' + 1 := ⟨f - 1, by omega⟩
          unfold lenP
          rw [if_pos (by omega), if_pos h, if_pos h]; rfl
        · rw [if_neg h]
          cases f with
          | zero => rfl
          | succ f' =>
            unfold lenP
            rw [if_pos (by omega), if_neg h]; rfl
      rw [← hma] at hlast
      by_cases hgt : n < m
      · rw [if_neg (by omega)] at hlast
        have Hlast := Lib.hid hlast
        have Hrd := Lib.hid hrd
        have Hch := Lib.hid hch
        clear hlast hrd hch hown hlen hI hma hf
        go_wp2_with fail
        go_ret2
        exact ⟨.inr ⟨Hlast.out, 12, a1, rfl, by decide, Hrd.out⟩, Hch.out⟩
      · obtain rfl : n = m := by omega
        rw [if_pos rfl] at hlast
        obtain ⟨_, _, e1, hmc, _⟩ := own_form hown
        injection e1 with _ _ e1
        have Hlast := Lib.hid hlast
        have Hrd := Lib.hid hrd
        have Hch := Lib.hid hch
        have Hown := Lib.hid hown
        have Hma := Lib.hid hma
        have Hmc := Lib.hid (show n ≤ c by omega)
        clear hlast hrd hch hown hlen hI hma hf hmc e1
        go_wp2_with fail
        go_ret2
        exact ⟨.inl ⟨acc, a1, _, _, Hlast.out, rfl, Hma.out.symm, Hmc.out, by have := Hown.out; rw [← Hma.out] at this; exact this, Hrd.out⟩, Hch.out⟩
end Go.Proofs.Ytnedboomhbdecaa
