/- The walk of BitsReads: the state. -/
import Derived.Test.YtnedboomhbdecaaBit5
import Derived.Test.YtnedboomhbdecaaBit6
import Derived.Test.YtnedboomhbdecaaBit7
import Derived.Test.YtnedboomhbdecaaBitA
import Derived.Test.YtnedboomhbdecaaBit9
import Derived.Test.YtnedboomhbdecaaPcs
import Derived.Deep.CutBlock
import Derived.Deep.DeepCutAuto
namespace Go.Proofs.Ytnedboomhbdecaa
open Go.RowKit

/-- A reader at g over Lr, of which a bits were taken, and ints that are the bits of La, apart; all of the call's own. -/
def RA (w0 w : World) (g : Nat) (all : Value) (Lr La : List UInt8) (a : Nat) : Prop :=
  ∃ S, RdS w S g Lr a ∧ w.ownsRow w0.heap.size 3 1 all (8 * La.length) (its (bnums (bitsB La))) ∧ (∀ k, all.ownBlock = some k → ¬ S k) ∧ (∀ k, S k → w0.heap.size ≤ k) ∧ Below w0.heap.size w0 w
theorem RdS.lt {w : World} {S : Nat → Prop} {g : Nat} {l : List UInt8} {a : Nat} (h : RdS w S g l a) : ∀ k, S k → k < w.heap.size := by
  obtain ⟨_, _, _, _, _, h, _⟩ := h; exact h
theorem RdS.le {w : World} {S : Nat → Prop} {g : Nat} {l : List UInt8} {a : Nat} (h : RdS w S g l a) : a ≤ 8 * l.length := by
  obtain ⟨_, _, _, _, _, _, h, _⟩ := h; exact h
section
variable {w0 w w' : World} {g a : Nat} {all : Value} {Lr La : List UInt8}
theorem RA.below (h : RA w0 w g all Lr La a) (hb : Below w.heap.size w w') : RA w0 w' g all Lr La a := by
  obtain ⟨S, h1, h2, h3, h4, h5⟩ := h
  exact ⟨S, h1.ch (Ch.of_below (S := fun _ => False) hb (Nat.le_refl _)) (fun _ _ h => h), own_below h2 hb (Nat.le_refl _), h3, h4, h5.trans (hb.mono h5.size)⟩
theorem RA.alloc (h : RA w0 w g all Lr La a) (o : Obj) : RA w0 (w.alloc o) g all Lr La a := h.below ((Below.refl _ _).alloc (Nat.le_refl _) o)
theorem RA.drewN (h : RA w0 w g all Lr La a) (q : Nat) : RA w0 (w.drewN q) g all Lr La a := h.below (below_drewN (Below.refl _ _) q)
theorem RA.bel (h : RA w0 w g all Lr La a) : Below w0.heap.size w0 w := by obtain ⟨S, _, _, _, _, h5⟩ := h; exact h5
theorem RA.own (h : RA w0 w g all Lr La a) : w.ownsRow w0.heap.size 3 1 all (8 * La.length) (its (bnums (bitsB La))) := by obtain ⟨S, _, h2, _, _, _⟩ := h; exact h2
theorem RA.le (h : RA w0 w g all Lr La a) : a ≤ 8 * Lr.length := by obtain ⟨S, h1, _⟩ := h; exact h1.le
/-- The reader moves. -/
theorem RA.rd (h : RA w0 w g all Lr La a) : ∃ S, RdS w S g Lr a ∧ (∀ k, S k → k < w.heap.size) ∧ (∀ a' w', RdS w' S g Lr a' → Ch S w w' → RA w0 w' g all Lr La a') ∧
    ∀ Lr' a' w', (∃ S', RdS w' S' g Lr' a' ∧ Ch S w w' ∧ ∀ k, S' k → S k ∨ w.heap.size ≤ k) → RA w0 w' g all Lr' La a' := by
  obtain ⟨S, h1, h2, h3, h4, h5⟩ := h
  have gen : ∀ Lr' a' w', (∃ S', RdS w' S' g Lr' a' ∧ Ch S w w' ∧ ∀ k, S' k → S k ∨ w.heap.size ≤ k) → RA w0 w' g all Lr' La a' := by
    rintro Lr' a' w' ⟨S', k1, k2, k3⟩
    refine ⟨S', k1, own_ch h2 k2 h3, fun k hk hS => ?_, fun k hk => ?_, h5.trans (k2.below h5.size h4)⟩
    · rcases k3 k hS with h | h
      · exact h3 k hk h
      · have := (h2.lt k hk).2; omega
    · rcases k3 k hk with h | h
      · exact h4 k h
      · exact Nat.le_trans h5.size h
  exact ⟨S, h1, h1.lt, fun a' w' k1 k2 => gen Lr a' w' ⟨S, k1, k2, fun k hk => .inl hk⟩, gen⟩
theorem RA.rdA (h : RA w0 w g all Lr La a) (o : Obj) : ∃ S, RdS (w.alloc o) S g Lr a ∧ (∀ k, S k → k < w.heap.size ∧ w0.heap.size ≤ k) ∧ (∀ a' w', RdS w' S g Lr a' → Ch S (w.alloc o) w' → RA w0 w' g all Lr La a') ∧
    ∀ Lr' a' w', (∃ S', RdS w' S' g Lr' a' ∧ Ch S (w.alloc o) w' ∧ ∀ k, S' k → S k ∨ (w.alloc o).heap.size ≤ k) → RA w0 w' g all Lr' La a' := by
  obtain ⟨S, h1, h2, h3, h4, h5⟩ := h
  have hlt := h1.lt
  have ha : Below w.heap.size w (w.alloc o) := (Below.refl _ _).alloc (Nat.le_refl _) o
  have h1' : RdS (w.alloc o) S g Lr a := h1.ch (Ch.of_below (S := fun _ => False) ha (Nat.le_refl _)) (fun _ _ h => h)
  have h5' := h5.trans (ha.mono h5.size)
  have h2' := own_below h2 ha (Nat.le_refl _)
  have gen : ∀ Lr' a' w', (∃ S', RdS w' S' g Lr' a' ∧ Ch S (w.alloc o) w' ∧ ∀ k, S' k → S k ∨ (w.alloc o).heap.size ≤ k) → RA w0 w' g all Lr' La a' := by
    rintro Lr' a' w' ⟨S', k1, k2, k3⟩
    refine ⟨S', k1, own_ch h2' k2 h3, fun k hk hS => ?_, fun k hk => ?_, h5'.trans (k2.below h5'.size h4)⟩
    · rcases k3 k hS with h | h
      · exact h3 k hk h
      · have := (h2'.lt k hk).2; omega
    · rcases k3 k hk with h | h
      · exact h4 k h
      · exact Nat.le_trans h5'.size h
  exact ⟨S, h1', fun k hk => ⟨hlt k hk, h4 k hk⟩, fun a' w' k1 k2 => gen Lr a' w' ⟨S, k1, k2, fun k hk => .inl hk⟩, gen⟩
/-- The ints are appended to. -/
theorem RA.app {all' : Value} {La' : List UInt8} (h : RA w0 w g all Lr La a) (ho : w'.ownsRow w0.heap.size 3 1 all' (8 * La'.length) (its (bnums (bitsB La')))) (hg : w.grownBy w' all.ownBlock) (hv : all'.ownBlock = all.ownBlock ∨ all'.ownBlock = some w.heap.size) : RA w0 w' g all' Lr La' a := by
  obtain ⟨S, h1, h2, h3, h4, h5⟩ := h
  have hlt := h1.lt
  refine ⟨S, h1.ch ((Ch.refl (fun k => all.ownBlock = some k) w).grown hg (fun i hi => .inl hi)) (fun i hi he => h3 i he hi), ho, fun k hk hS => ?_, h4, below_own h5 h2 (Nat.le_refl _) h5.size hg⟩
  rcases hv with e | e
  · exact h3 k (by rw [← e]; exact hk) hS
  · rw [e] at hk; injection hk with hk; have := hlt k hS; omega
end

theorem numcut (L : List UInt8) (a d : Nat) (B : Nat) (A : Option Addr) (c : Nat) (w : World) (hr : Rd w B 1 A d (its (((bnums (bitsB L)).drop a).take d))) (hd : d ≤ 24) :
    Calls Try.prog 40 #[.slice A d c] w fun e w' => e = .returned (.int .i64 ((peekN L a d : Nat) : Int)) ∧ w = w' := by
  have e : ((bnums (bitsB L)).drop a).take d = bnums (((bitsB L).drop a).take d) := by simp [bnums, List.map_drop, List.map_take]
  rw [e] at hr
  exact refnumber_any B A d c _ w hr hd
theorem RdS.drewN {w : World} {S : Nat → Prop} {g : Nat} {l : List UInt8} {a : Nat} (h : RdS w S g l a) (q : Nat) : RdS (w.drewN q) S g l a := h.ch ((Ch.refl (fun _ => False) w).drewN q) (fun _ _ h => h)
theorem rmark_same (g : Nat) (S : Nat → Prop) (l : List UInt8) (a : Nat) (w : World) (h : RdS w S g l a) : Calls Try.prog 35 #[.pointer (some ⟨g, 0, none⟩)] w fun e w' => e = .returned (.int .i64 a) ∧ w' = w :=
  (rmark_any g S l a w h).mono fun _ _ ⟨h1, h2⟩ => ⟨h1, h2.symm⟩
set_option maxHeartbeats 2000000 in
set_option maxRecDepth 100000 in
theorem bitsReads_walk (A0 : Option Addr) (n0 c0 : Nat) (l0 : List (List UInt8)) (A1 : Option Addr) (n1 c1 : Nat) (l1 : List (List Int × List UInt8)) (w : World)
    (hr0 : RdRows w w.heap.size A0 n0 l0) (hnc0 : n0 ≤ c0) (_hcm0 : c0 ≤ maxLen) (hr1 : RdPcs w w.heap.size 3 A1 n1 l1) (hnc1 : n1 ≤ c1) (_hcm1 : c1 ≤ maxLen) :
    Calls Try.prog 8 #[.slice A0 n0 c0, .slice A1 n1 c1] w fun e w' => e = .returned (.bool true) ∧ Below w.heap.size w w' := by
  have hcm0 := _hcm0
  have hcm1 := _hcm1
  unfold maxLen at hcm0 hcm1
  clear _hcm0 _hcm1
  by_cases h0 : 20 < n0
  · go_enter Try.func8, Try.ntmps8
    go_wp2_with fail
    refine (bitwakes_any w).mono ?_
    rintro e w1 ⟨rfl, hb1⟩
    go_wp2
    go_ret
    exact ⟨rfl, hb1⟩
  by_cases h1 : 100 < n1
  · go_enter Try.func8, Try.ntmps8
    go_wp2_with fail
    refine (bitwakes_any w).mono ?_
    rintro e w1 ⟨rfl, hb1⟩
    go_wp2
    go_ret
    exact ⟨rfl, hb1⟩
  go_enter Try.func8, Try.ntmps8
  go_wp2_with fail
  refine (bitwakes_any w).mono ?_
  rintro e w1 ⟨rfl, hb1⟩
  go_wp2_with fail
  have hnl := hr0.len
  have Hnl := Lib.hid hnl
  clear hnl
  go_loopw [5, 28] (fun all i wr => ∃ j : Nat, j ≤ n0 ∧ i = .int .i64 j ∧ (l0.take j).flatten.length ≤ 200 * j ∧ wr.ownsRow w.heap.size 3 1 all (8 * (l0.take j).flatten.length) (its (bnums (bitsB (l0.take j).flatten))) ∧ Below w.heap.size w wr) (fun _ i _ => n0 - (intOf i).toNat)
  case atStart => exact ⟨0, Nat.zero_le _, rfl, by simp, own_nilI _ _ _, hb1⟩
  case round =>
    obtain ⟨j, hj, rfl, hlen, hown, hbw⟩ := hrel
    clear hb1
    by_cases hlt : j < n0
    · obtain ⟨b, o, v, l, rfl, hbb, hx, hc, A2, n2, c2, rfl, hr2, hnc2⟩ := hr0.at_ hlt
      have hc' := (hbw.cell (p := ⟨b, o + j, none⟩) hbb).trans hc
      have hst : (l0.take (j + 1)).flatten = (l0.take j).flatten ++ l := by rw [take_step hx]; simp
      have hl2 := hr2.blen
      by_cases h2 : 200 < n2
      · clear hx hc hst hl2
        go_wp2
        go_ret
        exact ⟨rfl, hbw⟩
      · have Hst := Lib.hid hst
        have Hl2 := Lib.hid hl2
        clear hx hc hst hl2
        go_wp2_with fail
        refine (refbits_any w.heap.size A2 n2 c2 l wr (hr2.below hbw (Nat.le_refl _)) hbw.size (by omega)).mono ?_
        rintro e w3 ⟨r3, rfl, hown3, hb3⟩
        obtain ⟨A3, c3, rfl, _, _⟩ := own_form hown3
        have hr3 := Rd.of_own hown3
        have hown' := own_below hown hb3 (Nat.le_refl _)
        have hbw3 := hbw.trans (hb3.mono hbw.size)
        clear hown hown3 hb3
        go_wp2_with (
          at_builtin
          refine ap_its hown' hr3 hbw3 hbw3.size (by omega) rfl rfl rfl ?_
          intro v4 w4 hown4 hb4 _ _)
        have hbn : bnums (bitsB (l0.take j).flatten) ++ bnums (bitsB l) = bnums (bitsB (l0.take (j + 1)).flatten) := by rw [Hst.out, bitsB_app]; simp [bnums]
        have hln : 8 * (l0.take j).flatten.length + 8 * n2 = 8 * (l0.take (j + 1)).flatten.length := by rw [Hst.out, List.length_append, Hl2.out]; omega
        rw [hbn, hln] at hown4
        have hln2 : (l0.take (j + 1)).flatten.length ≤ 200 * (j + 1) := by omega
        clear hbn hln hown' hr3 hbw3 hlen
        go_roundw
        case rel => exact ⟨j + 1, by omega, by go_num, hln2, hown4, hb4⟩
        case measure => simp [intOf]; omega
    · have : j = n0 := by omega
      subst this
      have htk : l0.take j = l0 := List.take_of_length_le (by have := Hnl.out; omega)
      rw [htk] at hlen hown
      obtain ⟨A2, c2, rfl, _, _⟩ := own_form hown
      clear htk
      go_wp2_with fail
      refine (rread_any A0 j c0 l0 wr ((hr0.below hbw (Nat.le_refl _)).more hbw.size) (by omega) (by omega)).mono ?_
      rintro e w3 ⟨rfl, S3, hrd3, hS3, hb3⟩
      have hra : RA w w3 wr.heap.size (.slice A2 (8 * l0.flatten.length) c2) l0.flatten l0.flatten 0 :=
        ⟨S3, hrd3, own_below hown hb3 (Nat.le_refl _), fun k hk hs => by have := (hown.lt k hk).2; have := hS3 k hs; omega, fun k hk => Nat.le_trans hbw.size (hS3 k hk), hbw.trans (hb3.mono hbw.size)⟩
      have hL0 : l0.flatten.length ≤ 4000 := by omega
      clear hown hbw hrd3 hS3 hb3 hr0 hlen Hnl
      generalize wr.heap.size = g at *
      generalize l0.flatten = L0 at *
      go_wp2_with fail
      go_loopw [5, 8, 49] (fun all at_ i wr => ∃ j : Nat, j ≤ n1 ∧ i = .int .i64 j ∧ ∃ (L : List UInt8) (a : Nat), L.length ≤ 4000 + 200 * j ∧ at_ = .int .i64 (a : Int) ∧ RA w wr g all L L a) (fun _ _ i _ => n1 - (intOf i).toNat)
      case atStart => exact ⟨0, Nat.zero_le _, rfl, L0, 0, by omega, rfl, hra⟩
      case round =>
        obtain ⟨i, hi, rfl, L, a, hL, rfl, hra⟩ := hrel
        by_cases hlt : i < n1
        · obtain ⟨b, o, ⟨zs, bl⟩, rfl, hbb, hx, hzl, hzb, hzc, v, hvc, Ab, nb, cb, rfl, hvr, hvn⟩ := (hr1.below hra.bel (Nat.le_refl _)).at_ hlt
          obtain ⟨x, y, z, rfl⟩ : ∃ x y z, zs = [x, y, z] := by
            match zs, hzl with
            | [x, y, z], _ => exact ⟨x, y, z, rfl⟩
          have k0 := hzc 0 x rfl
          have k1 := hzc 1 y rfl
          have k2 := hzc 2 z rfl
          simp only [Nat.reduceAdd, Nat.add_zero] at k0 k1 k2 hvc
          have hy0 := hzb y (by simp)
          unfold i64B at hy0
          have hbk := Bk.new wr 46 #[.int .i64 x, .int .i64 y, .int .i64 z, .slice Ab nb cb]
          have hle := hra.le
          obtain ⟨d, hd⟩ : ∃ d : Nat, hel y = d := ⟨(hel y).toNat, by have := hel_bd y; omega⟩
          have hd24 : d ≤ 24 := by have := hel_bd y; omega
          have hdd : (hel y).toNat = d := by omega
          have Hd := Lib.hid hd
          have Hdd := Lib.hid hdd
          clear hd hdd
          obtain ⟨A5, c5, rfl, hc5, _⟩ := own_form hra.own
          clear hzc hzl hzb hx
          go_upto_block 4 with ((go_at_call 38; refine (refheld_any _ _).mono ?_; rintro e w4 ⟨rfl, rfl⟩; rw [Hd.out]))
          have hra1 := hra.alloc (.cells #[.int .i64 x, .int .i64 y, .int .i64 z, .slice Ab nb cb] 46)
          go_cut [5, 8] (fun s5 s8 wx => ∃ (L' : List UInt8) (a' : Nat), L'.length ≤ 4000 + 200 * (i + 1) ∧ s8 = .int .i64 (a' : Int) ∧ RA w wx g s5 L' L' a' ∧ wx.cell? ⟨wr.heap.size, 1, none⟩ = some (.int .i64 y))
          case rest =>
            obtain ⟨L', a', hL', rfl, hra', hy1⟩ := hcut
            clear hra hra1 hbk k0 k1 k2 hvc hle
            obtain ⟨A6, c6, rfl, hc6, _⟩ := own_form hra'.own
            obtain ⟨S6, hrd6, _, _, _⟩ := hra'.rd
            have hle' := hra'.le
            have i1 : IntKind.i64.wrap (8 * (L'.length : Int) - (a' : Int)) = 8 * (L'.length : Int) - (a' : Int) := IntWalk.i64_in _ (by omega)
            go_wp2_with fail
            go_quiet ((first
              | (go_at_call 34; exact Calls.quiet_of (rleft_any g S6 L' a' _ hrd6))
              | (go_at_call 35; exact Calls.quiet_of_same (rmark_same g S6 L' a' _ hrd6))
              | (go_at_call 43; exact Calls.quiet_of (rhas_any g S6 L' a' _ y hrd6))))
            go_wp2_with fail
            go_roundw
            case rel => exact ⟨i + 1, by omega, by go_num, L', a', hL', rfl, hra'.drewN _⟩
            case measure => simp [intOf]; omega
          case first =>
            by_cases hx0 : x = 0
            · subst hx0
              obtain ⟨S, hrd, hSl, hmv, hmv2⟩ := hra.rdA (.cells #[.int .i64 0, .int .i64 y, .int .i64 z, .slice Ab nb cb] 46)
              have hbkS : ∀ w', Ch S (wr.alloc (.cells #[.int .i64 0, .int .i64 y, .int .i64 z, .slice Ab nb cb] 46)) w' → w'.cell? ⟨wr.heap.size, 1, none⟩ = some (.int .i64 y) := fun w' h => (hbk.ch h (fun h => by have := hSl _ h; omega)).cell 1
              have HbkS := Lib.hid hbkS
              have Hmv := Lib.hid hmv
              clear hbkS hmv
              by_cases hle2 : hel y ≤ 8 * (L.length : Int) - a
              · skip
                have hpk := peek_yes g S L a y _ hrd hle2
                rw [Hdd.out] at hpk
                have hle3 : (d : Int) ≤ 8 * (L.length : Int) - a := by rw [← Hd.out]; exact hle2
                have hda : a + d ≤ 8 * L.length := by omega
                have hbi := fun q => rbits_yes g S L a y _ (hrd.drewN q) hle2
                rw [Hdd.out] at hbi
                have Hbi := Lib.hid hbi
                clear hbi hle2
                go_wp2_with fail
                refine hpk.mono ?_
                rintro e w5 ⟨rfl, q5, rfl⟩
                go_wp2_with fail
                refine (Hbi.out q5).mono ?_
                rintro e w6 ⟨rfl, hrd6, hch6⟩
                have hra6 := Hmv.out _ w6 hrd6 (((Ch.refl S _).drewN q5).trans hch6 (fun i hi => .inl hi))
                have hy6 := HbkS.out w6 (((Ch.refl S _).drewN q5).trans hch6 (fun i hi => .inl hi))
                have k6 := (hbk.ch (((Ch.refl S _).drewN q5).trans hch6 (fun i hi => .inl hi)) (fun h => by have := hSl _ h; omega)).cell 0
                simp at k6
                have hrA := Rd.of_own hra6.own
                clear hpk Hbi Hmv HbkS hmv2 hrd6 hch6 hrd
                go_wp2_with (first
                  | ((with_reducible refine at_slice ?_)
                     refine cut_its hrA hc5 a d (by omega) rfl rfl rfl rfl (by omega) rfl ?_
                     intro A' c' hr' _ _)
                  | (go_at_call 40; refine (numcut L a d _ _ _ _ hr' hd24).mono ?_; rintro e w7 ⟨rfl, rfl⟩))
                all_goals
                  go_meet
                  exact ⟨L, a + d, by omega, by go_num, hra6, hy6⟩
              · skip
                have hpk := peek_no g S L a y _ hrd hle2
                have hle3 : ¬ (d : Int) ≤ 8 * (L.length : Int) - a := by rw [← Hd.out]; exact hle2
                have hbi := fun q => rbits_no g S L a y _ (hrd.drewN q) hle2
                have Hbi := Lib.hid hbi
                clear hbi hle2
                go_wp2_with fail
                refine hpk.mono ?_
                rintro e w5 ⟨rfl, q5, rfl⟩
                go_wp2_with fail
                refine (Hbi.out q5).mono ?_
                rintro e w6 ⟨rfl, q6, rfl⟩
                have hch6 := (((Ch.refl S (wr.alloc (.cells #[.int .i64 0, .int .i64 y, .int .i64 z, .slice Ab nb cb] 46))).drewN q5).drewN q6)
                have hra6 := Hmv.out _ _ ((hrd.drewN q5).drewN q6) hch6
                have hy6 := HbkS.out _ hch6
                rw [World.drewN_drewN] at hra6 hy6
                clear hpk Hbi Hmv HbkS hmv2 hrd hch6
                go_wp2_with fail
                go_meet
                exact ⟨L, a, by omega, rfl, hra6, hy6⟩
            by_cases hx1 : x = 1
            · subst hx1
              obtain ⟨S, hrd, hSl, hmv, hmv2⟩ := hra.rdA (.cells #[.int .i64 1, .int .i64 y, .int .i64 z, .slice Ab nb cb] 46)
              have hbkS : ∀ w', Ch S (wr.alloc (.cells #[.int .i64 1, .int .i64 y, .int .i64 z, .slice Ab nb cb] 46)) w' → w'.cell? ⟨wr.heap.size, 1, none⟩ = some (.int .i64 y) := fun w' h => (hbk.ch h (fun h => by have := hSl _ h; omega)).cell 1
              have HbkS := Lib.hid hbkS
              have Hmv := Lib.hid hmv
              clear hbkS hmv
              by_cases hle2 : hel y ≤ 8 * (L.length : Int) - a
              · skip
                have hpk := peek_yes g S L a y _ hrd hle2
                rw [Hdd.out] at hpk
                have hle3 : (d : Int) ≤ 8 * (L.length : Int) - a := by rw [← Hd.out]; exact hle2
                have hda : a + d ≤ 8 * L.length := by omega
                clear hle2
                go_wp2_with fail
                refine hpk.mono ?_
                rintro e w5 ⟨rfl, q5, rfl⟩
                have hra6 := Hmv.out _ _ (hrd.drewN q5) ((Ch.refl S _).drewN q5)
                have hy6 := HbkS.out _ ((Ch.refl S _).drewN q5)
                have hrA := Rd.of_own hra6.own
                clear hpk Hmv HbkS hmv2 hrd
                go_wp2_with (first
                  | ((with_reducible refine at_slice ?_)
                     refine cut_its hrA hc5 a d (by omega) rfl rfl rfl rfl (by omega) rfl ?_
                     intro A' c' hr' _ _)
                  | (go_at_call 40; refine (numcut L a d _ _ _ _ hr' hd24).mono ?_; rintro e w7 ⟨rfl, rfl⟩))
                all_goals
                  go_meet
                  exact ⟨L, a, by omega, rfl, hra6, hy6⟩
              · skip
                have hpk := peek_no g S L a y _ hrd hle2
                have hle3 : ¬ (d : Int) ≤ 8 * (L.length : Int) - a := by rw [← Hd.out]; exact hle2
                clear hle2
                go_wp2_with fail
                refine hpk.mono ?_
                rintro e w5 ⟨rfl, q5, rfl⟩
                have hra6 := Hmv.out _ _ (hrd.drewN q5) ((Ch.refl S _).drewN q5)
                have hy6 := HbkS.out _ ((Ch.refl S _).drewN q5)
                clear hpk Hmv HbkS hmv2 hrd
                go_wp2_with fail
                go_meet
                exact ⟨L, a, by omega, rfl, hra6, hy6⟩
            by_cases hx2 : x = 2
            · subst hx2
              obtain ⟨S, hrd, hSl, hmv, hmv2⟩ := hra.rdA (.cells #[.int .i64 2, .int .i64 y, .int .i64 z, .slice Ab nb cb] 46)
              have hbkS : ∀ w', Ch S (wr.alloc (.cells #[.int .i64 2, .int .i64 y, .int .i64 z, .slice Ab nb cb] 46)) w' → w'.cell? ⟨wr.heap.size, 1, none⟩ = some (.int .i64 y) := fun w' h => (hbk.ch h (fun h => by have := hSl _ h; omega)).cell 1
              have HbkS := Lib.hid hbkS
              have Hmv := Lib.hid hmv
              clear hbkS hmv
              have hal := ralign_any g S L a _ hrd
              rw [show (((8 - a % 8) % 8 : Nat) : Int) = (8 - (a : Int) % 8) % 8 by omega] at hal
              have hz : (8 - (a : Int) % 8) % 8 = (((8 - a % 8) % 8 : Nat) : Int) := by omega
              have hz8 : 0 ≤ (8 - (a : Int) % 8) % 8 ∧ (8 - (a : Int) % 8) % 8 < 8 := by omega
              have Hz := Lib.hid hz
              clear hz hrd
              go_wp2_with fail
              refine hal.mono ?_
              rintro e w5 ⟨rfl, hrd5, hch5⟩
              have hra5 := Hmv.out _ w5 hrd5 hch5
              have hy5 := HbkS.out w5 hch5
              clear hal Hmv HbkS hmv2 hrd5 hch5
              go_wp2_with fail
              go_meet
              exact ⟨L, a + (8 - a % 8) % 8, by omega, congrArg (Value.int IntKind.i64) (by omega), hra5, hy5⟩
            by_cases hx3 : x = 3
            · subst hx3
              obtain ⟨S, hrd, hSl, hmv, hmv2⟩ := hra.rdA (.cells #[.int .i64 3, .int .i64 y, .int .i64 z, .slice Ab nb cb] 46)
              have hbkS : ∀ w', Ch S (wr.alloc (.cells #[.int .i64 3, .int .i64 y, .int .i64 z, .slice Ab nb cb] 46)) w' → w'.cell? ⟨wr.heap.size, 1, none⟩ = some (.int .i64 y) := fun w' h => (hbk.ch h (fun h => by have := hSl _ h; omega)).cell 1
              have HbkS := Lib.hid hbkS
              have Hmv := Lib.hid hmv
              clear hbkS hmv
              have hbc := rback_any g S L a _ y hrd
              have hk : (y < 0) ∨ (0 ≤ y ∧ y ≤ a) ∨ (0 ≤ y ∧ (a : Int) < y) := by omega
              rcases hk with hk | ⟨hk, hk2⟩ | ⟨hk, hk2⟩
              · rw [if_neg (by omega)] at hbc
                go_wp2_with fail
                refine hbc.mono ?_
                rintro e w5 ⟨rfl, hrd5, hch5⟩
                have hra5 := Hmv.out _ w5 hrd5 hch5
                have hy5 := HbkS.out w5 hch5
                clear hbc Hmv HbkS hmv2 hrd5 hrd hch5
                go_wp2_with fail
                go_meet
                exact ⟨L, a, by omega, rfl, hra5, hy5⟩
              · rw [if_pos ⟨hk, hk2⟩] at hbc
                have hyn : ((y.toNat : Nat) : Int) = y := by omega
                have Hyn := Lib.hid hyn
                clear hyn
                go_wp2_with fail
                refine hbc.mono ?_
                rintro e w5 ⟨rfl, hrd5, hch5⟩
                have hra5 := Hmv.out _ w5 hrd5 hch5
                have hy5 := HbkS.out w5 hch5
                clear hbc Hmv HbkS hmv2 hrd5 hrd hch5
                go_wp2_with fail
                go_meet
                exact ⟨L, y.toNat, by omega, by rw [Hyn.out], hra5, hy5⟩
              · rw [if_neg (by omega)] at hbc
                go_wp2_with fail
                refine hbc.mono ?_
                rintro e w5 ⟨rfl, hrd5, hch5⟩
                have hra5 := Hmv.out _ w5 hrd5 hch5
                have hy5 := HbkS.out w5 hch5
                clear hbc Hmv HbkS hmv2 hrd5 hrd hch5
                go_wp2_with fail
                go_meet
                exact ⟨L, a, by omega, rfl, hra5, hy5⟩
            by_cases hx4 : x = 4
            · subst hx4
              by_cases hnb : 200 < nb
              · go_wp2
                go_ret
                exact ⟨rfl, hra1.bel⟩
              obtain ⟨S, hrd, hSl, hmv, hmv2⟩ := hra.rdA (.cells #[.int .i64 4, .int .i64 y, .int .i64 z, .slice Ab nb cb] 46)
              have hbkS : ∀ w', Ch S (wr.alloc (.cells #[.int .i64 4, .int .i64 y, .int .i64 z, .slice Ab nb cb] 46)) w' → w'.cell? ⟨wr.heap.size, 1, none⟩ = some (.int .i64 y) := fun w' h => (hbk.ch h (fun h => by have := hSl _ h; omega)).cell 1
              have HbkS := Lib.hid hbkS
              have Hmv := Lib.hid hmv
              clear hbkS hmv
              have hvrS : ∀ w', Ch S (wr.alloc (.cells #[.int .i64 4, .int .i64 y, .int .i64 z, .slice Ab nb cb] 46)) w' → Rd w' w.heap.size 1 Ab nb (bys bl) := fun w' h => (hvr.below ((Below.refl wr.heap.size wr).alloc (Nat.le_refl _) _) hra.bel.size).ch h (by have := hra.bel.size; simp; omega) (fun i hi => (hSl i hi).2)
              have hfar : ∀ k, (Value.slice A5 (8 * L.length) c5).ownBlock = some k → k < wr.heap.size := fun k hk => (hra.own.lt k hk).2
              have Hfar := Lib.hid hfar
              have HvrS := Lib.hid hvrS
              clear hvrS hfar
              have hwS : ∀ w', Ch S (wr.alloc (.cells #[.int .i64 4, .int .i64 y, .int .i64 z, .slice Ab nb cb] 46)) w' → w'.cell? ⟨wr.heap.size, 3, none⟩ = some (.slice Ab nb cb) := fun w' h => (hbk.ch h (fun h => by have := hSl _ h; omega)).cell 3
              have hlb := hvr.blen
              have had := radd_any g S L a Ab nb cb w.heap.size bl _ hrd (hvr.below ((Below.refl wr.heap.size wr).alloc (Nat.le_refl _) (.cells #[.int .i64 4, .int .i64 y, .int .i64 z, .slice Ab nb cb] 46)) (by have := hra.bel.size; omega)) (by omega)
              have HwS := Lib.hid hwS
              have Hlb := Lib.hid hlb
              clear hwS hlb
              go_wp2_with fail
              refine had.mono ?_
              rintro e w5 ⟨rfl, S5, hrd5, hch5, hS5⟩
              have hra5 := hmv2 _ _ w5 ⟨S5, hrd5, hch5, hS5⟩
              have hy5 := HbkS.out w5 hch5
              have hw5 := HwS.out w5 hch5
              have hvr5 := HvrS.out w5 hch5
              clear had hmv2 Hmv HbkS HwS HvrS hrd5 hrd hch5 hS5 hra1 hbk k0 k1 k2 hvc hnb hle
              go_wp2_with fail
              refine (refbits_any w.heap.size Ab nb cb bl w5 hvr5 hra5.bel.size (by omega)).mono ?_
              rintro e w6 ⟨r6, rfl, hown6, hb6⟩
              obtain ⟨A6, c6, rfl, _, _⟩ := own_form hown6
              have hr6 := Rd.of_own hown6
              have hra6 := hra5.below hb6
              have hy6 := (hb6.cell (p := ⟨wr.heap.size, 1, none⟩) (World.block_lt_of_cell? w5 _ hy5)).trans hy5
              clear hown6 hb6 hra5 hy5 hw5
              go_wp2_with (
                at_builtin
                refine ap_its hra6.own hr6 hra6.bel hra6.bel.size (by omega) rfl rfl rfl ?_
                intro v7 w7 hown7 hb7 hg7 hv7)
              have hra7 : RA w w7 g v7 (L ++ bl) (L ++ bl) a := hra6.app (by
                rw [List.length_append, Hlb.out, Nat.mul_add, bitsB_app]
                simpa [bnums] using hown7) hg7 hv7
              have hlen7 : (L ++ bl).length ≤ 4000 + 200 * (i + 1) := by rw [List.length_append, Hlb.out]; omega
              have hy7 : w7.cell? ⟨wr.heap.size, 1, none⟩ = some (.int .i64 y) := (World.cell?_of_block (hg7.block _ (World.block_lt_of_cell? w6 _ hy6) (fun e => absurd (Hfar.out _ e.symm) (Nat.lt_irrefl _)))).trans hy6
              go_meet
              exact ⟨L ++ bl, a, hlen7, rfl, hra7, hy7⟩
            have e0 : (x == 0) = false := by simp [hx0]
            have e1 : (x == 1) = false := by simp [hx1]
            have e2 : (x == 2) = false := by simp [hx2]
            have e3 : (x == 3) = false := by simp [hx3]
            have e4 : (x == 4) = false := by simp [hx4]
            clear hx0 hx1 hx2 hx3 hx4
            have hy5 := hbk.cell 1
            go_wp2_with fail
            go_meet
            exact ⟨L, a, by omega, rfl, hra1, hy5⟩
        · have : i = n1 := by omega
          subst this
          go_wp2_with fail
          go_ret
          exact ⟨rfl, hra.bel⟩
end Go.Proofs.Ytnedboomhbdecaa
