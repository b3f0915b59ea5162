/- VfsRenames: a file that is renamed has its bytes under the other name. -/
import Derived.Test.YtknjopefbbldfaaDoorVfsRp
import Derived.PinnedBridge
import Derived.Stop.LaidErr
namespace Go.Proofs.YtknjopefbbldfaaDoor
open Go.RowKit
attribute [local go_sem ↓] Go.wp_at_zero Go.wp_at_succ

theorem two_f (s : List UInt8) : (fun t => if t = (⟨#[98]⟩ : ByteArray).data.toList then true else (fun t => if t = (⟨#[97]⟩ : ByteArray).data.toList then true else (fun _ => false) t) t) s = (s == nA || s == nB) := by
  dsimp only
  by_cases h1 : s = [98]
  · rw [if_pos h1, h1]; rfl
  · rw [if_neg h1]
    by_cases h2 : s = [97]
    · rw [if_pos h2, h2]; rfl
    · rw [if_neg h2]
      have e1 : (s == nA) = false := by simpa [nA] using h2
      have e2 : (s == nB) = false := by simpa [nB] using h1
      rw [e1, e2]; rfl
theorem vfsRenames_laid (W : World) (_ : laidMet Tryd.prog Rows.vfsRenamesRow.laid W) : True := trivial
set_option maxHeartbeats 8000000 in
set_option maxRecDepth 100000 in
theorem vfsRenames_walk (A : Option Addr) (n c : Nat) (l : List UInt8) (A2 : Option Addr) (n2 c2 : Nat) (l2 : List UInt8) (w : World) (hr : Rd w w.heap.size 1 A n (bys l)) (hnc : n ≤ c) (hcm : c ≤ maxLen) (hr2 : Rd w w.heap.size 1 A2 n2 (bys l2)) (hnc2 : n2 ≤ c2) (hcm2 : c2 ≤ maxLen) (_ : True) :
    Calls Tryd.prog 6 #[.slice A n c, .slice A2 n2 c2] w fun e w' => e = .returned (.bool true) ∧ Below w.heap.size w w' := by
  rename_i hT
  clear hT
  have hlen := hr.blen
  have hlen2 := hr2.blen
  have HWk := Lib.hid (wakes_any w)
  by_cases h1 : 1000 < n
  · have hi : (1000 : Int) < (n : Int) := by omega
    clear h1 hlen hlen2 hr hnc hcm hr2 hnc2 hcm2
    go_enter Tryd.func6, Tryd.ntmps6
    go_wp2_with fail
    with_reducible refine HWk.out.mono ?_
    rintro e w1 ⟨rfl, b1⟩
    have B1 := Lib.hid b1
    clear b1
    go_wp2_with fail
    go_ret
    exact ⟨rfl, B1.out⟩
  · by_cases h2 : 1000 < n2
    · have hi : ¬ (1000 : Int) < (n : Int) := by omega
      have hi2 : (1000 : Int) < (n2 : Int) := by omega
      clear h1 h2 hlen hlen2 hr hnc hcm hr2 hnc2 hcm2
      go_enter Tryd.func6, Tryd.ntmps6
      go_wp2_with fail
      with_reducible refine HWk.out.mono ?_
      rintro e w1 ⟨rfl, b1⟩
      have B1 := Lib.hid b1
      clear b1
      go_wp2_with fail
      go_ret
      exact ⟨rfl, B1.out⟩
    · have hi : ¬ (1000 : Int) < (n : Int) := by omega
      have hi2 : ¬ (1000 : Int) < (n2 : Int) := by omega
      have HN := Lib.hid (fun W => new_fs 100 W)
      have hmm := @run_makeMap Tryd.prog
      have HL := Lib.hid (And.intro hr (And.intro hnc (And.intro hcm (And.intro hr2 (And.intro hnc2 (And.intro hcm2 (And.intro hlen (And.intro hlen2 (And.intro h1 h2)))))))))
      clear h1 h2 hlen hlen2 hr hnc hcm hr2 hnc2 hcm2
      go_enter Tryd.func6, Tryd.ntmps6
      go_wp2_with fail
      with_reducible refine HWk.out.mono ?_
      rintro e w1 ⟨rfl, b1⟩
      have B1 := Lib.hid b1
      clear b1
      go_wp2_with fail
      with_reducible refine (HN.out w1).mono ?_
      rintro e w2 ⟨f, rfl, h2, b2⟩
      have H2 := Lib.hid (And.intro h2 (And.intro b2 (B1.out.trans (b2.mono B1.out.size))))
      have HM0 := Lib.hid (MapB.made w2 (.slice A n c) (.slice A2 n2 c2))
      clear h2 b2
      go_wp2_with (first
        | (with_reducible refine at_ins ?_; (apply op_ins HM0.out (by decide) (s := ⟨#[97]⟩) (v := .slice A n c) (.inl ⟨rfl, rfl⟩)); (case hm => kernel_rfl); (case hk => kernel_rfl); (case hb => kernel_rfl); (case hw => kernel_rfl); intro w3 p3 g3; replace p3 := Lib.hid p3; replace g3 := Lib.hid g3; clear HM0; try go_frame)
        | (with_reducible refine at_ins ?_; (apply op_ins p3.out (by decide) (s := ⟨#[98]⟩) (v := .slice A2 n2 c2) (.inr ⟨rfl, rfl⟩)); (case hm => kernel_rfl); (case hk => kernel_rfl); (case hb => kernel_rfl); (case hw => kernel_rfl); intro w4 p4 g4; replace p4 := Lib.hid p4; replace g4 := Lib.hid g4; try go_frame)
        | (at_range; refine range_two rfl _ rfl p4.out two_f (by kernel_rfl) ?_; intro w5 cnt0 L0 hL0 hrg0 hg0 hs0; replace hrg0 := Lib.hid hrg0; replace hg0 := Lib.hid hg0; replace hs0 := Lib.hid hs0; replace hL0 := Lib.hid hL0))
      try go_frame
      have hm24 : w2.heap.size < w4.heap.size := by have := g3.out.size; have := g4.out.size; simp at *; omega
      obtain ⟨O, hOd⟩ : ∃ O : Nat → Prop, O = fun i => w.heap.size ≤ i ∧ i ≠ w2.heap.size ∧ i ≠ w4.heap.size := ⟨_, rfl⟩
      have hOi : ∀ i, O i ↔ w.heap.size ≤ i ∧ i ≠ w2.heap.size ∧ i ≠ w4.heap.size := fun i => by rw [hOd]
      have hw2 : w.heap.size ≤ w2.heap.size := H2.out.2.2.size
      have H5 := Lib.hid (show RngB w5 w2.heap.size w4.heap.size (0 + 1 + 1) (.slice A n c) (.slice A2 n2 c2) L0 cnt0 ∧ FsA w5 O f (newP 100) ∧ RnS l l2 L0 (newP 100) ∧ Below w.heap.size w w5 from by
        refine ⟨hrg0.out, ?_, rn_new l l2 L0 hL0.out, ?_⟩
        · refine (FsA.heap H2.out.1 (fun i hi hlt => ?_)).mono (fun i hi _ => (hOi i).2 ⟨Nat.le_trans B1.out.size hi.1, by omega, by omega⟩)
          have s3 := g3.out.size
          have s4 := g4.out.size
          simp at s3
          exact (hg0.out.block i (by omega) (by simp)).trans ((g4.out.block i (by omega) (by intro e; injection e with e; omega)).trans ((g3.out.block i (by simp; omega) (by intro e; injection e with e; omega)).trans (Below.heap_alloc w2 _ i hlt)))
        · have s3 := g3.out.size
          have s4 := g4.out.size
          simp at s3
          exact (((H2.out.2.2.alloc hw2 _).grown g3.out (by simp; omega) (fun k hk => by injection hk with hk; omega)).grown g4.out (by omega) (fun k hk => by injection hk with hk; omega)).grown hg0.out (by omega) (fun k hk => by cases hk))
      have HO := Lib.hid (And.intro hOi (And.intro hw2 hm24))
      have Hz5 := Lib.hid (show w4.heap.size < w5.heap.size by have := hs0.out; omega)
      clear hOd hOi hw2 hm24 hrg0 hg0 hs0 p3 p4 g3 g4 hL0
      generalize hmb : w2.heap.size = mb at *
      generalize hrb : w4.heap.size = rb at *
      clear hmb hrb
      go_loopw [] (fun wr => ∃ (L : List UInt8 → Bool) (cnt : Nat) (S : FsP), Hid (RngB wr mb rb (0 + 1 + 1) (.slice A n c) (.slice A2 n2 c2) L cnt ∧ FsA wr O f S ∧ RnS l l2 L S ∧ Below w.heap.size w wr)) (fun wr => wr.rangeLeft mb rb)
      case atStart => exact ⟨_, _, _, H5⟩
      case round =>
        obtain ⟨L, cnt, S, HR⟩ := hrel
        go_wp2_with ((at_next; refine next_two rfl _ rfl (by kernel_rfl) HR.out.1 ?_ ?_))
        · intro hl
          obtain ⟨S', e1, d1, s1, e2, e3, e4, e5, e6⟩ := rn_end HR.out.2.2.1 hl
          have hln : l.length = n := HL.out.2.2.2.2.2.2.1
          rw [hln] at e2 e3
          have hOi := HO.out.1
          have HRe := Lib.hid (show Calls Tryd.prog 19 #[.pointer (some ⟨f, 0, none⟩), .string ⟨#[97]⟩, .string ⟨#[98]⟩] wr fun e w' => e = .returned (.int .i64 0) ∧ FsA w' O f S' ∧ Ch O wr w' from by
            have := rename_any f O S ⟨#[97]⟩ ⟨#[98]⟩ wr HR.out.2.1 (by decide) (by have := HR.out.2.2.1.stamp; omega) (by decide)
            rw [show (⟨#[97]⟩ : ByteArray).data.toList = nA from rfl, show (⟨#[98]⟩ : ByteArray).data.toList = nB from rfl, e1] at this
            exact this)
          have HLb := Lib.hid (show ∀ W, FsA W O f S' → Calls Tryd.prog 14 #[.pointer (some ⟨f, 0, none⟩), .string ⟨#[98]⟩] W fun e w' => e = .returned (.tuple #[.int .i64 (n : Int), .bool true]) ∧ w' = W from fun W h => by
            obtain ⟨m, bl, gl, sv, hM, _⟩ := h
            have := len_any f m bl gl sv S' ⟨#[98]⟩ W hM (by decide)
            rw [show (⟨#[98]⟩ : ByteArray).data.toList = nB from rfl, e2] at this
            exact this)
          have HLa := Lib.hid (show ∀ W, FsA W O f S' → Calls Tryd.prog 14 #[.pointer (some ⟨f, 0, none⟩), .string ⟨#[97]⟩] W fun e w' => e = .returned (.tuple #[.int .i64 0, .bool false]) ∧ w' = W from fun W h => by
            obtain ⟨m, bl, gl, sv, hM, _⟩ := h
            have := len_any f m bl gl sv S' ⟨#[97]⟩ W hM (by decide)
            rw [show (⟨#[97]⟩ : ByteArray).data.toList = nA from rfl, e4] at this
            exact this)
          have HRd := Lib.hid (show ∀ W, FsA W O f S' → Calls Tryd.prog 12 #[.pointer (some ⟨f, 0, none⟩), .string ⟨#[98]⟩, .int .i64 0, .int .i64 (n : Int)] W fun e w' => ∃ A9 c9, e = .returned (.tuple #[.slice A9 n c9, .int .i64 0]) ∧ n ≤ c9 ∧ w'.ownsRow W.heap.size 5 1 (.slice A9 n c9) n (bys l) ∧ Below W.heap.size W w' from fun W h => by
            have := read_at f O S' W h ⟨#[98]⟩ 0 (n : Int) (by decide) (by decide)
            rw [show (⟨#[98]⟩ : ByteArray).data.toList = nB from rfl, e3] at this
            refine this.mono ?_
            rintro e w' ⟨A9, n9, c9, rfl, h9, h10, h11, h12, h13⟩
            obtain rfl : n9 = n := by rw [h9]; exact hln
            exact ⟨A9, c9, rfl, h10, h12, h13⟩)
          have HNm := Lib.hid (show ∀ W, FsA W O f S' → Calls Tryd.prog 20 #[.pointer (some ⟨f, 0, none⟩), .string ⟨#[]⟩] W fun e w' => ∃ A9 c9, e = .returned (.slice A9 1 c9) ∧ Below W.heap.size W w' from fun W h => by
            obtain ⟨m, bl, gl, sv, hM, _⟩ := h
            refine (names_head f m bl gl sv S' ⟨#[]⟩ W hM (by omega)).mono ?_
            rintro e w' ⟨A9, n9, c9, rfl, h9, _, _, _, h13⟩
            rw [d1] at h9
            have h14 : n9 = 1 := by rw [h9]; exact e5
            subst h14
            exact ⟨A9, c9, rfl, h13⟩)
          have HR2 := Lib.hid (show ∀ W, FsA W O f S' → Calls Tryd.prog 19 #[.pointer (some ⟨f, 0, none⟩), .string ⟨#[97]⟩, .string ⟨#[99]⟩] W fun e w' => e = .returned (.int .i64 6) ∧ Ch O W w' from fun W h => by
            refine (rename_any f O S' ⟨#[97]⟩ ⟨#[99]⟩ W h (by decide) (by omega) (by decide)).mono ?_
            rintro e w' ⟨rfl, _, h13⟩
            rw [show (⟨#[97]⟩ : ByteArray).data.toList = nA from rfl, show (⟨#[99]⟩ : ByteArray).data.toList = [99] from rfl, e6]
            exact ⟨rfl, h13⟩)
          have hOb : Hid (∀ i, O i → w.heap.size ≤ i) := Lib.hid (fun i hi => ((hOi i).1 hi).1)
          clear e1 d1 s1 e2 e3 e4 e5 e6 hln hl hOi
          try go_frame
          go_wp2_with fail
          with_reducible refine HRe.out.mono ?_
          rintro e w7 ⟨rfl, h7, k7⟩
          have H7 := Lib.hid (show FsA w7 O f S' ∧ Below w.heap.size w w7 from ⟨h7, HR.out.2.2.2.trans (k7.below HR.out.2.2.2.size hOb.out)⟩)
          clear h7 k7
          go_wp2_with fail
          with_reducible refine (HLb.out w7 H7.out.1).mono ?_
          rintro e w8 ⟨rfl, hw8⟩
          replace hw8 := hw8.symm
          subst hw8
          go_wp2_with fail
          with_reducible refine (HRd.out w7 H7.out.1).mono ?_
          rintro e w9 ⟨A9, c9, rfl, hnc9, hown, b9⟩
          have H9 := Lib.hid (show FsA w9 O f S' ∧ Below w.heap.size w w9 from ⟨FsA.below H7.out.1 b9, H7.out.2.trans (b9.mono H7.out.2.size)⟩)
          have HSm := Lib.hid (same_any A9 A n n c9 c l l w9 (Rd.of_own hown) ((HL.out.1.below H9.out.2 (Nat.le_refl _)).more H9.out.2.size) (by have := HL.out.2.2.2.2.2.2.2.2.1; omega) (by have := HL.out.2.2.2.2.2.2.2.2.1; omega))
          rw [show decide (l = l) = true by simp] at HSm
          clear hnc9 hown b9
          go_wp2_with fail
          with_reducible refine (HLa.out w9 H9.out.1).mono ?_
          rintro e w10 ⟨rfl, hw10⟩
          replace hw10 := hw10.symm
          subst hw10
          go_wp2_with fail
          with_reducible refine HSm.out.mono ?_
          rintro e w11 ⟨rfl, q, hq⟩
          replace hq := hq.symm
          subst hq
          have H11 := Lib.hid (show FsA (w9.drewN q) O f S' ∧ Below w.heap.size w (w9.drewN q) from ⟨FsA.heap H9.out.1 (fun _ _ _ => rfl), below_drewN H9.out.2 q⟩)
          go_wp2_with fail
          with_reducible refine (HNm.out _ H11.out.1).mono ?_
          rintro e w12 ⟨A12, c12, rfl, b12⟩
          have H12 := Lib.hid (show FsA w12 O f S' ∧ Below w.heap.size w w12 from ⟨FsA.below H11.out.1 b12, H11.out.2.trans (b12.mono H11.out.2.size)⟩)
          clear b12
          go_wp2_with fail
          with_reducible refine (HR2.out _ H12.out.1).mono ?_
          rintro e w13 ⟨rfl, k13⟩
          have H13 := Lib.hid (H12.out.2.trans (k13.below H12.out.2.size hOb.out))
          clear k13
          go_wp2_with fail
          go_ret
          exact ⟨rfl, H13.out⟩
        · intro s v w6 cnt1 hL hcs hr6 hc6 hg6 hz6 hen
          have hlt := HR.out.1.lt
          have hOi := HO.out.1
          have hS6 : FsA w6 O f S := FsA.heap HR.out.2.1 (fun i hi hlt => hg6.block i hlt (by intro e; injection e with e; exact ((hOi i).1 hi).2.2 e))
          have hB6 : Below w.heap.size w w6 := HR.out.2.2.2.grown hg6 HR.out.2.2.2.size (fun k hk => by injection hk with hk; have := HO.out.2; omega)
          obtain ⟨A', n', c', l', hv, hrd, hnc', hcm', hcont, hn', hnn⟩ : ∃ A' n' c' l', v = .slice A' n' c' ∧ Rd w w.heap.size 1 A' n' (bys l') ∧ n' ≤ c' ∧ c' ≤ maxLen ∧ cont l l2 s.data.toList = l' ∧ n' ≤ 1000 ∧ (s.data.toList = nA ∨ s.data.toList = nB) := by
            obtain ⟨q1, q2, q3, q4, q5, q6, q7, q8, q9, q10⟩ := HL.out
            rcases hcs with ⟨hs, hv⟩ | ⟨hs, hv⟩
            · exact ⟨A, n, c, l, hv, q1, q2, q3, by rw [hs]; rfl, by omega, .inl hs⟩
            · exact ⟨A2, n2, c2, l2, hv, q4, q5, q6, by rw [hs]; rfl, by omega, .inr hs⟩
          subst hv
          obtain ⟨S1, S2, x, e1, d1, s1, f1, e2, hRn⟩ := rn_step HR.out.2.2.1 hnn hL (by rw [hcont]; have := hrd.blen; omega)
          rw [hcont] at e2
          have hsz : s.size ≤ 1000000 := by rw [Lib.size_eq]; rcases hnn with e | e <;> rw [e] <;> decide
          have hO6 : ∀ i, w6.heap.size ≤ i → O i := fun i hi => (hOi i).2 ⟨by have := hB6.size; omega, by omega, by omega⟩
          have HCr := Lib.hid (show Calls Tryd.prog 10 #[.pointer (some ⟨f, 0, none⟩), .string s] w6 fun e w' => e = .returned (.int .i64 0) ∧ FsA w' O f S1 ∧ Ch O w6 w' from by
            have := create_at f O S w6 hO6 hS6 s hsz (by have := HR.out.2.2.1.stamp; omega)
            rw [e1] at this
            exact this)
          obtain ⟨b0, hb0, hrs⟩ := rs_of_rd hrd
          have HWr := Lib.hid (show ∀ w7, FsA w7 O f S1 → Ch O w6 w7 → Calls Tryd.prog 11 #[.pointer (some ⟨f, 0, none⟩), .string s, .int .i64 0, .slice A' n' c'] w7 fun e w' => e = .returned (.int .i64 0) ∧ FsA w' O f S2 ∧ Ch O w7 w' from fun w7 h7 k7 => by
            have s7 := k7.size
            have hOb : ∀ i, O i → w.heap.size ≤ i := fun i hi => ((hOi i).1 hi).1
            have hB7 : Below w.heap.size w w7 := hB6.trans (k7.below hB6.size hOb)
            have hl' := hrd.blen
            have := write_at f O S1 w7 (fun i hi => hO6 i (by omega)) h7 s 0 n' c' b0 l' A' x hsz (by omega) hl'.symm (by omega) hnc' hcm' (fun h0 => (hrs.heap (hB7.block b0 (hb0 (by omega)))) h0) (fun h0 ho => by have := hb0 h0; have := hOb _ ho; omega) (fun h0 => by have := hb0 h0; have := hB7.size; omega) d1 f1 (Nat.zero_le _)
            rw [e2, show ((0 : Nat) : Int) = (0 : Int) from rfl] at this
            exact this)
          have H6 := Lib.hid (And.intro hr6 (And.intro hc6 (And.intro hB6 (And.intro hRn (And.intro hO6 (And.intro hlt hz6))))))
          clear hr6 hc6 hg6 hz6 hcs hL hS6 hB6 hrd hnc' hcm' hcont hn' hnn e1 d1 s1 f1 e2 hRn hsz hO6 hb0 hrs hOi hlt
          try go_frame
          go_wp2_with fail
          with_reducible refine HCr.out.mono ?_
          rintro e w7 ⟨rfl, h7, k7⟩
          have H7 := Lib.hid (And.intro h7 k7)
          clear h7 k7
          go_wp2_with fail
          with_reducible refine (HWr.out w7 H7.out.1 H7.out.2).mono ?_
          rintro e w8 ⟨rfl, h8, k8⟩
          have H8 := Lib.hid (And.intro h8 k8)
          clear h8 k8
          go_wp2_with fail
          have H9 := Lib.hid (show RngB w8 mb rb (0 + 1 + 1) (.slice A n c) (.slice A2 n2 c2) (fun t => L t && !(t == s.data.toList)) cnt1 ∧ FsA w8 O f S2 ∧ RnS l l2 (fun t => L t && !(t == s.data.toList)) S2 ∧ Below w.heap.size w w8 from by
            obtain ⟨hr6, hc6, hB6, hRn, hO6, hlt, hz6⟩ := H6.out
            have hOi := HO.out.1
            have hOb : ∀ i, O i → w.heap.size ≤ i := fun i hi => ((hOi i).1 hi).1
            have s7 := H7.out.2.size
            have hmO : ¬ O mb := fun h => ((hOi mb).1 h).2.1 rfl
            have hrO : ¬ O rb := fun h => ((hOi rb).1 h).2.2 rfl
            refine ⟨(hr6.heap (H7.out.2.block mb (by omega) hmO) (H7.out.2.block rb (by omega) hrO)).heap (H8.out.2.block mb (by omega) hmO) (H8.out.2.block rb (by omega) hrO), H8.out.1, hRn, (hB6.trans (H7.out.2.below hB6.size hOb)).trans (H8.out.2.below (by have := hB6.size; omega) hOb)⟩)
          go_roundw
          case rel => first | exact ⟨_, cnt1, S2, H9⟩ | ((repeat apply Exists.intro); exact ⟨⟨_, cnt1, S2, H9⟩, rfl⟩)
          case measure => rw [H9.out.1.left, HR.out.1.left]; exact H6.out.2.1
end Go.Proofs.YtknjopefbbldfaaDoor
