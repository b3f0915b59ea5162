/- The walk of BitsWrites. -/
import Derived.Test.YtnedboomhbdecaaBit5
import Derived.Test.YtnedboomhbdecaaBit6
import Derived.Test.YtnedboomhbdecaaBit9
import Derived.Test.YtnedboomhbdecaaBitA
import Derived.Test.YtnedboomhbdecaaBitC
import Derived.Test.YtnedboomhbdecaaBitR
import Derived.Test.YtnedboomhbdecaaPcs
namespace Go.Proofs.Ytnedboomhbdecaa
open Go.RowKit

/-- A writer at g that holds Lw, and ints that are La, apart; all of the call's own. -/
def WA (w0 w : World) (g : Nat) (all : Value) (Lw La : List Bool) : Prop :=
  ∃ S, WrS w S g Lw ∧ w.ownsRow w0.heap.size 3 1 all La.length (its (bnums La)) ∧ (∀ k, all.ownBlock = some k → ¬ S k) ∧ (∀ k, S k → w0.heap.size ≤ k) ∧ Below w0.heap.size w0 w
section
variable {w0 w w' : World} {g : Nat} {all : Value} {Lw La : List Bool}
theorem WA.below (h : WA w0 w g all Lw La) (hb : Below w.heap.size w w') : WA w0 w' g all Lw La := by
  obtain ⟨S, h1, h2, h3, h4, h5⟩ := h
  exact ⟨S, h1.ch (Ch.of_below (S := fun _ => False) hb (Nat.le_refl _)) (fun _ _ h => h), own_below h2 hb (Nat.le_refl _), h3, h4, h5.trans (hb.mono h5.size)⟩
theorem WA.alloc (h : WA w0 w g all Lw La) (o : Obj) : WA w0 (w.alloc o) g all Lw La := h.below ((Below.refl _ _).alloc (Nat.le_refl _) o)
theorem WA.bel (h : WA w0 w g all Lw La) : Below w0.heap.size w0 w := by obtain ⟨S, _, _, _, _, h5⟩ := h; exact h5
theorem WA.own (h : WA w0 w g all Lw La) : w.ownsRow w0.heap.size 3 1 all La.length (its (bnums La)) := by obtain ⟨S, _, h2, _, _, _⟩ := h; exact h2
/-- The writer is written to. -/
theorem WA.wr (h : WA w0 w g all Lw La) : ∃ S, WrS w S g Lw ∧ (∀ k, S k → k < w.heap.size) ∧ ∀ Lw' w', WrPost w S g Lw' w' → WA w0 w' g all Lw' La := by
  obtain ⟨S, h1, h2, h3, h4, h5⟩ := h
  refine ⟨S, h1, (by obtain ⟨_, _, _, _, _, h⟩ := h1; exact h), fun Lw' w' hp => ?_⟩
  obtain ⟨S', k1, k2, k3⟩ := hp
  refine ⟨S', k1, own_ch h2 k2 h3, fun k hk hS => ?_, fun k hk => ?_, h5.trans (k2.below h5.size h4)⟩
  · rcases k3 k hS with h | h
    · exact h3 k hk h
    · have := (h2.lt k hk).2; omega
  · rcases k3 k hk with h | h
    · exact h4 k h
    · exact Nat.le_trans h5.size h
theorem WA.wrA (h : WA w0 w g all Lw La) (o : Obj) : ∃ S, WrS (w.alloc o) S g Lw ∧ (∀ k, S k → k < w.heap.size) ∧ ∀ Lw' w', WrPost (w.alloc o) S g Lw' w' → WA w0 w' g all Lw' La := by
  obtain ⟨S, h1, h2, h3, h4, h5⟩ := h
  have hlt : ∀ k, S k → k < w.heap.size := by obtain ⟨_, _, _, _, _, h⟩ := h1; exact h
  have ha : Below w.heap.size w (w.alloc o) := (Below.refl _ _).alloc (Nat.le_refl _) o
  have h1' : WrS (w.alloc o) S g Lw := h1.ch (Ch.of_below (S := fun _ => False) ha (Nat.le_refl _)) (fun _ _ h => h)
  have h5' := h5.trans (ha.mono h5.size)
  have h2' := own_below h2 ha (Nat.le_refl _)
  refine ⟨S, h1', hlt, fun Lw' w' hp => ?_⟩
  obtain ⟨S', k1, k2, k3⟩ := hp
  refine ⟨S', k1, own_ch h2' k2 h3, fun k hk hS => ?_, fun k hk => ?_, h5'.trans (k2.below h5'.size h4)⟩
  · rcases k3 k hS with h | h
    · exact h3 k hk h
    · have := (h2'.lt k hk).2; omega
  · rcases k3 k hk with h | h
    · exact h4 k h
    · exact Nat.le_trans h5'.size h
/-- The ints are appended to. -/
theorem WA.app {all' : Value} {La' : List Bool} (h : WA w0 w g all Lw La) (ho : w'.ownsRow w0.heap.size 3 1 all' La'.length (its (bnums La'))) (hg : w.grownBy w' all.ownBlock) (hv : all'.ownBlock = all.ownBlock ∨ all'.ownBlock = some w.heap.size) : WA w0 w' g all' Lw La' := by
  obtain ⟨S, h1, h2, h3, h4, h5⟩ := h
  have hlt : ∀ k, S k → k < w.heap.size := by obtain ⟨_, _, _, _, _, h⟩ := h1; exact h
  refine ⟨S, h1.ch ((Ch.refl (fun k => all.ownBlock = some k) w).grown hg (fun i hi => .inl hi)) (fun i hi he => h3 i he hi), ho, fun k hk hS => ?_, h4, below_own h5 h2 (Nat.le_refl _) h5.size hg⟩
  rcases hv with e | e
  · exact h3 k (by rw [← e]; exact hk) hS
  · rw [e] at hk; injection hk with hk; have := hlt k hS; omega
end

set_option maxHeartbeats 1000000 in
theorem bitsWrites_walk (A1 : Option Addr) (n1 c1 : Nat) (l1 : List (List Int × List UInt8)) (w : World)
    (hr1 : RdPcs w w.heap.size 3 A1 n1 l1) (hnc1 : n1 ≤ c1) (_hcm1 : c1 ≤ maxLen) :
    Calls Try.prog 6 #[.slice A1 n1 c1] w fun e w' => e = .returned (.bool true) ∧ Below w.heap.size w w' := by
  have hcm1 := _hcm1
  unfold maxLen at hcm1
  clear _hcm1
  by_cases h1 : 200 < n1
  · go_enter Try.func6, Try.ntmps6
    go_wp2_with fail
    refine (bitwakes_any w).mono ?_
    rintro e w1 ⟨rfl, hb1⟩
    go_wp2
    go_ret
    exact ⟨rfl, hb1⟩
  go_enter Try.func6, Try.ntmps6
  go_wp2_with fail
  refine (bitwakes_any w).mono ?_
  rintro e w1 ⟨rfl, hb1⟩
  go_wp2_with fail
  refine (write_any w1).mono ?_
  rintro e w2 ⟨rfl, hw2, hc2, hsz2⟩
  go_wp2_with fail
  have hb2 : Below w.heap.size w w2 := hb1.trans (hc2.below hb1.size (fun _ h => h.elim))
  have hwa : WA w w2 w1.heap.size (.slice none 0 0) [] [] := ⟨_, hw2, own_nilI _ _ _, by simp [Value.ownBlock], fun k hk => by have := hb1.size; omega, hb2⟩
  clear hb2 hw2 hc2 hsz2
  generalize w1.heap.size = g at *
  go_loopw [4, 21] (fun all i wr => ∃ j : Nat, j ≤ n1 ∧ i = .int .i64 j ∧ ∃ L, L.length ≤ 24 * j ∧ WA w wr g all L L) (fun _ i _ => n1 - (intOf i).toNat)
  case atStart => exact ⟨0, Nat.zero_le _, rfl, [], by simp, hwa⟩
  case round =>
    obtain ⟨j, hj, rfl, L, hL, hwa⟩ := hrel
    by_cases hlt : j < n1
    · obtain ⟨b, o, ⟨zs, bl⟩, rfl, hbb, hx, hzl, hzb, hzc, v, hvc, A2, n2, c2, rfl, hvr, hvn⟩ := (hr1.below hwa.bel (Nat.le_refl _)).at_ hlt
      obtain ⟨x, y, z, rfl⟩ : ∃ x y z, zs = [x, y, z] := by
        match zs, hzl with
        | [x, y, z], _ => exact ⟨x, y, z, rfl⟩
      have k0 := hzc 0 x rfl
      have k1 := hzc 1 y rfl
      have k2 := hzc 2 z rfl
      simp only [Nat.reduceAdd, Nat.add_zero] at k0 k1 k2 hvc
      clear hzc hzl hzb hx
      have hbk := Bk.new wr 46 #[.int .i64 x, .int .i64 y, .int .i64 z, .slice A2 n2 c2]
      by_cases hx0 : x = 0
      · subst hx0
        obtain ⟨S, hS1, hS2, hS3⟩ := hwa.wrA (.cells #[.int .i64 0, .int .i64 y, .int .i64 z, .slice A2 n2 c2] 46)
        have hT := fun w' (hp : WrPost _ S g (L ++ lowB (hel y).toNat z) w') => And.intro (hS3 _ _ hp) (show Bk w' wr.heap.size 46 #[.int .i64 0, .int .i64 y, .int .i64 z, .slice A2 n2 c2] from by obtain ⟨_, _, hch, _⟩ := hp; exact hbk.ch hch (fun h => by have := hS2 _ h; omega))
        have HT := Lib.hid hT
        clear hT hS3 hS2 hbk
        go_wp2_with fail
        refine (wbits_any g S L y z _ hS1 (by omega)).mono ?_
        rintro e w3 ⟨rfl, hp3⟩
        obtain ⟨hwa3, hbk3⟩ := HT.out _ hp3
        have q0 := hbk3.cell 0
        have q1 := hbk3.cell 1
        have q2 := hbk3.cell 2
        simp at q0 q1 q2
        clear hp3 HT hS1
        go_wp2_with fail
        refine (reflow_any y z _).mono ?_
        rintro e w4 ⟨r4, rfl, hr4, hb4⟩
        have hwa4 := hwa3.below hb4
        obtain ⟨A4, c4, rfl, _, _⟩ := own_form hr4
        have hrd4 := Rd.of_own hr4
        clear hr4 hwa3
        go_wp2_with (
          at_builtin
          refine ap_its hwa4.own hrd4 hwa4.bel hwa4.bel.size (by have := hel_bd y; omega) rfl rfl rfl ?_
          intro v5 w5 hown5 hb5 hg5 hv5)
        have hwa5 : WA w w5 g v5 (L ++ lowB (hel y).toNat z) (L ++ lowB (hel y).toNat z) := hwa4.app (by rw [List.length_append, lowB_len]; simpa [bnums] using hown5) hg5 hv5
        have hL5 : (L ++ lowB (hel y).toNat z).length ≤ 24 * (j + 1) := by rw [List.length_append, lowB_len]; have := hel_bd y; omega
        clear hown5 hb5 hg5 hv5 hwa4 hrd4 hb4
        generalize L ++ lowB (hel y).toNat z = L5 at *
        obtain ⟨A5, c5, rfl, _, _⟩ := own_form hwa5.own
        obtain ⟨S5, hS51, _, _⟩ := hwa5.wr
        go_wp2_with fail
        refine (wlen_any g S5 L5 w5 hS51).mono ?_
        rintro e w6 ⟨rfl, rfl⟩
        clear hS51
        go_wp2_with fail
        go_roundw
        case rel => exact ⟨j + 1, by omega, by go_num, L5, hL5, hwa5⟩
        case measure => simp [intOf]; omega
      by_cases hx1 : x = 1
      · subst hx1
        obtain ⟨S, hS1, hS2, hS3⟩ := hwa.wrA (.cells #[.int .i64 1, .int .i64 y, .int .i64 z, .slice A2 n2 c2] 46)
        have hT := fun w' (hp : WrPost _ S g (L ++ (lowB (hel y).toNat z).reverse) w') => And.intro (hS3 _ _ hp) (show Bk w' wr.heap.size 46 #[.int .i64 1, .int .i64 y, .int .i64 z, .slice A2 n2 c2] from by obtain ⟨_, _, hch, _⟩ := hp; exact hbk.ch hch (fun h => by have := hS2 _ h; omega))
        have HT := Lib.hid hT
        clear hT hS3 hS2 hbk
        go_wp2_with fail
        refine (wcode_any g S L y z _ hS1 (by omega)).mono ?_
        rintro e w3 ⟨rfl, hp3⟩
        obtain ⟨hwa3, hbk3⟩ := HT.out _ hp3
        have q0 := hbk3.cell 0
        have q1 := hbk3.cell 1
        have q2 := hbk3.cell 2
        simp at q0 q1 q2
        clear hp3 HT hS1
        go_wp2_with fail
        refine (refhigh_any y z _).mono ?_
        rintro e w4 ⟨r4, rfl, hr4, hb4⟩
        have hwa4 := hwa3.below hb4
        obtain ⟨A4, c4, rfl, _, _⟩ := own_form hr4
        have hrd4 := Rd.of_own hr4
        clear hr4 hwa3
        go_wp2_with (
          at_builtin
          refine ap_its hwa4.own hrd4 hwa4.bel hwa4.bel.size (by have := hel_bd y; omega) rfl rfl rfl ?_
          intro v5 w5 hown5 hb5 hg5 hv5)
        have hwa5 : WA w w5 g v5 (L ++ (lowB (hel y).toNat z).reverse) (L ++ (lowB (hel y).toNat z).reverse) := hwa4.app (by rw [List.length_append, List.length_reverse, lowB_len]; simpa [bnums] using hown5) hg5 hv5
        have hL5 : (L ++ (lowB (hel y).toNat z).reverse).length ≤ 24 * (j + 1) := by rw [List.length_append, List.length_reverse, lowB_len]; have := hel_bd y; omega
        clear hown5 hb5 hg5 hv5 hwa4 hrd4 hb4
        generalize L ++ (lowB (hel y).toNat z).reverse = L5 at *
        obtain ⟨A5, c5, rfl, _, _⟩ := own_form hwa5.own
        obtain ⟨S5, hS51, _, _⟩ := hwa5.wr
        go_wp2_with fail
        refine (wlen_any g S5 L5 w5 hS51).mono ?_
        rintro e w6 ⟨rfl, rfl⟩
        clear hS51
        go_wp2_with fail
        go_roundw
        case rel => exact ⟨j + 1, by omega, by go_num, L5, hL5, hwa5⟩
        case measure => simp [intOf]; omega
      by_cases hx2 : x = 2
      · subst hx2
        obtain ⟨S, hS1, hS2, hS3⟩ := hwa.wrA (.cells #[.int .i64 2, .int .i64 y, .int .i64 z, .slice A2 n2 c2] 46)
        have hz8 : (8 - L.length % 8) % 8 < 8 := Nat.mod_lt _ (by omega)
        have hzl : (L.length + (8 - L.length % 8) % 8) % 8 = 0 := by omega
        clear hbk
        go_wp2_with fail
        refine (walign_any g S L _ hS1 (by omega)).mono ?_
        rintro e w3 ⟨rfl, hw3, hch3⟩
        have hwa3 := hS3 _ w3 ⟨S, hw3, hch3, fun k hk => .inl hk⟩
        clear hS1 hS2 hS3 hw3 hch3
        generalize (8 - L.length % 8) % 8 = Z at *
        go_wp2_with fail
        go_loopw [4] (fun all wr2 => ∃ m : Nat, m ≤ Z ∧ WA w wr2 g all (L ++ List.replicate Z false) (L ++ List.replicate m false)) (fun all _ => Z + L.length - (match all with | .slice _ n _ => n | _ => 0))
        case atStart => exact ⟨0, Nat.zero_le _, by simpa using hwa3⟩
        case round =>
          obtain ⟨m, hm, hwa4⟩ := hrel
          obtain ⟨K, hK⟩ : ∃ K, L.length + m = K := ⟨_, rfl⟩
          have hlen : (L ++ List.replicate m false).length = K := by simp [hK]
          have hown := hwa4.own
          rw [hlen] at hown
          obtain ⟨A4, c4, rfl, _, _⟩ := own_form hown
          have hsz := hwa4.bel.size
          by_cases hmz : m < Z
          · have e0 : ((K : Int) % 8 != 0) = true := by rw [bne_iff_ne]; omega
            have hKl : K ≤ 24 * j + 8 ∧ K < Z + L.length := by omega
            have hln1 : (L ++ List.replicate (m + 1) false).length = K + 1 := by simp; omega
            have hbn : bnums (L ++ List.replicate (m + 1) false) = bnums (L ++ List.replicate m false) ++ [0] := by
              rw [List.replicate_succ', ← List.append_assoc, bnums_snoc]; rfl
            have Hln := Lib.hid hln1
            have Hbn := Lib.hid hbn
            have HK := Lib.hid hK
            clear hlen hln1 hbn hK hzl
            go_wp2_with (
              at_builtin
              refine ap_its (hown.alloc _) (Rd.oneI wr _ 0) (hwa4.bel.alloc hsz _) (by simp; omega) (by omega) rfl rfl rfl ?_
              intro v5 w5 hown5 hb5 hg5 hv5)
            have hwa5 : WA w w5 g v5 (L ++ List.replicate Z false) (L ++ List.replicate (m + 1) false) := (hwa4.alloc _).app (by rw [Hln.out, Hbn.out]; exact hown5) hg5 hv5
            have hown6 := hwa5.own
            rw [Hln.out] at hown6
            obtain ⟨A6, c6, rfl, _, _⟩ := own_form hown6
            clear hown5 hb5 hg5 hv5 hown6 hown hwa4
            go_roundw
            case rel => exact ⟨m + 1, by omega, hwa5⟩
            case measure => simp; omega
          · have hmz2 : m = Z := by omega
            subst hmz2
            have e0 : ((K : Int) % 8 != 0) = false := by rw [bne_eq_false_iff_eq]; omega
            have hKl : K ≤ 24 * (j + 1) := by omega
            obtain ⟨S5, hS51, _, _⟩ := hwa4.wr
            have hle := wlen_any g S5 _ wr hS51
            rw [hlen] at hle
            have Hlen := Lib.hid hlen
            have HK := Lib.hid hK
            clear hlen hK hzl hS51
            generalize L ++ List.replicate m false = L5 at *
            go_wp2_with fail
            refine hle.mono ?_
            rintro e w6 ⟨rfl, rfl⟩
            go_wp2_with fail
            go_roundw
            case rel => exact ⟨j + 1, by omega, by go_num, L5, by rw [Hlen.out]; exact hKl, hwa4⟩
            case measure => simp [intOf]; omega
      · have e0 : (x == 0) = false := by simp [hx0]
        have e1 : (x == 1) = false := by simp [hx1]
        have e2 : (x == 2) = false := by simp [hx2]
        clear hx0 hx1 hx2
        have hwa1 := hwa.alloc (.cells #[.int .i64 x, .int .i64 y, .int .i64 z, .slice A2 n2 c2] 46)
        obtain ⟨A5, c5, rfl, _, _⟩ := own_form hwa1.own
        obtain ⟨S5, hS51, _, _⟩ := hwa1.wr
        clear hbk
        go_wp2_with fail
        refine (wlen_any g S5 L _ hS51).mono ?_
        rintro e w6 ⟨rfl, rfl⟩
        clear hS51
        go_wp2_with fail
        go_roundw
        case rel => exact ⟨j + 1, by omega, by go_num, L, by omega, hwa1⟩
        case measure => simp [intOf]; omega
    · have : j = n1 := by omega
      subst this
      obtain ⟨S, hS1, hS2, hS3⟩ := hwa.wr
      go_wp2_with fail
      refine (wbytes_any g S L wr hS1 (by omega)).mono ?_
      rintro e w3 ⟨A3, c3, rfl, hc3, hr3, hb3⟩
      have hwa3 := hwa.below hb3
      obtain ⟨A4, c4, rfl, _, _⟩ := own_form hwa3.own
      have hrd4 := Rd.of_own hwa3.own
      have hb0 := hwa3.bel
      clear hwa hwa3 hS1 hS2 hS3 hb3
      go_wp2_with fail
      refine (rread_any _ 1 1 [packB L] _ ((RdRows.one w3 _ (RdB.mk hr3 hc3) (Nat.le_refl _)).more (by simp)) (by omega) (by simp [packB_len]; omega)).mono ?_
      rintro e w5 ⟨rfl, S5, hrd5, hS5, hb5⟩
      have hb35 : Below w3.heap.size w3 w5 := ((Below.refl _ _).alloc (Nat.le_refl _) _).trans (hb5.mono (by simp))
      have hS5' : ∀ k, S5 k → w3.heap.size ≤ k := fun k hk => Nat.le_trans (by simp) (hS5 k hk)
      simp only [List.flatten_cons, List.flatten_nil, List.append_nil] at hrd5
      have hLl : L.length ≤ 4800 := by omega
      clear hS5 hb5 hL
      generalize (w3.alloc (.cells #[.slice A3 ((L.length + 7) / 8) c3] 28)).heap.size = gR at *
      go_wp2_with fail
      go_loopw [81] (fun i wr => ∃ k : Nat, k ≤ L.length ∧ i = .int .i64 k ∧ RdS wr S5 gR (packB L) k ∧ Below w3.heap.size w3 wr) (fun i _ => L.length - (intOf i).toNat)
      case atStart => exact ⟨0, Nat.zero_le _, rfl, hrd5, hb35⟩
      case round =>
        clear hrd5 hb35
        obtain ⟨k, hk, rfl, hrd, hbw⟩ := hrel
        by_cases hlt2 : k < L.length
        · obtain ⟨b, o, u, rfl, hbb, hx, hc⟩ := hrd4.num hlt2
          obtain ⟨bt, hbt, hu⟩ := bnums_at hx
          have hc' := (hbw.cell (p := ⟨b, o + k, none⟩) hbb).trans hc
          have hel1 : hel 1 = 1 := by decide
          have hy := rbits_yes gR S5 (packB L) k 1 wr hrd (by rw [hel1, packB_len]; omega)
          rw [hel1] at hy
          have hp := peekN_pack L k bt hbt
          have h1 : (1 : Int).toNat = 1 := rfl
          rw [h1, hp, ← hu] at hy
          clear hx hc hbt hu hp h1 hel1
          go_wp2_with fail
          refine hy.mono ?_
          rintro e w6 ⟨rfl, hrd6, hch6⟩
          have hbw6 := hbw.trans (hch6.below hbw.size hS5')
          clear hy hrd hbw hc' hch6
          go_wp2_with fail
          go_roundw
          case rel => exact ⟨k + 1, by omega, by go_num, hrd6, hbw6⟩
          case measure => simp [intOf]; omega
        · have hkL : k = L.length := by omega
          have hB : w3.heap.size ≤ wr.heap.size := hbw.size
          have hbf := refbytes_any w3.heap.size A4 L.length c4 L wr (hrd4.below hbw (Nat.le_refl _)) hB (by omega)
          have hLf : 8 * ((packB L).length : Int) - k < 8 := by rw [packB_len]; omega
          clear hkL
          go_wp2_with fail
          refine hbf.mono ?_
          rintro e w6 ⟨r6, rfl, hr6, hb6⟩
          obtain ⟨A6, c6, rfl, _, _⟩ := own_form hr6
          have hrd6 := Rd.of_own hr6
          have hrs6 := hrd.ch (Ch.of_below (S := fun _ => False) hb6 (Nat.le_refl _)) (fun _ _ h => h)
          have hbw6 : Below w3.heap.size w3 w6 := hbw.trans (hb6.mono hB)
          go_wp2_with fail
          refine (same_any A3 A6 _ _ c3 c6 _ _ w6 ((hr3.below hbw6 (Nat.le_refl _)).more hbw6.size) hrd6 (by omega) (by omega)).mono ?_
          rintro e w7 ⟨rfl, q, rfl⟩
          rw [decide_eq_true rfl]
          have hrs7 : RdS (w6.drewN q) S5 gR (packB L) k := hrs6
          go_wp2_with fail
          refine (rleft_any gR S5 (packB L) k _ hrs7).mono ?_
          rintro e w8 ⟨rfl, q2, rfl⟩
          go_wp2
          go_ret
          exact ⟨ret_bool (by first | (simp; done) | (simp; omega)), below_drewN (hb0.trans (hbw6.mono hb0.size)) _⟩
end Go.Proofs.Ytnedboomhbdecaa
