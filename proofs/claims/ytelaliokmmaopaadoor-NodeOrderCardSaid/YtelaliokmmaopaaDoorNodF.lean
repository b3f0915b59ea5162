/- Contracts for nodes: sort.Search over the cells, Find. -/
import Derived.Test.YtelaliokmmaopaaDoorNodE
namespace Go.Proofs.YtelaliokmmaopaaDoor
open Go.RowKit
open Go.Lib (compareBytes)
attribute [local go_sem ↓] Go.wp_at_zero Go.wp_at_succ

set_option maxHeartbeats 1000000 in
theorem search_any (g2 g3 : Nat) (A : Option Addr) (n c0 : Nat) (cs : List CellP) (Ak : Option Addr) (nk ck : Nat) (key : List UInt8) (w : World)
    (h2 : w.cell? ⟨g2, 1, none⟩ = some (.slice A n c0)) (h3 : w.cell? ⟨g3, 0, none⟩ = some (.slice Ak nk ck)) (hr : RdCs w w.heap.size A n cs) (hk : Rd w w.heap.size 1 Ak nk (bys key)) (hs : SortP cs) (hn : n ≤ 1000000) :
    Calls Tryd.prog 30 #[.int .i64 n, .func (.func 31) #[] #[.pointer (some ⟨g2, 0, none⟩), .pointer (some ⟨g3, 0, none⟩)]] w fun e w' =>
      (∃ k : Nat, e = .returned (.int .i64 k) ∧ k ≤ n ∧ (∀ i, i < k → geP cs key i = false) ∧ (∀ i, k ≤ i → i < n → geP cs key i = true)) ∧ ∃ q, w' = w.drewN q := by
  have HF := Lib.hid (fun (q j : Nat) (hj : j < n) => find1_any g2 g3 A n c0 cs Ak nk ck key j (w.drewN q) h2 h3 (hr.keep fun _ _ => rfl) (hk.drewN q) hj)
  have M := Lib.hid (fun (i j : Nat) (hij : i ≤ j) (hi : geP cs key i = true) => geP_mono hs hij hi)
  clear h2 h3 hr hk hs
  go_enter Tryd.func30, Tryd.ntmps30
  go_wp2_with fail
  go_loopw [5, 6] (fun a b wr => ∃ lo hi q : Nat, a = .int .i64 lo ∧ b = .int .i64 hi ∧ lo ≤ hi ∧ hi ≤ n ∧ wr = w.drewN q ∧ Hid ((∀ t, t < lo → geP cs key t = false) ∧ (∀ t, hi ≤ t → t < n → geP cs key t = true))) (fun a b _ => (intOf b).toNat - (intOf a).toNat)
  case atStart => exact ⟨0, n, 0, rfl, rfl, Nat.zero_le _, Nat.le_refl _, rfl, Lib.hid ⟨fun t ht => absurd ht (Nat.not_lt_zero _), fun t h1 h2 => by omega⟩⟩
  case round =>
    obtain ⟨lo, hi, q, rfl, rfl, hlh, hin, rfl, I⟩ := hrel
    by_cases hlt : lo < hi
    · have hc := HF.out q ((lo + hi) / 2) (by omega)
      rw [show (((lo + hi) / 2 : Nat) : Int) = ((lo : Int) + (hi : Int)) / 2 by omega] at hc
      cases hp : geP cs key ((lo + hi) / 2) <;> rw [hp] at hc
      · have HP := Lib.hid hp
        have Hc := Lib.hid hc
        clear hp hc
        go_wp2_with (fail)
        refine Hc.out.mono ?_
        rintro e w1 ⟨rfl, q1, rfl⟩
        go_wp2
        go_roundw
        case measure => simp [intOf]; omega
        case rel =>
          exact ⟨(lo + hi) / 2 + 1, hi, q + q1, by rw [show ((lo : Int) + (hi : Int)) / 2 + 1 = (((lo + hi) / 2 + 1 : Nat) : Int) by omega], rfl, by omega, hin, rfl, Lib.hid ⟨fun t ht => (by
            cases h : geP cs key t with
            | false => rfl
            | true => have := M.out t ((lo + hi) / 2) (by omega) h; rw [HP.out] at this; cases this), I.out.2⟩⟩
      · have HP := Lib.hid hp
        have Hc := Lib.hid hc
        clear hp hc
        go_wp2_with (fail)
        refine Hc.out.mono ?_
        rintro e w1 ⟨rfl, q1, rfl⟩
        go_wp2
        go_roundw
        case measure => simp [intOf]; omega
        case rel =>
          exact ⟨lo, (lo + hi) / 2, q + q1, rfl, by rw [show ((lo : Int) + (hi : Int)) / 2 = (((lo + hi) / 2 : Nat) : Int) by omega], by omega, by omega, rfl, Lib.hid ⟨I.out.1, fun t ht _ => M.out ((lo + hi) / 2) t ht HP.out⟩⟩
    · obtain rfl : lo = hi := by omega
      go_wp2
      go_ret
      exact ⟨⟨lo, rfl, hin, I.out.1, I.out.2⟩, _, rfl⟩
set_option maxHeartbeats 2000000 in
theorem find_any (M : NdM) (N : NodP) (Ak : Option Addr) (nk ck : Nat) (key : List UInt8) (w : World) (hr : RdN w w.heap.size M N) (hk : Rd w w.heap.size 1 Ak nk (bys key)) (hs : SortP N.cells) (hn : M.n ≤ 1000000) :
    Calls Tryd.prog 15 #[.agg (ndC N.leaf M), .slice Ak nk ck] w fun e w' =>
      (∃ (k : Nat) (is : Bool), e = .returned (.tuple #[.int .i64 (if is && !N.leaf then (k : Int) + 1 else (k : Int)), .bool is]) ∧ FindAt N.cells key k is) ∧ Below w.heap.size w w' := by
  have Hr := Lib.hid hr
  have hcl := hr.len.1
  unfold ndC
  obtain ⟨A, n, c, K, m, d⟩ := M
  obtain ⟨lf, cs, ks⟩ := N
  simp only at hs hn hcl ⊢
  have hB : Below w.heap.size w ((w.alloc (.cells #[.bool lf, .slice A n c, .slice K m d] 27)).alloc (.cells #[.slice Ak nk ck] 22)) := ((Below.refl _ _).alloc (Nat.le_refl _) _).alloc (by simp) _
  have hN : Bk ((w.alloc (.cells #[.bool lf, .slice A n c, .slice K m d] 27)).alloc (.cells #[.slice Ak nk ck] 22)) w.heap.size 27 #[.bool lf, .slice A n c, .slice K m d] := (Bk.new _ _ _).alloc _
  have hK : Bk ((w.alloc (.cells #[.bool lf, .slice A n c, .slice K m d] 27)).alloc (.cells #[.slice Ak nk ck] 22)) (w.heap.size + 1) 22 #[.slice Ak nk ck] := Bk.new' _ _ _ (by simp)
  have hcs := ((hr.cs.below hB (Nat.le_refl _)).more hB.size)
  have hke := ((hk.below hB (Nat.le_refl _)).more hB.size)
  simp only at hcs
  have hS := (search_any w.heap.size (w.heap.size + 1) A n c cs Ak nk ck key _ (hN.cell 1) (hK.cell 0) hcs hke hs hn).mono (R' := fun e w1 => (∃ k : Nat, e = .returned (.int .i64 k) ∧ k ≤ n ∧ (∀ i, i < k → geP cs key i = false) ∧ (∀ i, k ≤ i → i < n → geP cs key i = true)) ∧
    Below w.heap.size w w1 ∧ Bk w1 w.heap.size 27 #[.bool lf, .slice A n c, .slice K m d] ∧ Bk w1 (w.heap.size + 1) 22 #[.slice Ak nk ck] ∧ RdCs w1 w1.heap.size A n cs ∧ Rd w1 w1.heap.size 1 Ak nk (bys key))
    (by rintro e w' ⟨h, q, rfl⟩; exact ⟨h, below_drewN hB q, hN.drewN q, hK.drewN q, hcs.keep (fun _ _ => rfl), hke.drewN q⟩)
  have HS := Lib.hid hS
  have Hcl := Lib.hid hcl
  clear hr hk hs hB hN hK hcs hke Hr hcl hS
  go_enter Tryd.func15, Tryd.ntmps15
  go_wp2_with (fail)
  refine HS.out.mono ?_
  rintro e w1 ⟨⟨k, rfl, hkn, hlo, hhi⟩, hB, hN, hK, hcs, hke⟩
  have f0 : w1.cell? ⟨w.heap.size, 0, none⟩ = some (.bool lf) := hN.cell 0
  have f1 : w1.cell? ⟨w.heap.size, 1, none⟩ = some (.slice A n c) := hN.cell 1
  have f3 : w1.cell? ⟨w.heap.size + 1, 0, none⟩ = some (.slice Ak nk ck) := hK.cell 0
  have HB := Lib.hid hB
  have HF := Lib.hid (show ∀ is, (is = true ↔ ∃ c, cs[k]? = some c ∧ c.key = key) → FindAt cs key k is from by
    intro is h
    refine ⟨by have := Hcl.out; omega, fun i c hi hc => ?_, fun i c hi hc => ?_, h⟩
    · have := hlo i hi
      rw [geP_some hc] at this
      simp only [decide_eq_false_iff_not] at this
      omega
    · have := hhi i hi (by have := (List.getElem?_eq_some_iff.1 hc).1; have := Hcl.out; omega)
      rw [geP_some hc] at this
      simpa using this)
  clear hB hN hK hlo hhi HS
  by_cases hlt : k < n
  · obtain ⟨b, o, cc, Ac, nc, cc', Av, nv, cv, rfl, hb, hcj, k0, hrk, hnck, k1, hrv, hncv, k2, k3⟩ := hcs.at_ hlt
    have Hc := Lib.hid (fun q => equal_any Ac Ak nc cc' nk ck cc.key key (w1.drewN q) (hrk.drewN q) (hke.drewN q))
    have HF2 := Lib.hid (HF.out (decide (cc.key = key)) (by rw [decide_eq_true_iff, hcj]; exact ⟨fun h => ⟨cc, rfl, h⟩, fun ⟨c, h1, h2⟩ => by injection h1 with h1; rw [h1]; exact h2⟩))
    have hlt' : decide (k < n) = true := decide_eq_true hlt
    generalize decide (cc.key = key) = is at *
    clear hcs hke hrk hrv hcj k1 k2 k3 HF
    go_wp2_with (fail)
    go_quiet ((go_at_call 33; exact Calls.quiet_of_same (Hc.out _)))
    cases is <;> cases lf
    all_goals
      go_wp2
      go_ret2
      exact ⟨⟨k, _, rfl, HF2.out⟩, below_drewN HB.out _⟩
  · have hlt' : decide (k < n) = false := decide_eq_false hlt
    have HF2 := Lib.hid (HF.out false (by
      constructor
      · intro h; cases h
      · rintro ⟨c, h, _⟩
        have := (List.getElem?_eq_some_iff.1 h).1; have := Hcl.out; omega))
    clear hcs hke HF
    go_wp2_with (fail)
    go_quiet (fail)
    go_wp2
    go_ret2
    exact ⟨⟨k, _, rfl, HF2.out⟩, below_drewN HB.out _⟩
end Go.Proofs.YtelaliokmmaopaaDoor
