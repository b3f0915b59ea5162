/- Contracts of package inflate: fixed. -/
import Derived.Test.YtnedboomhbdecaaInfC
namespace Go.Proofs.Ytnedboomhbdecaa
open Go.RowKit
attribute [local go_sem ↓] Go.wp_at_zero Go.wp_at_succ

theorem HCl.low {w : World} {lo lo' : Nat} {l : List Int} {g : Nat} (h : HCl w lo l g) (hl : lo' ≤ lo) : HCl w lo' l g := by
  obtain ⟨vs, lv, h1, h2, h3⟩ := h
  refine ⟨vs, lv, h1, by omega, fun k hk => ?_⟩
  obtain ⟨B, m, d, e, hd, hr, hb⟩ := h3 k hk
  exact ⟨B, m, d, e, hd, hr, fun hm => by obtain ⟨b, o, e2, h4⟩ := hb hm; exact ⟨b, o, e2, by omega⟩⟩
theorem HCl.below {w w' : World} {lo : Nat} {l : List Int} {g : Nat} (h : HCl w lo l g) (hb : Below w.heap.size w w') : HCl w' lo l g := by
  obtain ⟨vs, lv, h1, h2, h3⟩ := h
  refine ⟨vs, lv, h1.below hb h1.lt, h2, fun k hk => ?_⟩
  obtain ⟨B, m, d, e, hd, hr, hlo⟩ := h3 k hk
  exact ⟨B, m, d, e, hd, (hr.below hb (Nat.le_refl _)).more hb.size, hlo⟩
/-- An array that is filled from its front. -/
def fil (l : List Int) (N k : Nat) : Array Value := (its (l.take k ++ List.replicate (N - k) 0)).toArray
theorem fil_set {l : List Int} {N k : Nat} {x : Int} (hx : l[k]? = some x) (hk : k < N) (hl : l.length = N) : (fil l N k).setIfInBounds k (.int .i64 x) = fil l N (k + 1) := by
  unfold fil
  rw [List.setIfInBounds_toArray]
  congr 1
  unfold its
  rw [← List.map_set]
  congr 1
  have h1 : (l.take k).length = k := by rw [List.length_take]; omega
  rw [List.set_append_right _ _ (by omega), h1, Nat.sub_self, take_step hx, List.append_assoc]
  congr 1
  obtain ⟨m, hm⟩ : ∃ m, N - k = m + 1 := ⟨N - k - 1, by omega⟩
  rw [hm, show N - (k + 1) = m by omega, List.replicate_succ]
  rfl
theorem fil_cell {l : List Int} {N k j : Nat} (hj : j < N) (hl : l.length = N) : ∃ x, (fil l N k)[j]? = some (.int .i64 x) := by
  unfold fil its
  rw [List.getElem?_toArray, List.getElem?_map]
  have h : j < (l.take k ++ List.replicate (N - k) 0).length := by rw [List.length_append, List.length_take, List.length_replicate]; omega
  exact ⟨_, by rw [List.getElem?_eq_getElem h]; rfl⟩
theorem fil_done {l : List Int} {N : Nat} (hl : l.length = N) : fil l N N = (its l).toArray := by
  unfold fil
  rw [Nat.sub_self, List.replicate_zero, List.append_nil, List.take_of_length_le (by omega)]
theorem fil_zero (l : List Int) (N : Nat) : fil l N 0 = (its (List.replicate N 0)).toArray := by
  unfold fil; rw [List.take_zero, List.nil_append, Nat.sub_zero]
theorem Rd.of_bk {w : World} {g n : Nat} {t : TypeId} {l : List Int} (h : Bk w g t (its l).toArray) (hn : n = l.length) : Rd w w.heap.size 1 (some ⟨g, 0, none⟩) n (its l) :=
  ⟨by rw [its_len]; omega, fun _ => ⟨g, 0, rfl, h.lt, fun j u hu => by rw [Nat.zero_add, h.cell]; simpa using hu⟩⟩
theorem fixL_len : fixL.length = 288 := by decide +kernel
theorem fixD_len : fixD.length = 32 := by decide +kernel
theorem fixL_at : ∀ k, k < 288 → fixL[k]? = some (if k < 144 then 8 else if k < 256 then 9 else if k < 280 then 7 else 8) := by decide +kernel
theorem fixD_at : ∀ k, k < 32 → fixD[k]? = some 5 := by decide +kernel
theorem fix_ok : mayB fixL = true ∧ overTo fixL 15 = false ∧ mayB fixD = true ∧ overTo fixD 15 = false := by decide +kernel
theorem zer288 : Try.zeroCells104 = fil fixL 288 0 := by rw [fil_zero]; kernel_rfl
theorem zer32 : (#[.int .i64 0, .int .i64 0, .int .i64 0, .int .i64 0, .int .i64 0, .int .i64 0, .int .i64 0, .int .i64 0, .int .i64 0, .int .i64 0, .int .i64 0, .int .i64 0, .int .i64 0, .int .i64 0, .int .i64 0, .int .i64 0, .int .i64 0, .int .i64 0, .int .i64 0, .int .i64 0, .int .i64 0, .int .i64 0, .int .i64 0, .int .i64 0, .int .i64 0, .int .i64 0, .int .i64 0, .int .i64 0, .int .i64 0, .int .i64 0, .int .i64 0, .int .i64 0] : Array Value) = fil fixD 32 0 := by rw [fil_zero]; rfl
set_option maxHeartbeats 4000000 in
set_option maxRecDepth 100000 in
theorem fixed_any (w : World) :
    Calls Try.prog 71 #[] w fun e w' => (∃ g1 g2, e = .returned (.tuple #[.pointer (some ⟨g1, 0, none⟩), .pointer (some ⟨g2, 0, none⟩)]) ∧ HCl w' w.heap.size fixL g1 ∧ HCl w' w.heap.size fixD g2) ∧ Below w.heap.size w w' := by
  have hb0 : Bk (w.alloc (.cells Try.zeroCells104 104)) w.heap.size 104 (fil fixL 288 0) := by rw [← zer288]; exact Bk.new _ _ _
  have Hb0 := Lib.hid hb0
  clear hb0
  go_enter Try.func71, Try.ntmps71
  go_wp2_with fail
  have Hbe := Lib.hid ((Below.refl w.heap.size w).alloc (Nat.le_refl _) (.cells Try.zeroCells104 104))
  generalize w.alloc (.cells Try.zeroCells104 104) = w0 at *
  go_loopw [10] (fun i wr => ∃ k : Nat, i = .int .i64 k ∧ k ≤ 288 ∧ Hid (Bk wr w.heap.size 104 (fil fixL 288 k)) ∧ Hid (Below w.heap.size w wr)) (fun i _ => 288 - (intOf i).toNat)
  case atStart => exact ⟨0, rfl, by omega, Hb0, Hbe⟩
  case round =>
    obtain ⟨k, rfl, hk, hb, hbe⟩ := hrel
    clear Hb0 Hbe
    by_cases hlt : k < 288
    · have hx := fixL_at k hlt
      obtain ⟨y, hy⟩ := fil_cell (k := k) hlt fixL_len
      have hcy := (hb.out.cell k).trans hy
      have hfy := hb.out.free k
      have hset := fun x (h : fixL[k]? = some x) => (hb.out.set k (.int .i64 x))
      have i0 : (0 : Int) ≤ (k : Int) := by omega
      have i1 : (k : Int) < 288 := by omega
      have hnx : ∀ x, fixL[k]? = some x → Hid (Bk (wr.setCell ⟨w.heap.size, k, none⟩ (.int .i64 x)) w.heap.size 104 (fil fixL 288 (k + 1))) ∧ Hid (Below w.heap.size w (wr.setCell ⟨w.heap.size, k, none⟩ (.int .i64 x))) := fun x h =>
        ⟨Lib.hid (by rw [← fil_set h hlt fixL_len]; exact hb.out.set k _), Lib.hid (hbe.out.setCell (p := ⟨w.heap.size, k, none⟩) (Nat.le_refl _) _)⟩
      clear hset hy
      by_cases h1 : k < 144
      · rw [if_pos h1] at hx
        obtain ⟨n1, n2⟩ := hnx _ hx
        clear hnx hx hb hbe
        go_wp2_with fail
        go_roundw
        case rel => exact ⟨k + 1, by go_num, by omega, n1, n2⟩
        case measure => simp [intOf]; omega
      rw [if_neg h1] at hx
      by_cases h2 : k < 256
      · rw [if_pos h2] at hx
        obtain ⟨n1, n2⟩ := hnx _ hx
        clear hnx hx hb hbe
        go_wp2_with fail
        go_roundw
        case rel => exact ⟨k + 1, by go_num, by omega, n1, n2⟩
        case measure => simp [intOf]; omega
      rw [if_neg h2] at hx
      by_cases h3 : k < 280
      · rw [if_pos h3] at hx
        obtain ⟨n1, n2⟩ := hnx _ hx
        clear hnx hx hb hbe
        go_wp2_with fail
        go_roundw
        case rel => exact ⟨k + 1, by go_num, by omega, n1, n2⟩
        case measure => simp [intOf]; omega
      rw [if_neg h3] at hx
      obtain ⟨n1, n2⟩ := hnx _ hx
      clear hnx hx hb hbe
      go_wp2_with fail
      go_roundw
      case rel => exact ⟨k + 1, by go_num, by omega, n1, n2⟩
      case measure => simp [intOf]; omega
    · obtain rfl : 288 = k := by omega
      have hrd := hb.out
      rw [fil_done fixL_len] at hrd
      have Hrd := Lib.hid hrd
      have hlt0 := hrd.lt
      have hb2 : Bk (wr.alloc (.cells #[.int .i64 0, .int .i64 0, .int .i64 0, .int .i64 0, .int .i64 0, .int .i64 0, .int .i64 0, .int .i64 0, .int .i64 0, .int .i64 0, .int .i64 0, .int .i64 0, .int .i64 0, .int .i64 0, .int .i64 0, .int .i64 0, .int .i64 0, .int .i64 0, .int .i64 0, .int .i64 0, .int .i64 0, .int .i64 0, .int .i64 0, .int .i64 0, .int .i64 0, .int .i64 0, .int .i64 0, .int .i64 0, .int .i64 0, .int .i64 0, .int .i64 0, .int .i64 0] 105)) wr.heap.size 105 (fil fixD 32 0) := by rw [← zer32]; exact Bk.new _ _ _
      have Hb2 := Lib.hid hb2
      have Hrd2 := Lib.hid (hrd.alloc (.cells #[.int .i64 0, .int .i64 0, .int .i64 0, .int .i64 0, .int .i64 0, .int .i64 0, .int .i64 0, .int .i64 0, .int .i64 0, .int .i64 0, .int .i64 0, .int .i64 0, .int .i64 0, .int .i64 0, .int .i64 0, .int .i64 0, .int .i64 0, .int .i64 0, .int .i64 0, .int .i64 0, .int .i64 0, .int .i64 0, .int .i64 0, .int .i64 0, .int .i64 0, .int .i64 0, .int .i64 0, .int .i64 0, .int .i64 0, .int .i64 0, .int .i64 0, .int .i64 0] 105))
      have Hbe2 := Lib.hid (hbe.out.alloc hbe.out.size (.cells #[.int .i64 0, .int .i64 0, .int .i64 0, .int .i64 0, .int .i64 0, .int .i64 0, .int .i64 0, .int .i64 0, .int .i64 0, .int .i64 0, .int .i64 0, .int .i64 0, .int .i64 0, .int .i64 0, .int .i64 0, .int .i64 0, .int .i64 0, .int .i64 0, .int .i64 0, .int .i64 0, .int .i64 0, .int .i64 0, .int .i64 0, .int .i64 0, .int .i64 0, .int .i64 0, .int .i64 0, .int .i64 0, .int .i64 0, .int .i64 0, .int .i64 0, .int .i64 0] 105))
      have hzz := hbe.out.size
      obtain ⟨wo, rfl⟩ : ∃ wo : World, wo = wr := ⟨_, rfl⟩
      clear hrd hb hbe Hrd hb2
      go_wp2_with fail
      generalize wo.alloc (.cells #[.int .i64 0, .int .i64 0, .int .i64 0, .int .i64 0, .int .i64 0, .int .i64 0, .int .i64 0, .int .i64 0, .int .i64 0, .int .i64 0, .int .i64 0, .int .i64 0, .int .i64 0, .int .i64 0, .int .i64 0, .int .i64 0, .int .i64 0, .int .i64 0, .int .i64 0, .int .i64 0, .int .i64 0, .int .i64 0, .int .i64 0, .int .i64 0, .int .i64 0, .int .i64 0, .int .i64 0, .int .i64 0, .int .i64 0, .int .i64 0, .int .i64 0, .int .i64 0] 105) = w0 at *
      go_loopw [31] (fun i wr => ∃ k : Nat, i = .int .i64 k ∧ k ≤ 32 ∧ Hid (Bk wr w.heap.size 104 (its fixL).toArray) ∧ Hid (Bk wr wo.heap.size 105 (fil fixD 32 k)) ∧ Hid (Below w.heap.size w wr)) (fun i _ => 32 - (intOf i).toNat)
      case atStart => exact ⟨0, rfl, by omega, Hrd2, Hb2, Hbe2⟩
      case round =>
        obtain ⟨k, rfl, hk, hr, hb, hbe⟩ := hrel
        clear Hrd2 Hb2 Hbe2
        by_cases hlt : k < 32
        · have hx := fixD_at k hlt
          obtain ⟨y, hy⟩ := fil_cell (k := k) hlt fixD_len
          have hcy := (hb.out.cell k).trans hy
          have hfy := hb.out.free k
          have i0 : (0 : Int) ≤ (k : Int) := by omega
          have i1 : (k : Int) < 32 := by omega
          have n1 := Lib.hid (show Bk (wr.setCell ⟨wo.heap.size, k, none⟩ (.int .i64 5)) wo.heap.size 105 (fil fixD 32 (k + 1)) by rw [← fil_set hx hlt fixD_len]; exact hb.out.set k _)
          have n2 := Lib.hid (hbe.out.setCell (p := ⟨wo.heap.size, k, none⟩) hzz (.int .i64 5))
          have n3 := Lib.hid (hr.out.far (p := ⟨wo.heap.size, k, none⟩) (by simp; omega) (.int .i64 5))
          clear hx hy hb hbe hr
          go_wp2_with fail
          go_roundw
          case rel => exact ⟨k + 1, by go_num, by omega, n3, n1, n2⟩
          case measure => simp [intOf]; omega
        · obtain rfl : 32 = k := by omega
          have hrd := hb.out
          rw [fil_done fixD_len] at hrd
          have hz := hbe.out.size
          have h1 := hnewl_any (some ⟨w.heap.size, 0, none⟩) 288 288 fixL wr (Rd.of_bk hr.out fixL_len.symm)
          have H1 := Lib.hid h1
          have Hrd := Lib.hid hrd
          have Hbe := Lib.hid hbe.out
          clear h1 hrd hb hr hbe
          obtain ⟨w1, rfl⟩ : ∃ w1 : World, w1 = wr := ⟨_, rfl⟩
          go_wp2_with fail
          refine H1.out.mono ?_
          rintro e w2 ⟨hN, hb2⟩
          have hz2 := hb2.size
          rcases hN with ⟨hm, _⟩ | ⟨_, ho, _⟩ | ⟨_, _, g1, rfl, _, hcl1⟩
          · rw [fix_ok.1] at hm; cases hm
          · rw [fix_ok.2.1] at ho; cases ho
          have h2 := hnewl_any (some ⟨wo.heap.size, 0, none⟩) 32 32 fixD w2 (Rd.of_bk (Hrd.out.below hb2 Hrd.out.lt) fixD_len.symm)
          have H2 := Lib.hid h2
          have Hcl1 := Lib.hid hcl1
          have Hbe2 := Lib.hid (Hbe.out.trans (hb2.mono hz))
          clear h2 hcl1 hb2 H1 Hrd Hbe
          go_wp2_with fail
          refine H2.out.mono ?_
          rintro e w3 ⟨hN, hb3⟩
          rcases hN with ⟨hm, _⟩ | ⟨_, ho, _⟩ | ⟨_, _, g2, rfl, _, hcl2⟩
          · rw [fix_ok.2.2.1] at hm; cases hm
          · rw [fix_ok.2.2.2] at ho; cases ho
          have hfin : (HCl w3 w.heap.size fixL g1 ∧ HCl w3 w.heap.size fixD g2) ∧ Below w.heap.size w w3 := ⟨⟨(Hcl1.out.below hb3).low (by omega), hcl2.low (by omega)⟩, Hbe2.out.trans (hb3.mono (by omega))⟩
          have Hfin := Lib.hid hfin
          clear hfin hcl2 hb3 Hcl1 Hbe2 H2
          go_wp2
          go_ret2
          exact ⟨⟨g1, g2, rfl, Hfin.out.1.1, Hfin.out.1.2⟩, Hfin.out.2⟩
end Go.Proofs.Ytnedboomhbdecaa
