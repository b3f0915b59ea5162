/- The document's answer for aho: Error, First; how much a statement takes. -/
import Derived.Test.YthfpdiaobkccbaaAho9
namespace Go.Proofs.Ythfpdiaobkccbaa
open Go.RowKit
attribute [local go_sem ↓] Go.wp_at_zero Go.wp_at_succ

/-- Are there too many, or too long ones? -/
def longB (ls : List (List UInt8)) (m : Nat) : Bool := ls.any (fun x => decide (m < x.length)) || decide (40 < ls.length)
theorem longB_hit {ls : List (List UInt8)} {m k : Nat} {x : List UInt8} (hx : ls[k]? = some x) (h : m < x.length) : longB ls m = true := by
  unfold longB
  rw [Bool.or_eq_true]
  exact .inl (List.any_eq_true.2 ⟨x, List.mem_of_getElem? hx, by simpa using h⟩)
theorem longB_all {ls : List (List UInt8)} {m : Nat} (h : ∀ x ∈ ls, x.length ≤ m) : longB ls m = decide (40 < ls.length) := by
  unfold longB
  have : ls.any (fun x => decide (m < x.length)) = false := by
    rw [List.any_eq_false]
    intro x hx
    have := h x hx
    simp; omega
  rw [this, Bool.false_or]
theorem longB_no {ls : List (List UInt8)} {m : Nat} (h : longB ls m = false) : ls.length ≤ 40 ∧ ∀ x ∈ ls, x.length ≤ m := by
  unfold longB at h
  rw [Bool.or_eq_false_iff] at h
  refine ⟨by have := h.2; simp at this; exact this, fun x hx => ?_⟩
  have := (List.any_eq_false.1 h.1) x hx
  simp at this; exact this
set_option maxHeartbeats 400000 in
theorem long_any (A : Option Addr) (n c m : Nat) (ls : List (List UInt8)) (w : World) (hr : RdRows w w.heap.size A n ls) (hn : n ≤ 9223372036854775807) (_hm : m ≤ 1000000) :
    Calls Try.prog 9 #[.slice A n c, .int .i64 m] w fun e w' => e = .returned (.bool (longB ls m)) ∧ w = w' := by
  have Hl := Lib.hid hr.len
  go_enter Try.func9, Try.ntmps9
  go_wp2
  go_loop [8] (fun i => ∃ k : Nat, k ≤ n ∧ i = .int .i64 k ∧ Hid (∀ x ∈ ls.take k, x.length ≤ m)) (fun i => n - (intOf i).toNat)
  case atStart => exact ⟨0, Nat.zero_le _, rfl, Lib.hid (by simp)⟩
  case round =>
    obtain ⟨k, hk, rfl, hf⟩ := hrel
    by_cases hlt : k < n
    · obtain ⟨b, o, v, l, rfl, hb, hlk, hck, hrb⟩ := hr.at_ hlt
      obtain ⟨A1, n1, c1, rfl, hr1, hnc1⟩ := hrb
      have hl1 := Lib.hid hr1.blen
      have Hlk := Lib.hid hlk
      have Hts := Lib.hid (take_step hlk)
      have i0 : (0 : Int) ≤ (k : Int) := by omega
      have i1 : (k : Int) < (n : Int) := by omega
      clear hr1 hlk hr
      by_cases h64 : m < n1
      · have He := Lib.hid (longB_hit Hlk.out (by rw [hl1.out]; exact h64) : longB ls m = true)
        go_wp2
        go_ret
        exact ⟨ret_bool He.out.symm, rfl⟩
      · have hf2 : Hid (∀ y ∈ ls.take (k + 1), y.length ≤ m) := Lib.hid (by
          rw [Hts.out]; intro y hy
          rcases List.mem_append.1 hy with h | h
          · exact hf.out y h
          · simp at h; subst h; rw [hl1.out]; omega)
        go_wp2
        go_round
        case rel => exact ⟨k + 1, by omega, by go_num, hf2⟩
        case measure => simp [intOf]; omega
    · obtain rfl : n = k := by omega
      have hfl : ∀ y ∈ ls, y.length ≤ m := by have := hf.out; rwa [List.take_of_length_le (by rw [Hl.out]; omega)] at this
      have He := Lib.hid (longB_all hfl)
      rw [Hl.out] at He
      clear hfl
      by_cases h40 : 40 < n
      · rw [decide_eq_true h40] at He
        go_wp2
        go_ret
        exact ⟨ret_bool (by rw [He.out]; simp; omega), rfl⟩
      · rw [decide_eq_false h40] at He
        go_wp2
        go_ret
        exact ⟨ret_bool (by rw [He.out]; simp; omega), rfl⟩
set_option maxHeartbeats 1000000 in
theorem referr_any (A : Option Addr) (n c : Nat) (ws : List (List UInt8)) (w : World) (hr : RdRows w w.heap.size A n ws) (hn : n ≤ 1000000) :
    Calls Try.prog 15 #[.slice A n c] w fun e w' => e = .returned (.int .i64 (errW ws)) ∧ w = w' := by
  have hl := hr.len
  by_cases h8 : n = 0 ∨ 8 < n
  · have He := Lib.hid (show errW ws = 17 by unfold errW; rw [if_pos (by omega)])
    clear hl hr
    rcases Nat.eq_zero_or_pos n with hz | hp
    · have hz1 : ((n : Int) == 0) = true := by simp [hz]
      clear hz h8
      go_enter Try.func15, Try.ntmps15
      go_wp2
      go_ret
      exact ⟨ret_int He.out.symm, rfl⟩
    · have hz1 : ((n : Int) == 0) = false := by simp; omega
      have hz2 : 8 < n := by omega
      clear h8
      go_enter Try.func15, Try.ntmps15
      go_wp2
      go_ret
      exact ⟨ret_int He.out.symm, rfl⟩
  · have hz1 : ((n : Int) == 0) = false := by simp; omega
    have hz2 : ¬ 8 < n := by omega
    have H8 := Lib.hid (show ¬ (ws.length = 0 ∨ 8 < ws.length) by omega)
    have Hl := Lib.hid hl
    clear h8 hl
    go_enter Try.func15, Try.ntmps15
    go_wp2_with fail
    go_loop [3, 4] (fun s i => ∃ (k : Nat) (x : Int), s = .int .i64 x ∧ i = .int .i64 k ∧ k ≤ n ∧ Hid (x = empW (ws.take k)) ∧ Hid (∀ y ∈ ws.take k, y.length ≤ 64)) (fun _ i => n - (intOf i).toNat)
    case atStart => exact ⟨0, 0, rfl, rfl, Nat.zero_le _, Lib.hid rfl, Lib.hid (by simp)⟩
    case round =>
      obtain ⟨k, x, rfl, rfl, hk, hx, hf⟩ := hrel
      by_cases hlt : k < n
      · obtain ⟨b, o, v, l, rfl, hb, hlk, hck, hrb⟩ := hr.at_ hlt
        obtain ⟨A1, n1, c1, rfl, hr1, hnc1⟩ := hrb
        have hl1 := hr1.blen
        have Hr := Lib.hid hr
        have Hlk := Lib.hid hlk
        have Hts := Lib.hid (take_step hlk)
        have i0 : (0 : Int) ≤ (k : Int) := by omega
        have i1 : (k : Int) < (n : Int) := by omega
        clear hr1 hlk hr
        by_cases h64 : 64 < n1
        · have He := Lib.hid (errW_long H8.out Hlk.out (by omega))
          clear hl1
          go_wp2
          go_ret
          exact ⟨ret_int He.out.symm, rfl⟩
        · have hf2 : Hid (∀ y ∈ ws.take (k + 1), y.length ≤ 64) := Lib.hid (by
            rw [Hts.out]; intro y hy
            rcases List.mem_append.1 hy with h | h
            · exact hf.out y h
            · simp at h; subst h; omega)
          have hsn := empW_snoc (ws.take k) l
          rw [← Hts.out] at hsn
          have Hsn := Lib.hid hsn
          have Hl1 := Lib.hid hl1
          clear hsn hl1
          by_cases hn1 : n1 = 0
          · have hb0 : ((n1 : Int) == 0) = true := by simp [hn1]
            have Hn1 := Lib.hid hn1
            clear hn1
            go_wp2
            go_round
            case rel => exact ⟨k + 1, 1, rfl, by go_num, by omega, Lib.hid (by rw [Hsn.out, if_pos (by rw [Hl1.out]; exact Hn1.out)]), hf2⟩
            case measure => simp [intOf]; omega
          · have hb0 : ((n1 : Int) == 0) = false := by simp; omega
            go_wp2
            go_round
            case rel => exact ⟨k + 1, x, rfl, by go_num, by omega, Lib.hid (by rw [Hsn.out, if_neg (by rw [Hl1.out]; exact hn1)]; exact hx.out), hf2⟩
            case measure => simp [intOf]; omega
      · obtain rfl : n = k := by omega
        have hfl : ∀ y ∈ ws, y.length ≤ 64 := by have := hf.out; rwa [List.take_of_length_le (by rw [Hl.out]; omega)] at this
        have hxe : x = empW ws := by have := hx.out; rwa [List.take_of_length_le (by rw [Hl.out]; omega)] at this
        have He := Lib.hid (show errW ws = x by rw [errW_fits H8.out hfl, hxe])
        clear hfl hxe
        go_wp2
        go_ret
        exact ⟨ret_int He.out.symm, rfl⟩
/-- A word that ends at a place. -/
theorem suf_at {x b : List UInt8} {k : Nat} (hk : k ≤ b.length) : x <:+ b.take k ↔ x.length ≤ k ∧ (b.drop (k - x.length)).take x.length = x := by
  have hl : (b.take k).length = k := by rw [List.length_take]; omega
  constructor
  · intro h
    have h1 := h.length_le
    rw [hl] at h1
    refine ⟨h1, ?_⟩
    have h2 := List.suffix_iff_eq_drop.1 h
    rw [hl, List.drop_take, show k - (k - x.length) = x.length by omega] at h2
    exact h2.symm
  · rintro ⟨h1, h2⟩
    rw [List.suffix_iff_eq_drop, hl, List.drop_take, show k - (k - x.length) = x.length by omega]
    exact h2.symm
theorem fe_first {x b : List UInt8} {p : Nat} (hp : p + x.length ≤ b.length) (h : (b.drop p).take x.length = x) (hb : ∀ q, q < p → ¬ (b.drop q).take x.length = x) : fe x b = ((p + x.length : Nat) : Int) := by
  refine fe_some hp ((suf_at hp).2 ⟨by omega, by rw [show p + x.length - x.length = p by omega]; exact h⟩) (fun k hk hs => ?_)
  obtain ⟨h1, h2⟩ := (suf_at (by omega)).1 hs
  exact hb _ (by omega) h2
theorem fe_nofirst {x b : List UInt8} (hb : ∀ q, q + x.length ≤ b.length → ¬ (b.drop q).take x.length = x) : fe x b = -1 := by
  refine fe_none fun k hk hs => ?_
  obtain ⟨h1, h2⟩ := (suf_at hk).1 hs
  exact hb _ (by omega) h2
set_option maxHeartbeats 400000 in
theorem rat_any (A B : Option Addr) (n m c d p : Nat) (b x : List UInt8) (w : World) (hl : Rd w w.heap.size 1 A n (bys b)) (hr : Rd w w.heap.size 1 B m (bys x)) (hn : n ≤ 100000000) (hp : p + m ≤ n) :
    Calls Try.prog 22 #[.slice A n c, .slice B m d, .int .i64 p] w fun e w' => e = .returned (.bool (decide ((b.drop p).take x.length = x))) ∧ ∃ q, w' = w.drewN q := by
  have Hln := Lib.hid hl.blen
  have Hrm := Lib.hid hr.blen
  go_enter Try.func22, Try.ntmps22
  go_wp2_with fail
  go_loopw [7] (fun a wr => ∃ j : Nat, j ≤ m ∧ a = .int .i64 j ∧ Hid ((b.drop p).take j = x.take j) ∧ ∃ q, wr = w.drewN q) (fun a _ => m - (intOf a).toNat)
  case atStart => exact ⟨0, Nat.zero_le _, rfl, by simp [Hid], 0, rfl⟩
  case round =>
    obtain ⟨j, hj, rfl, hjt, q, rfl⟩ := hrel
    by_cases hlt : j < m
    · obtain ⟨b1, o, u, rfl, hb, hx, hu, hc⟩ := hl.byte (k := p + j) (by omega)
      obtain ⟨b2, o2, u2, rfl, hb2, hx2, hu2, hc2⟩ := hr.byte (k := j) hlt
      have hxd : (b.drop p)[j]? = some u := by rw [List.getElem?_drop]; exact hx
      have HX := Lib.hid hxd
      have HX2 := Lib.hid hx2
      clear hx hx2 hxd
      have hj1 : (j : Int) < (m : Int) := by omega
      have hj0 : (0 : Int) ≤ (j : Int) := by omega
      have hp1 : (p : Int) + (j : Int) < (n : Int) := by omega
      by_cases huu : u = u2
      · have hne : ((u.toNat : Int) != (u2.toNat : Int)) = false := by rw [huu]; simp
        have HU := Lib.hid huu
        clear huu
        go_wp2_with fail
        go_quiet (fail)
        go_wp2
        go_roundw
        case rel => exact ⟨j + 1, by omega, by go_num, Lib.hid (by rw [take_step HX.out, take_step HX2.out, hjt.out, HU.out]), _, rfl⟩
        case measure => simp [intOf]; omega
      · have hne : ((u.toNat : Int) != (u2.toNat : Int)) = true := by
          rw [bne_iff_ne]; intro h; exact huu (UInt8.toNat_inj.1 (by omega))
        have HU := Lib.hid huu
        clear huu
        go_wp2_with fail
        go_quiet (fail)
        go_wp2
        go_ret
        refine ⟨ret_bool ?_, _, World.drewN_drewN _ _ _⟩
        symm
        rw [decide_eq_false_iff_not]
        intro h
        have h1 : ((b.drop p).take x.length)[j]? = some u := by rw [List.getElem?_take, if_pos (by rw [Hrm.out]; exact hlt)]; exact HX.out
        rw [h, HX2.out] at h1
        injection h1 with h1
        exact HU.out h1.symm
    · obtain rfl : m = j := by omega
      go_wp2
      go_ret
      refine ⟨ret_bool ?_, _, rfl⟩
      symm
      rw [decide_eq_true_iff, Hrm.out, hjt.out, List.take_of_length_le (by rw [Hrm.out]; omega)]
set_option maxHeartbeats 400000 in
theorem rfirst_any (A B : Option Addr) (n m c d : Nat) (b x : List UInt8) (w : World) (hl : Rd w w.heap.size 1 A n (bys b)) (hr : Rd w w.heap.size 1 B m (bys x)) (hn : n ≤ 100000000) (hm : m ≤ 100000000) :
    Calls Try.prog 14 #[.slice A n c, .slice B m d] w fun e w' => e = .returned (.int .i64 (fe x b)) ∧ ∃ q, w' = w.drewN q := by
  have Hln := Lib.hid hl.blen
  have Hrm := Lib.hid hr.blen
  have HL := Lib.hid hl
  have HR := Lib.hid hr
  clear hl hr
  go_enter Try.func14, Try.ntmps14
  go_wp2_with fail
  go_loopw [5] (fun a wr => ∃ p : Nat, p ≤ n + 1 ∧ a = .int .i64 p ∧ Hid (∀ q, q < p → ¬ (b.drop q).take x.length = x) ∧ ∃ q, wr = w.drewN q) (fun a _ => n + 1 - (intOf a).toNat)
  case atStart => exact ⟨0, Nat.zero_le _, rfl, Lib.hid (fun q hq => by omega), 0, rfl⟩
  case round =>
    obtain ⟨p, hp, rfl, hb, q, rfl⟩ := hrel
    by_cases hlt : p + m ≤ n
    · have ha := rat_any A B n m c d p b x (w.drewN q) (HL.out.drewN q) (HR.out.drewN q) hn hlt
      by_cases hmt : (b.drop p).take x.length = x
      · rw [decide_eq_true hmt] at ha
        have Hf := Lib.hid (fe_first (by rw [Hln.out, Hrm.out]; exact hlt) hmt hb.out)
        rw [Hrm.out] at Hf
        have Ha := Lib.hid ha
        clear ha hmt hb
        go_wp2_with fail
        refine Ha.out.mono ?_
        rintro e w1 ⟨rfl, q1, rfl⟩
        go_wp2
        go_ret
        exact ⟨ret_int (by rw [Hf.out]; omega), _, rfl⟩
      · rw [decide_eq_false hmt] at ha
        have Ha := Lib.hid ha
        have hb2 : Hid (∀ q, q < p + 1 → ¬ (b.drop q).take x.length = x) := Lib.hid (fun q hq => by
          by_cases e : q = p
          · subst e; exact hmt
          · exact hb.out q (by omega))
        clear ha hmt hb
        go_wp2_with fail
        refine Ha.out.mono ?_
        rintro e w1 ⟨rfl, q1, rfl⟩
        go_wp2
        go_roundw
        case rel => exact ⟨p + 1, by omega, by go_num, hb2, _, rfl⟩
        case measure => simp [intOf]; omega
    · have Hf := Lib.hid (show fe x b = -1 from fe_nofirst (fun q hq => hb.out q (by rw [Hln.out, Hrm.out] at hq; omega)))
      clear hb
      go_wp2
      go_ret
      exact ⟨ret_int Hf.out.symm, _, rfl⟩
end Go.Proofs.Ythfpdiaobkccbaa
