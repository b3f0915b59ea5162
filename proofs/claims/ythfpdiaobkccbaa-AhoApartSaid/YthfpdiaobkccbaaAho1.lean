/- Contract of package aho: step. -/
import Derived.Test.YthfpdiaobkccbaaAhoM
import Derived.Deep.RegionHeld3
import Derived.Deep.DrawnRows
namespace Go.Proofs.Ythfpdiaobkccbaa
open Go.RowKit
attribute [local go_sem ↓] Go.wp_at_zero Go.wp_at_succ

set_option maxHeartbeats 400000 in
theorem step_any (base W0 ln a : Nat) (many : Int) (T : Tt) (c : UInt8) (w : World) (h : AT w base W0 many T) (ht : Trie T.S) (hB : ∀ i, i < T.S.length → i ≠ 0 → (str T.S i).length ≤ ln → T.B i = bk T.S i) (ha : a < T.S.length) (hl : (str T.S a).length ≤ ln) (_hn : T.S.length ≤ 1000000) :
    Calls Try.prog 21 #[.pointer (some ⟨W0, 0, none⟩), .int .i64 a, .int .u8 (c.toNat : Int)] w fun e w' => e = .returned (.int .i64 (go T.S a c : Int)) ∧ w = w' := by
  obtain ⟨c0, _⟩ := h.head
  have H := Lib.hid h
  have HB := Lib.hid hB
  have hA := ht
  clear h hB
  go_enter Try.func21, Try.ntmps21
  go_wp2
  go_loop [1] (fun s => ∃ x : Nat, s = .int .i64 x ∧ x < T.S.length ∧ (str T.S x).length ≤ ln ∧ Hid (go T.S a c = go T.S x c)) (fun s => (str T.S (intOf s).toNat).length)
  case atStart => exact ⟨a, rfl, ha, hl, Lib.hid rfl⟩
  case round =>
    obtain ⟨x, rfl, hx, hxl, hgo⟩ := hrel
    obtain ⟨d0, d1, d2⟩ := H.out.cells hx
    have hmp := Lib.hid (H.out.mp x hx)
    have i0 : (0 : Int) ≤ (x : Int) := by omega
    have i1 : (x : Int) < (T.S.length : Int) := by omega
    rcases hq : nx T.S x c with _ | v
    · have hb : (nx T.S x c).isSome = false := by rw [hq]; rfl
      have Hq := Lib.hid hq
      clear hq
      by_cases hx0 : x = 0
      · have hx0' : ((x : Int) == 0) = true := by simp [hx0]
        have Hg := Lib.hid (show go T.S a c = 0 by rw [hgo.out, hx0]; exact go_zero ht (hx0 ▸ Hq.out))
        clear hx0 hgo
        go_wp2_with (at_lookup; refine look_map rfl _ _ rfl hmp.out c (by rfl) (by rfl) ?_; intro z hz)
        go_ret
        exact ⟨by rw [Hg.out]; rfl, rfl⟩
      · have hx0' : ((x : Int) == 0) = false := by simp; exact hx0
        have e1 := HB.out x hx hx0 hxl
        have e2 := go_back ht hx hx0 Hq.out
        have e3 := bk_lt ht x
        have e4 := bk_len ht hx hx0
        have E1 := Lib.hid e1
        have E2 := Lib.hid e2
        clear e1 e2 hx0
        go_wp2_with (at_lookup; refine look_map rfl _ _ rfl hmp.out c (by rfl) (by rfl) ?_; intro z hz)
        go_round
        case rel => exact ⟨T.B x, rfl, by rw [E1.out]; exact e3, by rw [E1.out]; omega, Lib.hid (by rw [hgo.out, E2.out, E1.out])⟩
        case measure => simp [intOf]; rw [E1.out]; exact e4
    · have hb : (nx T.S x c).isSome = true := by rw [hq]; rfl
      have Hg := Lib.hid (show go T.S a c = v by rw [hgo.out]; exact go_some hq)
      have Hq := Lib.hid hq
      clear hq hgo
      go_wp2_with ((at_lookup; refine look_map rfl _ _ rfl hmp.out c (by rfl) (by rfl) ?_; intro z hz; obtain rfl := hz v Hq.out))
      go_ret
      exact ⟨ret_int (by rw [Hg.out]), rfl⟩
end Go.Proofs.Ythfpdiaobkccbaa
