/- Contracts of package inflate: code. -/
import Derived.Test.YtnedboomhbdecaaInfB
namespace Go.Proofs.Ytnedboomhbdecaa
open Go.RowKit
attribute [local go_sem ↓] Go.wp_at_zero Go.wp_at_succ

theorem fillN_01 (l : List Int) : fillN l = 0 ∨ fillN l = 1 := by unfold fillN; split <;> simp
set_option maxHeartbeats 1000000 in
theorem code_any (A : Option Addr) (n c : Nat) (l : List Int) (non : Bool) (w : World) (hr : Rd w w.heap.size 1 A n (its l)) (hn : n ≤ 1000000) :
    Calls Try.prog 75 #[.slice A n c, .bool non] w fun e w' => CodeR l non w.heap.size e w' ∧ Below w.heap.size w w' := by
  have Hl := Lib.hid hr.ilen
  have hnw := hnewl_any A n c l w hr
  have Hnw := Lib.hid hnw
  have Hr := Lib.hid hr
  clear hnw hr
  go_enter Try.func75, Try.ntmps75
  go_wp2_with fail
  refine Hnw.out.mono ?_
  rintro e w1 ⟨hN, hb1⟩
  have hz1 := hb1.size
  have Hb1 := Lib.hid hb1
  clear Hnw hb1
  rcases hN with ⟨hm, rfl⟩ | ⟨hm, ho, rfl⟩ | ⟨hm, ho, g, rfl, hc, hcl⟩
  · have Hok := Lib.hid (show okC l non = false by unfold okC; rw [hm]; rfl)
    clear hm
    go_wp2
    go_ret2
    exact ⟨.inr ⟨Hok.out, rfl⟩, Hb1.out⟩
  · have Hok := Lib.hid (show okC l non = false by unfold okC; rw [hm, ho]; rfl)
    clear hm ho
    go_wp2
    go_ret2
    exact ⟨.inr ⟨Hok.out, rfl⟩, Hb1.out⟩
  · obtain ⟨hall, hl320⟩ := may_all hm
    have hr1 := (Hr.out.below Hb1.out (Nat.le_refl _)).more hz1
    have hn320 : n ≤ 320 := by have := Hl.out; omega
    have hsi := single_any A n c l w1 hr1 hn320 hall
    have hfi := hfill_any l g w1 hc
    have Hsi := Lib.hid hsi
    have Hfi := Lib.hid hfi
    have Hall := Lib.hid hall
    have Hr1 := Lib.hid hr1
    have Hcl := Lib.hid hcl
    have Hm := Lib.hid hm
    have Ho := Lib.hid ho
    clear hsi hfi hall hr1 hcl hm ho hc
    go_wp2_with fail
    go_loop [8, 20] (fun s i => ∃ (k : Nat) (x : Int), s = .int .i64 x ∧ i = .int .i64 k ∧ k ≤ n ∧ 0 ≤ x ∧ x ≤ 4800 ∧ Hid (x = sumI (l.take k))) (fun _ i => n - (intOf i).toNat)
    case atStart => exact ⟨0, 0, rfl, rfl, Nat.zero_le _, by omega, by omega, Lib.hid rfl⟩
    case round =>
      obtain ⟨k, x, rfl, rfl, hk, hx0, hx1, hx⟩ := hrel
      by_cases hlt : k < n
      · obtain ⟨b, o, y, rfl, hbb, hy, hcy⟩ := Hr1.out.num hlt
        have hy2 := Hall.out y (List.mem_of_getElem? hy)
        have hs := sumI_bd l (k + 1) Hall.out
        have hts := take_step hy
        rw [hts, sumI_snoc, ← hx.out] at hs
        have Hs := Lib.hid (show x + y = sumI (l.take (k + 1)) by rw [hts, sumI_snoc, hx.out])
        obtain ⟨hy3, hy4⟩ := hy2
        obtain ⟨hs1, hs2⟩ := hs
        have i0 : (0 : Int) ≤ (k : Int) := by omega
        have i1 : (k : Int) < (n : Int) := by omega
        clear hy hts hx
        go_wp2_with fail
        go_round
        case rel => exact ⟨k + 1, x + y, rfl, by go_num, by omega, by omega, by omega, Hs⟩
        case measure => simp [intOf]; omega
      · obtain rfl : n = k := by omega
        have hxe := hx.out
        rw [List.take_of_length_le (by rw [Hl.out]; omega)] at hxe
        have Hx := Lib.hid hxe
        clear hxe hx
        have hok : okC l non = (fillN l == 0 || sumI l == 1 || non && sumI l == 0) := by unfold okC; rw [Hm.out, Ho.out]; rfl
        rw [← Hx.out] at hok Hsi
        have h01 := fillN_01 l
        rcases h01 with h0 | h0
        · have Hok := Lib.hid (show okC l non = true by rw [hok, h0]; rfl)
          have Hfi' := Hfi.out
          rw [h0] at Hfi'
          have Hf := Lib.hid Hfi'
          clear Hfi' Hfi hok h0
          go_wp2_with fail
          refine Hf.out.mono ?_
          rintro e w2 ⟨rfl, rfl⟩
          go_wp2
          go_ret2
          exact ⟨.inl ⟨Hok.out, g, rfl, Hcl.out, Hm.out, Ho.out⟩, Hb1.out⟩
        · have Hfi' := Hfi.out
          rw [h0] at Hfi' hok
          have Hf := Lib.hid Hfi'
          clear Hfi' Hfi h0
          by_cases h1 : x = 1
          · have Hok := Lib.hid (show okC l non = true by rw [hok, h1]; rfl)
            have Hs := Hsi.out
            rw [show (x == 1) = true by rw [h1]; rfl] at Hs
            have Hs1 := Lib.hid Hs
            clear Hs Hsi hok h1
            go_wp2_with fail
            refine Hf.out.mono ?_
            rintro e w2 ⟨rfl, rfl⟩
            go_wp2_with fail
            refine Hs1.out.mono ?_
            rintro e w2 ⟨rfl, rfl⟩
            go_wp2
            go_ret2
            exact ⟨.inl ⟨Hok.out, g, rfl, Hcl.out, Hm.out, Ho.out⟩, Hb1.out⟩
          · have hx1' : (x == 1) = false := by simp [h1]
            rw [hx1'] at hok
            have Hs := Hsi.out
            rw [hx1'] at Hs
            have Hs1 := Lib.hid Hs
            clear Hs Hsi hx1' h1
            by_cases h2 : non = true ∧ x = 0
            · obtain ⟨rfl, h3⟩ := h2
              have Hok := Lib.hid (show okC l true = true by rw [hok, h3]; rfl)
              have hx0' : (x == 0) = true := by rw [h3]; rfl
              clear hok h3
              go_wp2_with fail
              refine Hf.out.mono ?_
              rintro e w2 ⟨rfl, rfl⟩
              go_wp2_with fail
              refine Hs1.out.mono ?_
              rintro e w2 ⟨rfl, rfl⟩
              go_wp2
              go_ret2
              exact ⟨.inl ⟨Hok.out, g, rfl, Hcl.out, Hm.out, Ho.out⟩, Hb1.out⟩
            · have hok2 : okC l non = false := by
                rw [hok]
                cases non
                · rfl
                · have : (x == 0) = false := by
                    rw [beq_eq_false_iff_ne]; exact fun e => h2 ⟨rfl, e⟩
                  rw [this]; rfl
              have Hok := Lib.hid hok2
              cases non
              · clear hok hok2 h2
                go_wp2_with fail
                refine Hf.out.mono ?_
                rintro e w2 ⟨rfl, rfl⟩
                go_wp2_with fail
                refine Hs1.out.mono ?_
                rintro e w2 ⟨rfl, rfl⟩
                go_wp2
                go_ret2
                exact ⟨.inr ⟨Hok.out, rfl⟩, Hb1.out⟩
              · have hx0' : (x == 0) = false := by
                  rw [beq_eq_false_iff_ne]; exact fun e => h2 ⟨rfl, e⟩
                clear hok hok2 h2
                go_wp2_with fail
                refine Hf.out.mono ?_
                rintro e w2 ⟨rfl, rfl⟩
                go_wp2_with fail
                refine Hs1.out.mono ?_
                rintro e w2 ⟨rfl, rfl⟩
                go_wp2
                go_ret2
                exact ⟨.inr ⟨Hok.out, rfl⟩, Hb1.out⟩
end Go.Proofs.Ytnedboomhbdecaa
