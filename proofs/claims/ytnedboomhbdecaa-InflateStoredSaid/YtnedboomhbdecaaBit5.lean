/- Contract of package bits: Read. -/
import Derived.Test.YtnedboomhbdecaaBit4

namespace Go.Proofs.Ytnedboomhbdecaa
open Go.RowKit

theorem rread_any (A : Option Addr) (n c : Nat) (ls : List (List UInt8)) (w : World) (hr : RdRows w w.heap.size A n ls) (hn : n ≤ 1099511627776) (hlen : ls.flatten.length ≤ 100000000) :
    Calls Try.prog 31 #[.slice A n c] w fun e w' => e = .returned (.pointer (some ⟨w.heap.size, 0, none⟩)) ∧ ∃ S, RdS w' S w.heap.size ls.flatten 0 ∧ (∀ k, S k → w.heap.size ≤ k) ∧ Below w.heap.size w w' := by
  have Hlen := Lib.hid hlen
  clear hlen
  have hnl := hr.len
  have Hnl := Lib.hid hnl
  clear hnl
  have hst0 : ∃ S, RdS (w.alloc (.cells #[.slice none 0 0, .int .i64 0] 90)) S w.heap.size (ls.take 0).flatten 0 ∧ ∀ k, S k → w.heap.size ≤ k :=
    ⟨fun k => k = w.heap.size, ⟨.slice none 0 0, Bk.new w _ _, own_nilB _ _ _, rfl, by simp [Value.ownBlock], by simp, by simp, by simp⟩, fun k hk => by omega⟩
  have hbw0 : Below w.heap.size w (w.alloc (.cells #[.slice none 0 0, .int .i64 0] 90)) := (Below.refl _ w).alloc (Nat.le_refl _) _
  go_enter Try.func31, Try.ntmps31
  go_wp2_with fail
  go_loopw [5, 10] (fun _ i wr => ∃ j : Nat, j ≤ n ∧ i = .int .i64 j ∧ (∃ S, RdS wr S w.heap.size (ls.take j).flatten 0 ∧ ∀ k, S k → w.heap.size ≤ k) ∧ Below w.heap.size w wr) (fun _ i _ => n - (intOf i).toNat)
  case atStart => exact ⟨0, Nat.zero_le _, rfl, hst0, hbw0⟩
  case round =>
    obtain ⟨j, hj, rfl, ⟨S, hb, hS⟩, hbw⟩ := hrel
    by_cases hlt : j < n
    · obtain ⟨b, o, v, l, rfl, hbb, hx, hc, A2, n2, c2, rfl, hr2, hnc2⟩ := hr.at_ hlt
      have hc' := (hbw.cell (p := ⟨b, o + j, none⟩) hbb).trans hc
      have hl2 := hr2.blen
      have hst : (ls.take (j + 1)).flatten = (ls.take j).flatten ++ l := by rw [take_step hx]; simp
      have hle : (ls.take (j + 1)).flatten.length ≤ ls.flatten.length := by
        have e := congrArg List.length (congrArg List.flatten (List.take_append_drop (j + 1) ls))
        rw [List.flatten_append, List.length_append] at e
        omega
      have hle2 := hle
      rw [hst, List.length_append] at hle2
      have hb2 : (ls.take j).flatten.length + n2 ≤ 100000000 := by have := Hlen.out; omega
      have Hst := Lib.hid hst
      clear hc hx hst hle hle2 hl2
      go_wp2_with fail
      refine (radd_any w.heap.size S _ 0 A2 n2 c2 w.heap.size l wr hb (hr2.below hbw (Nat.le_refl _)) hb2).mono ?_
      rintro e w2 ⟨rfl, S2, hb3, hch, hs2⟩
      have hbw3 := hbw.trans (hch.below hbw.size hS)
      have hsz := hbw.size
      clear hb hbw hc' hb2
      go_wp2_with fail
      go_roundw
      case rel => exact ⟨j + 1, by omega, by go_num, ⟨S2, by rw [Hst.out]; exact hb3, fun k hk => by
        rcases hs2 k hk with h | h
        · exact hS k h
        · omega⟩, hbw3⟩
      case measure => simp [intOf]; omega
    · have : j = n := by omega
      subst this
      rw [List.take_of_length_le (by have := Hnl.out; omega)] at hb
      go_wp2_with fail
      go_ret
      exact ⟨rfl, S, hb, hS, hbw⟩
end Go.Proofs.Ytnedboomhbdecaa
