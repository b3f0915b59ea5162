/- Contracts of the reference's Right and Bytes of batches. -/
import Derived.Test.YthflnndjjhifeaaWal5
namespace Go.Proofs.Ythflnndjjhifeaa
open Go.RowKit

set_option maxHeartbeats 1000000 in
theorem refright_any (A : Option Addr) (n c : Nat) (ls : List (List Int × List UInt8)) (w : World) (hr : RdPcs w w.heap.size 1 A n ls) (hn : n ≤ 1099511627776) :
    Calls Try.prog 30 #[.slice A n c] w fun e w' => e = .returned (.bool (walOk ls)) ∧ ∃ q, w' = w.drewN q := by
  go_enter Try.func30, Try.ntmps30
  go_wp2_with fail
  go_loopw [3] (fun i wr => ∃ j : Nat, j ≤ n ∧ i = .int .i64 j ∧ Hid (∀ p ∈ ls.take j, p.2.length = 512) ∧ ∃ q, wr = w.drewN q) (fun i _ => n - (intOf i).toNat)
  case atStart => exact ⟨0, Nat.zero_le _, rfl, Lib.hid (by simp), 0, rfl⟩
  case round =>
    obtain ⟨j, hj, rfl, hall, q, rfl⟩ := hrel
    by_cases hlt : j < n
    · obtain ⟨b, o, x, bl, Ab, nb, cb, rfl, hbb, hx, hxb, k0, k1, hvr, hvn⟩ := hr.piece hlt
      have hbl : bl.length = nb := hvr.blen
      have hts := take_step hx
      have hjn : (j : Int) < (n : Int) := by omega
      have hj0 : (0 : Int) ≤ (j : Int) := by omega
      by_cases h512 : nb = 512
      · have hall' : ∀ p ∈ ls.take (j + 1), p.2.length = 512 := by
          rw [hts]
          intro p hp
          rcases List.mem_append.1 hp with h | h
          · exact hall.out p h
          · simp at h; subst h; show bl.length = 512; omega
        have Hall := Lib.hid hall'
        have hne : ((nb : Int) != 512) = false := by rw [bne_eq_false_iff_eq]; omega
        clear hx hbl hts hall' h512 hall
        go_wp2_with fail
        go_roundw
        case rel => exact ⟨j + 1, by omega, by go_num, Hall, q, rfl⟩
        case measure => simp [intOf]; omega
      · have hne : ((nb : Int) != 512) = true := by rw [bne_iff_ne]; omega
        have hno : walOk ls = false := by
          rw [Bool.eq_false_iff]
          intro h
          unfold walOk at h
          simp only [Bool.and_eq_true] at h
          have := List.all_eq_true.1 h.2 _ (List.mem_of_getElem? hx)
          have h3 : bl.length = 512 := by simpa using this
          omega
        have Hno := Lib.hid hno
        clear hx hbl hts hno h512 hall
        go_wp2
        go_ret
        exact ⟨ret_bool (by rw [Hno.out]), q, rfl⟩
    · have : j = n := by omega
      subst this
      have hln := hr.1
      have htk : ls.take j = ls := List.take_of_length_le (by omega)
      rw [htk] at hall
      have hall2 : (ls.all fun p => decide (p.2.length = 512)) = true := by
        simp only [List.all_eq_true, decide_eq_true_eq]; exact hall.out
      have hok : walOk ls = (decide (j ≤ 4096) && risB (-1) (nosOf ls)) := by unfold walOk; rw [hall2, hln, Bool.and_true]
      have Hok := Lib.hid hok
      have hrq : RdPcs (w.drewN q) (w.drewN q).heap.size 1 A j ls := hr.keep (fun _ _ => rfl)
      clear hln htk hall hall2 hok
      by_cases hm : j ≤ 4096
      · have Hm := Lib.hid (decide_eq_true hm)
        go_wp2_with fail
        refine (refris_any A j c ls _ hrq hn).mono ?_
        rintro e w1 ⟨rfl, q1, rfl⟩
        go_wp2
        go_ret
        exact ⟨ret_bool (by rw [Hok.out, Hm.out, Bool.true_and]), _, rfl⟩
      · have Hm := Lib.hid (decide_eq_false hm)
        go_wp2
        go_ret
        exact ⟨ret_bool (by rw [Hok.out, Hm.out, Bool.false_and]), q, rfl⟩

set_option maxHeartbeats 2000000 in
set_option maxRecDepth 100000 in
theorem refwbytes_any (A : Option Addr) (n c : Nat) (ls : List (List Int × List UInt8)) (w : World) (hr : RdPcs w w.heap.size 1 A n ls) (hn : n ≤ 4096) (h512 : ∀ p ∈ ls, p.2.length = 512) :
    Calls Try.prog 31 #[.slice A n c] w fun e w' => ∃ v, e = .returned v ∧ w'.ownsRow w.heap.size 5 1 v (walB ls).length (bys (walB ls)) ∧ Below w.heap.size w w' := by
  have w4 : (wid 4).toNat = 4 := by decide
  have W4 := Lib.hid w4
  have Hln := Lib.hid hr.1
  have H512 := Lib.hid h512
  clear w4 h512
  have hgo : ∀ (w2 : World) (v2 : Value), w2.ownsRow w.heap.size 5 1 v2 (4 + 4) (bys (wmark ++ leB (n : Int) 4)) → w2.ownsRow w.heap.size 5 1 v2 (8 + 516 * 0) (bys (wmark ++ leB (n : Int) 4 ++ wbody (ls.take 0))) := by
    intro w2 v2 h; simpa [wbody] using h
  have HGO := Lib.hid hgo
  clear hgo
  go_enter Try.func31, Try.ntmps31
  go_wp2_with fail
  have hlit : (w.alloc (.cells #[.int .u8 105, .int .u8 113, .int .u8 106, .int .u8 49] 5)).ownsRow w.heap.size 5 1 (.slice (some ⟨w.heap.size, 0, none⟩) 4 4) 4 (bys wmark) :=
    ⟨rfl, .inr ⟨w.heap.size, 4, _, rfl, Nat.le_refl _, heap_alloc_new w _, Nat.le_refl _, by unfold maxLen; omega, rfl, rfl⟩⟩
  refine (bytes_any n 4 _).mono ?_
  rintro e w1 ⟨v1, rfl, hown1, hb1⟩
  rw [W4.out] at hown1
  obtain ⟨A1, c1, rfl, _, _⟩ := own_form hown1
  have hr1 := Rd.of_own hown1
  have hbe1 : Below w.heap.size w w1 := ((Below.refl _ _).alloc (Nat.le_refl _) _).trans (hb1.mono (by rw [asz1]; omega))
  have hlit1 := own_below hlit hb1 (Nat.le_refl _)
  clear hown1 hb1 hlit
  go_wp2_with (
    at_builtin
    refine ap_bys hlit1 hr1 hbe1 hbe1.size (by omega) rfl rfl rfl ?_
    intro v2 w2 hown2 hb2 _ _)
  have hown2' := HGO.out w2 v2 hown2
  clear hown2 HGO hlit1 hr1
  go_loopw [3, 4] (fun b i wr => ∃ j : Nat, j ≤ n ∧ i = .int .i64 j ∧ wr.ownsRow w.heap.size 5 1 b (8 + 516 * j) (bys (wmark ++ leB (n : Int) 4 ++ wbody (ls.take j))) ∧ Below w.heap.size w wr) (fun _ i _ => n - (intOf i).toNat)
  case atStart => exact ⟨0, Nat.zero_le _, rfl, hown2', hb2⟩
  case round =>
    obtain ⟨j, hj, rfl, hown, hbw⟩ := hrel
    clear hown2' hb2 hbe1
    obtain ⟨Ao, co, rfl, hco, _⟩ := own_form hown
    have hsz := hbw.size
    by_cases hlt : j < n
    · obtain ⟨b, o, x, bl, Ab, nb, cb, rfl, hbb, hx, hxb, k0, k1, hvr, hvn⟩ := hr.piece hlt
      have hbl : bl.length = nb := hvr.blen
      have h5 : nb = 512 := by rw [← hbl]; exact H512.out _ (List.mem_of_getElem? hx)
      subst h5
      have q0 := (hbw.cell (p := ⟨b, o + j * 2, none⟩) hbb).trans k0
      have q1 := (hbw.cell (p := ⟨b, o + j * 2 + 1, none⟩) hbb).trans k1
      have hts := take_step hx
      have hwb : wbody (ls.take (j + 1)) = wbody (ls.take j) ++ (leB x 4 ++ bl) := by rw [hts, wbody_snoc]
      have Hwb := Lib.hid hwb
      have hjn : (j : Int) < (n : Int) := by omega
      have hkeep : ∀ (w' : World), Below w.heap.size w w' → w'.cell? ⟨b, o + j * 2 + 1, none⟩ = some (.slice Ab 512 cb) ∧ Rd w' w.heap.size 1 Ab 512 (bys bl) := fun w' h => ⟨(h.cell (p := ⟨b, o + j * 2 + 1, none⟩) hbb).trans k1, hvr.below h (Nat.le_refl _)⟩
      have Hkeep := Lib.hid hkeep
      clear hx hbl hts hwb hkeep k0 k1 q1
      go_wp2_with fail
      refine (bytes_any x 4 wr).mono ?_
      rintro e w4 ⟨v4, rfl, hown4, hb4⟩
      rw [W4.out] at hown4
      obtain ⟨A4, c4, rfl, _, _⟩ := own_form hown4
      have hr4 := Rd.of_own hown4
      have hownB := own_below hown hb4 (Nat.le_refl _)
      have hbe4 := hbw.trans (hb4.mono hsz)
      clear hown4 hb4 hown q0
      go_wp2_with (first
        | (at_builtin
           refine ap_bys hownB hr4 hbe4 hbe4.size (by omega) rfl rfl rfl ?_
           intro v5 w5 hown5 hb5 _ _
           obtain ⟨q5, hvr5⟩ := Hkeep.out w5 hb5
           obtain ⟨A5, c5, rfl, _, _⟩ := own_form hown5)
        | (at_builtin
           refine ap_bys hown5 hvr5 hb5 hb5.size (by omega) rfl rfl rfl ?_
           intro v6 w6 hown6 hb6 _ _))
      have hfin : w6.ownsRow w.heap.size 5 1 v6 (8 + 516 * (j + 1)) (bys (wmark ++ leB (n : Int) 4 ++ wbody (ls.take (j + 1)))) := by
        rw [Hwb.out, show 8 + 516 * (j + 1) = 8 + 516 * j + 4 + 512 by omega, ← List.append_assoc (wmark ++ leB (n : Int) 4), ← List.append_assoc]
        exact hown6
      clear hown5 hvr5 hb5 hown6 hownB hr4 hbe4 Hkeep q5
      go_roundw
      case rel => exact ⟨j + 1, by omega, by go_num, hfin, hb6⟩
      case measure => simp [intOf]; omega
    · have : j = n := by omega
      subst this
      have htk : ls.take j = ls := List.take_of_length_le (by have := Hln.out; omega)
      rw [htk] at hown
      have hhd : wmark ++ leB (j : Int) 4 ++ wbody ls = whead ls := by unfold whead; rw [Hln.out]
      rw [hhd] at hown
      have hwl : walB ls = whead ls ++ leB ((crcOf (whead ls)).toNat : Int) 4 := rfl
      have hhl : (whead ls).length = 8 + 516 * j := by have := hown.1; rw [bys_len] at this; omega
      have hwn : (walB ls).length = 8 + 516 * j + 4 := by rw [hwl, List.length_append, hhl, leB_len]
      have hr2 := Rd.of_own hown
      have hC := (crcOf (whead ls)).isLt
      have hcr := refcrc_any Ao (8 + 516 * j) co _ (whead ls) wr hr2 (by omega)
      have Hwl := Lib.hid hwl
      have Hwn := Lib.hid hwn
      clear htk hhd hwl hhl hwn
      generalize (crcOf (whead ls)).toNat = C at *
      generalize whead ls = L at *
      go_wp2_with fail
      refine hcr.mono ?_
      rintro e w3 ⟨rfl, rfl⟩
      go_wp2_with fail
      refine (bytes_any C 4 wr).mono ?_
      rintro e w4 ⟨v4, rfl, hown4, hb4⟩
      rw [W4.out] at hown4
      obtain ⟨A4, c4, rfl, _, _⟩ := own_form hown4
      have hr4 := Rd.of_own hown4
      have hownB := own_below hown hb4 (Nat.le_refl _)
      have hbe4 := hbw.trans (hb4.mono hsz)
      clear hown4 hb4 hown hr2 hcr
      go_wp2_with (
        at_builtin
        refine ap_bys hownB hr4 hbe4 hbe4.size (by omega) rfl rfl rfl ?_
        intro v5 w5 hown5 hb5 _ _)
      go_ret
      refine ⟨_, rfl, ?_, hb5⟩
      rw [Hwn.out, Hwl.out]
      exact hown5
end Go.Proofs.Ythflnndjjhifeaa
