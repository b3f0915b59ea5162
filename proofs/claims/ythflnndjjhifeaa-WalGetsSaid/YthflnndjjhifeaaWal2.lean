/- Contracts of package wal: Put. -/
import Derived.Test.YthflnndjjhifeaaWal1
import Derived.Deep.RegionHeld3
import Derived.Deep.DrawnRows
namespace Go.Proofs.Ythflnndjjhifeaa
open Go.RowKit
attribute [local go_sem ↓] Go.wp_at_zero Go.wp_at_succ

def wmark : List UInt8 := [105, 113, 106, 49]
/-- The pieces' bytes. -/
def wbody (ls : List (List Int × List UInt8)) : List UInt8 := ls.flatMap fun p => leB (p.1.headD 0) 4 ++ p.2
def whead (ls : List (List Int × List UInt8)) : List UInt8 := wmark ++ leB (ls.length : Int) 4 ++ wbody ls
/-- A batch's bytes. -/
def walB (ls : List (List Int × List UInt8)) : List UInt8 := whead ls ++ leB ((crcOf (whead ls)).toNat : Int) 4
/-- May it be a batch? -/
def walOk (ls : List (List Int × List UInt8)) : Bool := decide (ls.length ≤ 4096) && risB (-1) (nosOf ls) && ls.all fun p => decide (p.2.length = 512)
theorem wbody_snoc (ls : List (List Int × List UInt8)) (x : Int) (l : List UInt8) : wbody (ls ++ [([x], l)]) = wbody ls ++ (leB x 4 ++ l) := by simp [wbody]

theorem wbody_len (ls : List (List Int × List UInt8)) (h : ∀ p ∈ ls, p.2.length = 512) : (wbody ls).length = 516 * ls.length := by
  induction ls with
  | nil => rfl
  | cons p r ih =>
    have h1 := ih fun q hq => h q (List.mem_cons_of_mem _ hq)
    have h2 := h p List.mem_cons_self
    simp only [wbody, List.flatMap_cons, List.length_append, List.length_cons, leB_len] at h1 ⊢
    omega
/-- What Put returns. -/
def WPut (w : World) (ls : List (List Int × List UInt8)) (e : Ending) (w' : World) : Prop :=
  (walOk ls = true ∧ ∃ v, e = .returned (.tuple #[v, .int .i64 0]) ∧ w'.ownsRow w.heap.size 5 1 v (walB ls).length (bys (walB ls))) ∨ (walOk ls = false ∧ e = .returned (.tuple #[.slice none 0 0, .int .i64 1]))
set_option maxHeartbeats 1000000 in
theorem wput_many (A : Option Addr) (n c : Nat) (w : World) (hn : 4096 < n) :
    Calls Try.prog 29 #[.slice A n c] w fun e w' => e = .returned (.tuple #[.slice none 0 0, .int .i64 1]) ∧ Below w.heap.size w w' := by
  go_enter Try.func29, Try.ntmps29
  go_wp2
  go_ret2
  exact ⟨rfl, Below.refl _ _⟩
set_option maxHeartbeats 1000000 in
theorem wput_ris (A : Option Addr) (n c : Nat) (ls : List (List Int × List UInt8)) (w : World) (hr : RdPcs w w.heap.size 1 A n ls) (hn : n ≤ 4096) (hris : risB (-1) (nosOf ls) = false) :
    Calls Try.prog 29 #[.slice A n c] w fun e w' => e = .returned (.tuple #[.slice none 0 0, .int .i64 1]) ∧ Below w.heap.size w w' := by
  have H := Lib.hid hris
  clear hris
  go_enter Try.func29, Try.ntmps29
  go_wp2_with fail
  refine (rising_any A n c ls w hr (by omega)).mono ?_
  rintro e w1 ⟨rfl, hb1⟩
  rw [H.out]
  go_wp2
  go_ret2
  exact ⟨rfl, hb1⟩
set_option maxHeartbeats 2000000 in
set_option maxRecDepth 100000 in
theorem wput_in (A : Option Addr) (n c : Nat) (ls : List (List Int × List UInt8)) (w : World) (hr : RdPcs w w.heap.size 1 A n ls) (hn : n ≤ 4096) (hris : risB (-1) (nosOf ls) = true) :
    Calls Try.prog 29 #[.slice A n c] w fun e w' => WPut w ls e w' ∧ Below w.heap.size w w' := by
  have H := Lib.hid hris
  have Hln := Lib.hid hr.1
  have w4 : (wid 4).toNat = 4 := by decide
  have W4 := Lib.hid w4
  have kc := fun (w : World) (C : Array Value) (n c : Nat) => Lib.run_convert_bytes_const (P := Try.prog) w 22 5 C n c Try.underlying22 Try.underlying5
  clear hris w4
  go_enter Try.func29, Try.ntmps29
  go_wp2_with fail
  refine (rising_any A n c ls w hr (by omega)).mono ?_
  rintro e w1 ⟨rfl, hb1⟩
  rw [H.out]
  have hmk := (Rd.lits w1 5 #[.int .u8 105, .int .u8 113, .int .u8 106, .int .u8 49] rfl (fr := (4, 5))).alloc (Nat.le_of_eq (asz1 _ _).symm) (.cells #[.int .i64 (n : Int)] 3)
  have hnn := (Rd.oneI (w1.alloc (.cells #[.int .u8 105, .int .u8 113, .int .u8 106, .int .u8 49] 5 (4, 5))) 3 (n : Int)).more (B' := ((w1.alloc (.cells #[.int .u8 105, .int .u8 113, .int .u8 106, .int .u8 49] 5 (4, 5))).alloc (.cells #[.int .i64 (n : Int)] 3)).heap.size) (by simp)
  rw [asz1 w1] at hnn
  have hput := put_any _ _ 4 4 1 1 4 wmark [(n : Int)] _ (hmk.more (by rw [asz1, asz1]; omega)) hnn (by omega) (by omega)
  have hbe0 : Below w.heap.size w ((w1.alloc (.cells #[.int .u8 105, .int .u8 113, .int .u8 106, .int .u8 49] 5 (4, 5))).alloc (.cells #[.int .i64 (n : Int)] 3)) := (hb1.alloc hb1.size _).alloc (by have := hb1.size; rw [asz1]; omega) _
  clear hmk hnn hb1
  go_wp2_with fail
  refine hput.mono ?_
  rintro e w2 ⟨v2, rfl, hown2, hb2⟩
  have hown2' := own_base hown2 hbe0.size
  have hbe2 := hbe0.trans (hb2.mono hbe0.size)
  rw [W4.out, show putB wmark 4 [(n : Int)] = wmark ++ leB (n : Int) 4 by simp [putB]] at hown2'
  clear hput hown2 hb2 hbe0
  go_wp2_with fail
  go_loopw [4, 23] (fun b i wr => ∃ j : Nat, j ≤ n ∧ i = .int .i64 j ∧ Hid (∀ p ∈ ls.take j, p.2.length = 512) ∧ wr.ownsRow w.heap.size 5 1 b (8 + 516 * j) (bys (wmark ++ leB (n : Int) 4 ++ wbody (ls.take j))) ∧ Below w.heap.size w wr) (fun _ i _ => n - (intOf i).toNat)
  case atStart => exact ⟨0, Nat.zero_le _, rfl, Lib.hid (by simp), by simpa [wbody] using hown2', hbe2⟩
  case round =>
    obtain ⟨j, hj, rfl, hall, hown, hbw⟩ := hrel
    clear hown2' hbe2
    obtain ⟨Ao, co, rfl, _, _⟩ := own_form hown
    have hsz := hbw.size
    by_cases hlt : j < n
    · obtain ⟨b, o, ⟨zs, bl⟩, rfl, hbb, hx, hzl, hzb, hzc, v, hvc, Ab, nb, cb, rfl, hvr, hvn⟩ := hr.at_ hlt
      obtain ⟨x, rfl⟩ : ∃ x, zs = [x] := by
        match zs, hzl with
        | [x], _ => exact ⟨x, rfl⟩
      have k0 := (hbw.cell (p := ⟨b, o + j * (1 + 1) + 0, none⟩) hbb).trans (hzc 0 x rfl)
      have k1 := (hbw.cell (p := ⟨b, o + j * (1 + 1) + 1, none⟩) hbb).trans hvc
      simp only [Nat.reduceAdd, Nat.add_zero] at k0 k1
      have hbl : bl.length = nb := hvr.blen
      have hbe1 : Below w.heap.size w (wr.alloc (.cells #[.int .i64 x, .slice Ab nb cb] 51)) := hbw.alloc hsz _
      by_cases h512 : nb = 512
      · subst h512
        have hts := take_step hx
        have hwb : wbody (ls.take (j + 1)) = wbody (ls.take j) ++ (leB x 4 ++ bl) := by rw [hts, wbody_snoc]
        have hall' : ∀ p ∈ ls.take (j + 1), p.2.length = 512 := by
          rw [hts]
          intro p hp
          rcases List.mem_append.1 hp with h | h
          · exact hall.out p h
          · simp at h; subst h; exact hbl
        have hone := (Rd.oneI (wr.alloc (.cells #[.int .i64 x, .slice Ab 512 cb] 51)) 3 x).more (B' := ((wr.alloc (.cells #[.int .i64 x, .slice Ab 512 cb] 51)).alloc (.cells #[.int .i64 x] 3)).heap.size) (by simp)
        rw [asz1 wr] at hone
        have hput := put_any none _ 0 0 1 1 4 [] [x] ((wr.alloc (.cells #[.int .i64 x, .slice Ab 512 cb] 51)).alloc (.cells #[.int .i64 x] 3)).drew Rd.nil_ hone.drew (by omega) (by omega)
        rw [W4.out, putB_one] at hput
        have hbe2 : Below w.heap.size w ((wr.alloc (.cells #[.int .i64 x, .slice Ab 512 cb] 51)).alloc (.cells #[.int .i64 x] 3)) := hbe1.alloc (by rw [asz1]; omega) _
        have hbk1 : Bk ((wr.alloc (.cells #[.int .i64 x, .slice Ab 512 cb] 51)).alloc (.cells #[.int .i64 x] 3)) wr.heap.size 51 #[.int .i64 x, .slice Ab 512 cb] := (Bk.new wr _ _).alloc _
        have hownA := (hown.alloc (.cells #[.int .i64 x, .slice Ab 512 cb] 51)).alloc (.cells #[.int .i64 x] 3)
        have hfar : ∀ k, (Value.slice Ao (8 + 516 * j) co).ownBlock = some k → k < wr.heap.size := fun k hk => (hown.lt k hk).2
        have hC : ∀ (w4 : World) (v4 : Value), w4.ownsRow ((wr.alloc (.cells #[.int .i64 x, .slice Ab 512 cb] 51)).alloc (.cells #[.int .i64 x] 3)).heap.size 5 1 v4 (0 + 1 * 4) (bys (leB x 4)) → Below ((wr.alloc (.cells #[.int .i64 x, .slice Ab 512 cb] 51)).alloc (.cells #[.int .i64 x] 3)).heap.size ((wr.alloc (.cells #[.int .i64 x, .slice Ab 512 cb] 51)).alloc (.cells #[.int .i64 x] 3)).drew w4 →
            ∃ A4 c4, v4 = .slice A4 4 c4 ∧ Rd w4 w4.heap.size 1 A4 4 (bys (leB x 4)) ∧ w4.ownsRow w.heap.size 5 1 (.slice Ao (8 + 516 * j) co) (8 + 516 * j) (bys (wmark ++ leB (n : Int) 4 ++ wbody (ls.take j))) ∧ Below w.heap.size w w4 ∧ Bk w4 wr.heap.size 51 #[.int .i64 x, .slice Ab 512 cb] := by
          intro w4 v4 h1 h2
          obtain ⟨A4, c4, rfl, _, _⟩ := own_form h1
          exact ⟨A4, c4, rfl, Rd.of_own h1, own_below (hownA.drew) h2 (Nat.le_refl _), hbe2.drew.trans (h2.mono hbe2.size), hbk1.drew.below h2 hbk1.lt⟩
        have hD : ∀ (w4 w5 : World) (v5 : Value), Bk w4 wr.heap.size 51 #[.int .i64 x, .slice Ab 512 cb] → w4.ownsRow w.heap.size 5 1 (.slice Ao (8 + 516 * j) co) (8 + 516 * j) (bys (wmark ++ leB (n : Int) 4 ++ wbody (ls.take j))) → Below w.heap.size w w5 → w4.grownBy w5 (Value.slice Ao (8 + 516 * j) co).ownBlock →
            Bk w5 wr.heap.size 51 #[.int .i64 x, .slice Ab 512 cb] ∧ Rd w5 w.heap.size 1 Ab 512 (bys bl) := by
          intro w4 w5 v5 h1 h2 h3 h4
          exact ⟨h1.grown h4 (fun e => absurd (hfar _ e.symm) (Nat.lt_irrefl _)), hvr.below h3 (Nat.le_refl _)⟩
        have hE : ∀ (w4 w5 w6 : World) (v5 : Value), Bk w4 wr.heap.size 51 #[.int .i64 x, .slice Ab 512 cb] → Bk w5 wr.heap.size 51 #[.int .i64 x, .slice Ab 512 cb] → (v5.ownBlock = (Value.slice Ao (8 + 516 * j) co).ownBlock ∨ v5.ownBlock = some w4.heap.size) → w5.grownBy w6 v5.ownBlock → Bk w6 wr.heap.size 51 #[.int .i64 x, .slice Ab 512 cb] := by
          intro w4 w5 w6 v5 h0 h1 h2 h3
          refine h1.grown h3 (fun e => ?_)
          rcases h2 with h2 | h2
          · rw [h2] at e; exact absurd (hfar _ e.symm) (Nat.lt_irrefl _)
          · rw [h2] at e; injection e with e; have := h0.lt; omega
        have hS : ∀ (w' : World), Bk w' wr.heap.size 51 #[.int .i64 x, .slice Ab 512 cb] → w'.cell? ⟨wr.heap.size, 0, none⟩ = some (.int .i64 x) ∧ w'.cell? ⟨wr.heap.size, 1, none⟩ = some (.slice Ab 512 cb) := fun w' h => ⟨h.cell 0, h.cell 1⟩
        have HC := Lib.hid hC
        have HD := Lib.hid hD
        have HE := Lib.hid hE
        have HS := Lib.hid hS
        have Hwb := Lib.hid hwb
        have Hall := Lib.hid hall'
        have Hput := Lib.hid hput
        clear hx hzl hzb hzc hvc hbl hts hwb hall' hone hown hC hD hE hS hput hbe2 hbe1 hbk1 hownA hfar
        go_wp2_with fail
        go_region_held3 (fun w' => w'.cell? ⟨wr.heap.size, 0, none⟩ = some (.int .i64 x) ∧ w'.cell? ⟨wr.heap.size, 1, none⟩ = some (.slice Ab 512 cb)) (first | (exact HS.out _ hbk6) | (exact HS.out _ hbk5) | (exact HS.out _ hbk4) | go_keep)
          (first
            | (go_at_call 41; refine Hput.out.mono ?_; rintro e w4 ⟨v4, rfl, hown4, hb4⟩; obtain ⟨A4, c4, rfl, hr4, hownB, hbe4, hbk4⟩ := HC.out w4 v4 hown4 hb4)
            | (refine ap_step (v := .slice Ao (8 + 516 * j) co) (n := 8 + 516 * j) (xs := wmark ++ leB (n : Int) 4 ++ wbody (ls.take j)) (news := leB x 4) (A := A4) (m := 4) (c := c4) hownB hr4 hbe4 hbe4.size (by omega) (by rfl) (by rfl) ?_; intro v5 w5 hown5 hb5 hg5 hv5; obtain ⟨hbk5, hvr5⟩ := HD.out w4 w5 v5 hbk4 hownB hb5 hg5)
            | (refine ap_step (v := v5) (n := 8 + 516 * j + 4) (xs := wmark ++ leB (n : Int) 4 ++ wbody (ls.take j) ++ leB x 4) (news := bl) (A := Ab) (m := 512) (c := cb) hown5 hvr5 hb5 hb5.size (by omega) (by rfl) (by rfl) ?_; intro v6 w6 hown6 hb6 hg6 hv6; have hbk6 := HE.out w4 w5 w6 v5 hbk4 hbk5 hv5 hg6))
        have hfin : w6.ownsRow w.heap.size 5 1 v6 (8 + 516 * (j + 1)) (bys (wmark ++ leB (n : Int) 4 ++ wbody (ls.take (j + 1)))) := by
          rw [Hwb.out, show 8 + 516 * (j + 1) = 8 + 516 * j + 4 + 512 by omega, ← List.append_assoc (wmark ++ leB (n : Int) 4), ← List.append_assoc]
          exact hown6
        clear hown5 hvr5 hb5 hown6 hownB hr4 hbe4 hbk4 hbk5 hbk6 hg5 hg6 HC HD HE HS
        go_wp2_with fail
        go_roundw
        case rel => exact ⟨j + 1, by omega, by go_num, Hall, hfin, hb6⟩
        case measure => simp [intOf]; omega
      · have hne : ((nb : Int) != 512) = true := by rw [bne_iff_ne]; omega
        have hno : walOk ls = false := by
          rw [Bool.eq_false_iff]
          intro h
          unfold walOk at h
          simp only [Bool.and_eq_true] at h
          have := List.all_eq_true.1 h.2 _ (List.mem_of_getElem? hx)
          have h3 : bl.length = 512 := by simpa using this
          omega
        have Hno := Lib.hid hno
        clear hx hzl hzb hzc hvc hbl hno h512
        go_wp2
        go_ret2
        exact ⟨.inr ⟨Hno.out, rfl⟩, hbe1⟩
    · have : j = n := by omega
      subst this
      have htk : ls.take j = ls := List.take_of_length_le (by have := Hln.out; omega)
      rw [htk] at hown hall
      have hok : walOk ls = true := by
        unfold walOk
        rw [H.out]
        simp only [Bool.and_eq_true, decide_eq_true_eq, List.all_eq_true]
        exact ⟨⟨by have := Hln.out; omega, trivial⟩, hall.out⟩
      have hhd : wmark ++ leB (j : Int) 4 ++ wbody ls = whead ls := by unfold whead; rw [Hln.out]
      rw [hhd] at hown
      have hwl : walB ls = whead ls ++ leB ((crcOf (whead ls)).toNat : Int) 4 := rfl
      have hhl : (whead ls).length = 8 + 516 * j := by have := hown.1; rw [bys_len] at this; omega
      have hwn : (walB ls).length = 8 + 516 * j + 4 := by rw [hwl, List.length_append, hhl, leB_len]
      obtain ⟨A2, c2, hAo, hc2, _⟩ := own_form hown
      injection hAo with hA1 _ hA2
      subst hA1 hA2
      have hr2 := Rd.of_own hown
      have hC := (crcOf (whead ls)).isLt
      have hcr := crcof_any _ 1 1 [whead ls] _ ((RdRows.one wr 22 (RdB.mk hr2 hc2) (Nat.le_refl _)).more (B' := (wr.alloc (.cells #[.slice Ao (8 + 516 * j) co] 22)).heap.size) (by simp)) (by omega) (by simp [hhl]; omega)
      have hfl : [whead ls].flatten = whead ls := by simp
      rw [hfl] at hcr
      have Hok := Lib.hid hok
      have Hwl := Lib.hid hwl
      have Hwn := Lib.hid hwn
      have Hall := Lib.hid hbw.size
      clear htk hall hok hhd hwl hhl hwn hfl
      generalize (crcOf (whead ls)).toNat = C at *
      generalize whead ls = L at *
      go_wp2_with fail
      refine hcr.mono ?_
      rintro e w3 ⟨rfl, hb3⟩
      have hbe3 : Below w.heap.size w w3 := (hbw.alloc hsz (.cells #[.slice Ao (8 + 516 * j) co] 22)).trans (hb3.mono (by rw [asz1]; omega))
      have hr3 : Rd w3 w3.heap.size 1 Ao (8 + 516 * j) (bys L) := ((hr2.alloc (Nat.le_refl _) (.cells #[.slice Ao (8 + 516 * j) co] 22)).below hb3 (by rw [asz1]; omega)).more (by have := hb3.size; rw [asz1] at this; omega)
      have hone := (Rd.oneI w3 3 (C : Int)).more (B' := (w3.alloc (.cells #[.int .i64 (C : Int)] 3)).heap.size) (by simp)
      have hput := put_any Ao _ (8 + 516 * j) co 1 1 4 L [(C : Int)] _ ((hr3.alloc (Nat.le_refl _) (.cells #[.int .i64 (C : Int)] 3)).more (by rw [asz1]; omega)) hone (by omega) (by omega)
      rw [W4.out, show putB L 4 [(C : Int)] = L ++ leB (C : Int) 4 by simp [putB]] at hput
      clear hcr hone hr3 hr2 hown hb3
      go_wp2_with fail
      refine hput.mono ?_
      rintro e w4 ⟨v4, rfl, hown4, hb4⟩
      have hbe4 : Below w.heap.size w w4 := (hbe3.alloc hbe3.size (.cells #[.int .i64 (C : Int)] 3)).trans (hb4.mono (by have := hbe3.size; rw [asz1]; omega))
      go_wp2
      go_ret2
      refine ⟨.inl ⟨Hok.out, v4, rfl, ?_⟩, hbe4⟩
      rw [Hwn.out, Hwl.out]
      exact own_base hown4 (by have := hbe3.size; rw [asz1]; omega)
theorem wput_any (A : Option Addr) (n c : Nat) (ls : List (List Int × List UInt8)) (w : World) (hr : RdPcs w w.heap.size 1 A n ls) :
    Calls Try.prog 29 #[.slice A n c] w fun e w' => WPut w ls e w' ∧ Below w.heap.size w w' := by
  by_cases hn : 4096 < n
  · refine (wput_many A n c w hn).mono ?_
    rintro e w' ⟨rfl, hb⟩
    refine ⟨.inr ⟨?_, rfl⟩, hb⟩
    unfold walOk
    rw [hr.1, decide_eq_false (by omega)]; rfl
  · cases hris : risB (-1) (nosOf ls) with
    | false =>
      refine (wput_ris A n c ls w hr (by omega) hris).mono ?_
      rintro e w' ⟨rfl, hb⟩
      refine ⟨.inr ⟨?_, rfl⟩, hb⟩
      unfold walOk
      rw [hris]; simp
    | true => exact wput_in A n c ls w hr (by omega) hris
end Go.Proofs.Ythflnndjjhifeaa
