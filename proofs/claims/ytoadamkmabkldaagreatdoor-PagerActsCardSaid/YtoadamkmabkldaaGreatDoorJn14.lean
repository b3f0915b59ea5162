/- Contracts of package wal: Put. -/
import Derived.Test.YtoadamkmabkldaaGreatDoorJn13
import Derived.Deep.RegionHeld3
import Derived.Deep.DrawnRows
import Derived.Test.YtoadamkmabkldaaGreatDoorJn10
import Derived.Test.YtoadamkmabkldaaGreatDoorJn09
import Derived.Test.YtoadamkmabkldaaGreatDoorJn12
set_option linter.unusedVariables false
set_option linter.unusedSimpArgs false
namespace Go.Proofs.YtoadamkmabkldaaGreatDoor
open Go.RowKit
attribute [local go_sem ↓] Go.wp_at_zero Go.wp_at_succ

def wmark : List UInt8 := [105, 113, 106, 49]
/-- The pieces' bytes. -/
def wbody (ls : List (List Int × List UInt8)) : List UInt8 := ls.flatMap fun p => leB (p.1.headD 0) 4 ++ p.2
def whead (ls : List (List Int × List UInt8)) : List UInt8 := wmark ++ leB (ls.length : Int) 4 ++ wbody ls
/-- A batch's bytes. -/
def walB (ls : List (List Int × List UInt8)) : List UInt8 := whead ls ++ leB ((crcOf (whead ls)).toNat : Int) 4
/-- May it be a batch? -/
def walOk (ls : List (List Int × List UInt8)) : Bool := decide (ls.length ≤ 4096) && risB (-1) (nosOf ls) && ls.all fun p => decide (p.2.length = 512)
theorem wbody_snoc (ls : List (List Int × List UInt8)) (x : Int) (l : List UInt8) : wbody (ls ++ [([x], l)]) = wbody ls ++ (leB x 4 ++ l) := by simp [wbody]

theorem wbody_len (ls : List (List Int × List UInt8)) (h : ∀ p ∈ ls, p.2.length = 512) : (wbody ls).length = 516 * ls.length := by
  induction ls with
  | nil => rfl
  | cons p r ih =>
    have h1 := ih fun q hq => h q (List.mem_cons_of_mem _ hq)
    have h2 := h p List.mem_cons_self
    simp only [wbody, List.flatMap_cons, List.length_append, List.length_cons, leB_len] at h1 ⊢
    omega
/-- What Put returns. -/
def WPut (w : World) (ls : List (List Int × List UInt8)) (e : Ending) (w' : World) : Prop :=
  (walOk ls = true ∧ ∃ v, e = .returned (.tuple #[v, .int .i64 0]) ∧ w'.ownsRow w.heap.size 5 1 v (walB ls).length (bys (walB ls))) ∨ (walOk ls = false ∧ e = .returned (.tuple #[.slice none 0 0, .int .i64 1]))
set_option maxHeartbeats 1000000 in
theorem wput_many (A : Option Addr) (n c : Nat) (w : World) (hn : 4096 < n) :
    Calls Tryz.prog 69 #[.slice A n c] w fun e w' => e = .returned (.tuple #[.slice none 0 0, .int .i64 1]) ∧ Below w.heap.size w w' := by
  go_enter Tryz.func69, Tryz.ntmps69
  go_wp2
  go_ret2
  exact ⟨rfl, Below.refl _ _⟩
set_option maxHeartbeats 1000000 in
theorem wput_ris (A : Option Addr) (n c : Nat) (ls : List (List Int × List UInt8)) (w : World) (hr : RdPcs w w.heap.size 1 A n ls) (hn : n ≤ 4096) (hris : risB (-1) (nosOf ls) = false) :
    Calls Tryz.prog 69 #[.slice A n c] w fun e w' => e = .returned (.tuple #[.slice none 0 0, .int .i64 1]) ∧ Below w.heap.size w w' := by
  have H := Lib.hid hris
  clear hris
  go_enter Tryz.func69, Tryz.ntmps69
  go_wp2_with fail
  refine (rising_any A n c ls w hr (by omega)).mono ?_
  rintro e w1 ⟨rfl, hb1⟩
  rw [H.out]
  go_wp2
  go_ret2
  exact ⟨rfl, hb1⟩
set_option maxHeartbeats 2000000 in
set_option maxRecDepth 100000 in
theorem wput_in (A : Option Addr) (n c : Nat) (ls : List (List Int × List UInt8)) (w : World) (hr : RdPcs w w.heap.size 1 A n ls) (hn : n ≤ 4096) (hris : risB (-1) (nosOf ls) = true) :
    Calls Tryz.prog 69 #[.slice A n c] w fun e w' => WPut w ls e w' ∧ Below w.heap.size w w' := by
  have H := Lib.hid hris
  have Hln := Lib.hid hr.1
  have w4 : (wid 4).toNat = 4 := by decide
  have W4 := Lib.hid w4
  have kc := fun (w : World) (C : Array Value) (n c : Nat) => Lib.run_convert_bytes_const (P := Tryz.prog) w 22 5 C n c Tryz.underlying22 Tryz.underlying5
  clear hris w4
  go_enter Tryz.func69, Tryz.ntmps69
  go_wp2_with fail
  refine (rising_any A n c ls w hr (by omega)).mono ?_
  rintro e w1 ⟨rfl, hb1⟩
  rw [H.out]
  have hmk := (Rd.lits w1 5 #[.int .u8 105, .int .u8 113, .int .u8 106, .int .u8 49] rfl (fr := (4, 5))).alloc (Nat.le_of_eq (asz1 _ _).symm) (.cells #[.int .i64 (n : Int)] 3)
  have hnn := (Rd.oneI (w1.alloc (.cells #[.int .u8 105, .int .u8 113, .int .u8 106, .int .u8 49] 5 (4, 5))) 3 (n : Int)).more (B' := ((w1.alloc (.cells #[.int .u8 105, .int .u8 113, .int .u8 106, .int .u8 49] 5 (4, 5))).alloc (.cells #[.int .i64 (n : Int)] 3)).heap.size) (by simp)
  rw [asz1 w1] at hnn
  have hput := put_any _ _ 4 4 1 1 4 wmark [(n : Int)] _ (hmk.more (by rw [asz1, asz1]; omega)) hnn (by omega) (by omega)
  have hbe0 : Below w.heap.size w ((w1.alloc (.cells #[.int .u8 105, .int .u8 113, .int .u8 106, .int .u8 49] 5 (4, 5))).alloc (.cells #[.int .i64 (n : Int)] 3)) := (hb1.alloc hb1.size _).alloc (by have := hb1.size; rw [asz1]; omega) _
  clear hmk hnn hb1
  go_wp2_with fail
  refine hput.mono ?_
  rintro e w2 ⟨v2, rfl, hown2, hb2⟩
  have hown2' := own_base hown2 hbe0.size
  have hbe2 := hbe0.trans (hb2.mono hbe0.size)
  rw [W4.out, show putB wmark 4 [(n : Int)] = wmark ++ leB (n : Int) 4 by simp [putB]] at hown2'
  clear hput hown2 hb2 hbe0
  go_wp2_with fail
  go_loopw [4, 23] (fun b i wr => ∃ j : Nat, j ≤ n ∧ i = .int .i64 j ∧ Hid (∀ p ∈ ls.take j, p.2.length = 512) ∧ wr.ownsRow w.heap.size 5 1 b (8 + 516 * j) (bys (wmark ++ leB (n : Int) 4 ++ wbody (ls.take j))) ∧ Below w.heap.size w wr) (fun _ i _ => n - (intOf i).toNat)
  case atStart => exact ⟨0, Nat.zero_le _, rfl, Lib.hid (by simp), by simpa [wbody] using hown2', hbe2⟩
  case round =>
    obtain ⟨j, hj, rfl, hall, hown, hbw⟩ := hrel
    clear hown2' hbe2
    obtain ⟨Ao, co, rfl, _, _⟩ := own_form hown
    have hsz := hbw.size
    by_cases hlt : j < n
    · obtain ⟨b, o, ⟨zs, bl⟩, rfl, hbb, hx, hzl, hzb, hzc, v, hvc, Ab, nb, cb, rfl, hvr, hvn⟩ := hr.at_ hlt
      obtain ⟨x, rfl⟩ : ∃ x, zs = [x] := by
        match zs, hzl with
        | [x], _ => exact ⟨x, rfl⟩
      have k0 := (hbw.cell (p := ⟨b, o + j * (1 + 1) + 0, none⟩) hbb).trans (hzc 0 x rfl)
      have k1 := (hbw.cell (p := ⟨b, o + j * (1 + 1) + 1, none⟩) hbb).trans hvc
      simp only [Nat.reduceAdd, Nat.add_zero] at k0 k1
      have hbl : bl.length = nb := hvr.blen
      have hbe1 : Below w.heap.size w (wr.alloc (.cells #[.int .i64 x, .slice Ab nb cb] 122)) := hbw.alloc hsz _
      by_cases h512 : nb = 512
      · subst h512
        have hts := take_step hx
        have hwb : wbody (ls.take (j + 1)) = wbody (ls.take j) ++ (leB x 4 ++ bl) := by rw [hts, wbody_snoc]
        have hall' : ∀ p ∈ ls.take (j + 1), p.2.length = 512 := by
          rw [hts]
          intro p hp
          rcases List.mem_append.1 hp with h | h
          · exact hall.out p h
          · simp at h; subst h; exact hbl
        have hone := (Rd.oneI (wr.alloc (.cells #[.int .i64 x, .slice Ab 512 cb] 122)) 3 x).more (B' := ((wr.alloc (.cells #[.int .i64 x, .slice Ab 512 cb] 122)).alloc (.cells #[.int .i64 x] 3)).heap.size) (by simp)
        rw [asz1 wr] at hone
        have hput := put_any none _ 0 0 1 1 4 [] [x] ((wr.alloc (.cells #[.int .i64 x, .slice Ab 512 cb] 122)).alloc (.cells #[.int .i64 x] 3)).drew Rd.nil_ hone.drew (by omega) (by omega)
        rw [W4.out, putB_one] at hput
        have hbe2 : Below w.heap.size w ((wr.alloc (.cells #[.int .i64 x, .slice Ab 512 cb] 122)).alloc (.cells #[.int .i64 x] 3)) := hbe1.alloc (by rw [asz1]; omega) _
        have hbk1 : Bk ((wr.alloc (.cells #[.int .i64 x, .slice Ab 512 cb] 122)).alloc (.cells #[.int .i64 x] 3)) wr.heap.size 122 #[.int .i64 x, .slice Ab 512 cb] := (Bk.new wr _ _).alloc _
        have hownA := (hown.alloc (.cells #[.int .i64 x, .slice Ab 512 cb] 122)).alloc (.cells #[.int .i64 x] 3)
        have hfar : ∀ k, (Value.slice Ao (8 + 516 * j) co).ownBlock = some k → k < wr.heap.size := fun k hk => (hown.lt k hk).2
        have hC : ∀ (w4 : World) (v4 : Value), w4.ownsRow ((wr.alloc (.cells #[.int .i64 x, .slice Ab 512 cb] 122)).alloc (.cells #[.int .i64 x] 3)).heap.size 5 1 v4 (0 + 1 * 4) (bys (leB x 4)) → Below ((wr.alloc (.cells #[.int .i64 x, .slice Ab 512 cb] 122)).alloc (.cells #[.int .i64 x] 3)).heap.size ((wr.alloc (.cells #[.int .i64 x, .slice Ab 512 cb] 122)).alloc (.cells #[.int .i64 x] 3)).drew w4 →
            ∃ A4 c4, v4 = .slice A4 4 c4 ∧ Rd w4 w4.heap.size 1 A4 4 (bys (leB x 4)) ∧ w4.ownsRow w.heap.size 5 1 (.slice Ao (8 + 516 * j) co) (8 + 516 * j) (bys (wmark ++ leB (n : Int) 4 ++ wbody (ls.take j))) ∧ Below w.heap.size w w4 ∧ Bk w4 wr.heap.size 122 #[.int .i64 x, .slice Ab 512 cb] := by
          intro w4 v4 h1 h2
          obtain ⟨A4, c4, rfl, _, _⟩ := own_form h1
          exact ⟨A4, c4, rfl, Rd.of_own h1, own_below (hownA.drew) h2 (Nat.le_refl _), hbe2.drew.trans (h2.mono hbe2.size), hbk1.drew.below h2 hbk1.lt⟩
        have hD : ∀ (w4 w5 : World) (v5 : Value), Bk w4 wr.heap.size 122 #[.int .i64 x, .slice Ab 512 cb] → w4.ownsRow w.heap.size 5 1 (.slice Ao (8 + 516 * j) co) (8 + 516 * j) (bys (wmark ++ leB (n : Int) 4 ++ wbody (ls.take j))) → Below w.heap.size w w5 → w4.grownBy w5 (Value.slice Ao (8 + 516 * j) co).ownBlock →
            Bk w5 wr.heap.size 122 #[.int .i64 x, .slice Ab 512 cb] ∧ Rd w5 w.heap.size 1 Ab 512 (bys bl) := by
          intro w4 w5 v5 h1 h2 h3 h4
          exact ⟨h1.grown h4 (fun e => absurd (hfar _ e.symm) (Nat.lt_irrefl _)), hvr.below h3 (Nat.le_refl _)⟩
        have hE : ∀ (w4 w5 w6 : World) (v5 : Value), Bk w4 wr.heap.size 122 #[.int .i64 x, .slice Ab 512 cb] → Bk w5 wr.heap.size 122 #[.int .i64 x, .slice Ab 512 cb] → (v5.ownBlock = (Value.slice Ao (8 + 516 * j) co).ownBlock ∨ v5.ownBlock = some w4.heap.size) → w5.grownBy w6 v5.ownBlock → Bk w6 wr.heap.size 122 #[.int .i64 x, .slice Ab 512 cb] := by
          intro w4 w5 w6 v5 h0 h1 h2 h3
          refine h1.grown h3 (fun e => ?_)
          rcases h2 with h2 | h2
          · rw [h2] at e; exact absurd (hfar _ e.symm) (Nat.lt_irrefl _)
          · rw [h2] at e; injection e with e; have := h0.lt; omega
        have hS : ∀ (w' : World), Bk w' wr.heap.size 122 #[.int .i64 x, .slice Ab 512 cb] → w'.cell? ⟨wr.heap.size, 0, none⟩ = some (.int .i64 x) ∧ w'.cell? ⟨wr.heap.size, 1, none⟩ = some (.slice Ab 512 cb) := fun w' h => ⟨h.cell 0, h.cell 1⟩
        have HC := Lib.hid hC
        have HD := Lib.hid hD
        have HE := Lib.hid hE
        have HS := Lib.hid hS
        have Hwb := Lib.hid hwb
        have Hall := Lib.hid hall'
        have Hput := Lib.hid hput
        clear hx hzl hzb hzc hvc hbl hts hwb hall' hone hown hC hD hE hS hput hbe2 hbe1 hbk1 hownA hfar
        go_wp2_with fail
        go_region_held3 (fun w' => w'.cell? ⟨wr.heap.size, 0, none⟩ = some (.int .i64 x) ∧ w'.cell? ⟨wr.heap.size, 1, none⟩ = some (.slice Ab 512 cb)) (first | (exact HS.out _ hbk6) | (exact HS.out _ hbk5) | (exact HS.out _ hbk4) | go_keep)
          (first
            | (go_at_call 47; refine Hput.out.mono ?_; rintro e w4 ⟨v4, rfl, hown4, hb4⟩; obtain ⟨A4, c4, rfl, hr4, hownB, hbe4, hbk4⟩ := HC.out w4 v4 hown4 hb4)
            | (refine ap_step (v := .slice Ao (8 + 516 * j) co) (n := 8 + 516 * j) (xs := wmark ++ leB (n : Int) 4 ++ wbody (ls.take j)) (news := leB x 4) (A := A4) (m := 4) (c := c4) hownB hr4 hbe4 hbe4.size (by omega) (by rfl) (by rfl) ?_; intro v5 w5 hown5 hb5 hg5 hv5; obtain ⟨hbk5, hvr5⟩ := HD.out w4 w5 v5 hbk4 hownB hb5 hg5)
            | (refine ap_step (v := v5) (n := 8 + 516 * j + 4) (xs := wmark ++ leB (n : Int) 4 ++ wbody (ls.take j) ++ leB x 4) (news := bl) (A := Ab) (m := 512) (c := cb) hown5 hvr5 hb5 hb5.size (by omega) (by rfl) (by rfl) ?_; intro v6 w6 hown6 hb6 hg6 hv6; have hbk6 := HE.out w4 w5 w6 v5 hbk4 hbk5 hv5 hg6))
        have hfin : w6.ownsRow w.heap.size 5 1 v6 (8 + 516 * (j + 1)) (bys (wmark ++ leB (n : Int) 4 ++ wbody (ls.take (j + 1)))) := by
          rw [Hwb.out, show 8 + 516 * (j + 1) = 8 + 516 * j + 4 + 512 by omega, ← List.append_assoc (wmark ++ leB (n : Int) 4), ← List.append_assoc]
          exact hown6
        clear hown5 hvr5 hb5 hown6 hownB hr4 hbe4 hbk4 hbk5 hbk6 hg5 hg6 HC HD HE HS
        go_wp2_with fail
        go_roundw
        case rel => exact ⟨j + 1, by omega, by go_num, Hall, hfin, hb6⟩
        case measure => simp [intOf]; omega
      · have hne : ((nb : Int) != 512) = true := by rw [bne_iff_ne]; omega
        have hno : walOk ls = false := by
          rw [Bool.eq_false_iff]
          intro h
          unfold walOk at h
          simp only [Bool.and_eq_true] at h
          have := List.all_eq_true.1 h.2 _ (List.mem_of_getElem? hx)
          have h3 : bl.length = 512 := by simpa using this
          omega
        have Hno := Lib.hid hno
        clear hx hzl hzb hzc hvc hbl hno h512
        go_wp2
        go_ret2
        exact ⟨.inr ⟨Hno.out, rfl⟩, hbe1⟩
    · have : j = n := by omega
      subst this
      have htk : ls.take j = ls := List.take_of_length_le (by have := Hln.out; omega)
      rw [htk] at hown hall
      have hok : walOk ls = true := by
        unfold walOk
        rw [H.out]
        simp only [Bool.and_eq_true, decide_eq_true_eq, List.all_eq_true]
        exact ⟨⟨by have := Hln.out; omega, trivial⟩, hall.out⟩
      have hhd : wmark ++ leB (j : Int) 4 ++ wbody ls = whead ls := by unfold whead; rw [Hln.out]
      rw [hhd] at hown
      have hwl : walB ls = whead ls ++ leB ((crcOf (whead ls)).toNat : Int) 4 := rfl
      have hhl : (whead ls).length = 8 + 516 * j := by have := hown.1; rw [bys_len] at this; omega
      have hwn : (walB ls).length = 8 + 516 * j + 4 := by rw [hwl, List.length_append, hhl, leB_len]
      obtain ⟨A2, c2, hAo, hc2, _⟩ := own_form hown
      injection hAo with hA1 _ hA2
      subst hA1 hA2
      have hr2 := Rd.of_own hown
      have hC := (crcOf (whead ls)).isLt
      have hcr := crcof_any _ 1 1 [whead ls] _ ((RdRows.one wr 22 (RdB.mk hr2 hc2) (Nat.le_refl _)).more (B' := (wr.alloc (.cells #[.slice Ao (8 + 516 * j) co] 22)).heap.size) (by simp)) (by omega) (by simp [hhl]; omega)
      have hfl : [whead ls].flatten = whead ls := by simp
      rw [hfl] at hcr
      have Hok := Lib.hid hok
      have Hwl := Lib.hid hwl
      have Hwn := Lib.hid hwn
      have Hall := Lib.hid hbw.size
      clear htk hall hok hhd hwl hhl hwn hfl
      generalize (crcOf (whead ls)).toNat = C at *
      generalize whead ls = L at *
      go_wp2_with fail
      refine hcr.mono ?_
      rintro e w3 ⟨rfl, hb3⟩
      have hbe3 : Below w.heap.size w w3 := (hbw.alloc hsz (.cells #[.slice Ao (8 + 516 * j) co] 22)).trans (hb3.mono (by rw [asz1]; omega))
      have hr3 : Rd w3 w3.heap.size 1 Ao (8 + 516 * j) (bys L) := ((hr2.alloc (Nat.le_refl _) (.cells #[.slice Ao (8 + 516 * j) co] 22)).below hb3 (by rw [asz1]; omega)).more (by have := hb3.size; rw [asz1] at this; omega)
      have hone := (Rd.oneI w3 3 (C : Int)).more (B' := (w3.alloc (.cells #[.int .i64 (C : Int)] 3)).heap.size) (by simp)
      have hput := put_any Ao _ (8 + 516 * j) co 1 1 4 L [(C : Int)] _ ((hr3.alloc (Nat.le_refl _) (.cells #[.int .i64 (C : Int)] 3)).more (by rw [asz1]; omega)) hone (by omega) (by omega)
      rw [W4.out, show putB L 4 [(C : Int)] = L ++ leB (C : Int) 4 by simp [putB]] at hput
      clear hcr hone hr3 hr2 hown hb3
      go_wp2_with fail
      refine hput.mono ?_
      rintro e w4 ⟨v4, rfl, hown4, hb4⟩
      have hbe4 : Below w.heap.size w w4 := (hbe3.alloc hbe3.size (.cells #[.int .i64 (C : Int)] 3)).trans (hb4.mono (by have := hbe3.size; rw [asz1]; omega))
      go_wp2
      go_ret2
      refine ⟨.inl ⟨Hok.out, v4, rfl, ?_⟩, hbe4⟩
      rw [Hwn.out, Hwl.out]
      exact own_base hown4 (by have := hbe3.size; rw [asz1]; omega)
theorem wput_any (A : Option Addr) (n c : Nat) (ls : List (List Int × List UInt8)) (w : World) (hr : RdPcs w w.heap.size 1 A n ls) :
    Calls Tryz.prog 69 #[.slice A n c] w fun e w' => WPut w ls e w' ∧ Below w.heap.size w w' := by
  by_cases hn : 4096 < n
  · refine (wput_many A n c w hn).mono ?_
    rintro e w' ⟨rfl, hb⟩
    refine ⟨.inr ⟨?_, rfl⟩, hb⟩
    unfold walOk
    rw [hr.1, decide_eq_false (by omega)]; rfl
  · cases hris : risB (-1) (nosOf ls) with
    | false =>
      refine (wput_ris A n c ls w hr (by omega) hris).mono ?_
      rintro e w' ⟨rfl, hb⟩
      refine ⟨.inr ⟨?_, rfl⟩, hb⟩
      unfold walOk
      rw [hris]; simp
    | true => exact wput_in A n c ls w hr (by omega) hris
end Go.Proofs.YtoadamkmabkldaaGreatDoor
/- Plain facts on batches: what their bytes are read as. -/
namespace Go.Proofs.YtoadamkmabkldaaGreatDoor

/-- The number, and the number of pieces, at a place. -/
def num4 (l : List UInt8) (k : Nat) : Int := leN ((l.drop k).take 4)
def piece (l : List UInt8) (i : Nat) : List Int × List UInt8 := ([num4 l (8 + 516 * i)], (l.drop (8 + 516 * i + 4)).take 512)
def pieces (l : List UInt8) (n : Nat) : List (List Int × List UInt8) := (List.range n).map (piece l)
theorem pieces_len (l : List UInt8) (n : Nat) : (pieces l n).length = n := by simp [pieces]
theorem pieces_succ (l : List UInt8) (n : Nat) : pieces l (n + 1) = pieces l n ++ [piece l n] := by simp [pieces, List.range_succ]
/-- What bytes are: the error, and the batch. -/
def WE (l : List UInt8) : Nat × List (List Int × List UInt8) :=
  if l.length < 4 then (3, [])
  else if ¬ l.take 4 = wmark then (4, [])
  else if l.length < 8 then (3, [])
  else if 4096 < num4 l 4 then (4, [])
  else if l.length < 12 + 516 * (num4 l 4).toNat then (3, [])
  else if ¬ num4 l (8 + 516 * (num4 l 4).toNat) = ((crcOf (l.take (8 + 516 * (num4 l 4).toNat))).toNat : Int) then (5, [])
  else if risB (-1) (nosOf (pieces l (num4 l 4).toNat)) = false then (4, [])
  else (0, pieces l (num4 l 4).toNat)
theorem WE_short {l : List UInt8} (h : l.length < 4) : WE l = (3, []) := by unfold WE; rw [if_pos h]
theorem WE_mark {l : List UInt8} (h : ¬ l.length < 4) (h1 : ¬ l.take 4 = wmark) : WE l = (4, []) := by unfold WE; rw [if_neg h, if_pos h1]
theorem WE_8 {l : List UInt8} (h : ¬ l.length < 4) (h1 : l.take 4 = wmark) (h2 : l.length < 8) : WE l = (3, []) := by unfold WE; rw [if_neg h, if_neg (fun e => e h1), if_pos h2]
section
variable {l : List UInt8} (h : ¬ l.length < 4) (h1 : l.take 4 = wmark) (h2 : ¬ l.length < 8)
include h h1 h2
theorem WE_many (h3 : 4096 < num4 l 4) : WE l = (4, []) := by unfold WE; rw [if_neg h, if_neg (fun e => e h1), if_neg h2, if_pos h3]
theorem WE_size (h3 : ¬ 4096 < num4 l 4) (h4 : l.length < 12 + 516 * (num4 l 4).toNat) : WE l = (3, []) := by unfold WE; rw [if_neg h, if_neg (fun e => e h1), if_neg h2, if_neg h3, if_pos h4]
theorem WE_sum (h3 : ¬ 4096 < num4 l 4) (h4 : ¬ l.length < 12 + 516 * (num4 l 4).toNat) (h5 : ¬ num4 l (8 + 516 * (num4 l 4).toNat) = ((crcOf (l.take (8 + 516 * (num4 l 4).toNat))).toNat : Int)) : WE l = (5, []) := by
  unfold WE; rw [if_neg h, if_neg (fun e => e h1), if_neg h2, if_neg h3, if_neg h4, if_pos h5]
theorem WE_ris (h3 : ¬ 4096 < num4 l 4) (h4 : ¬ l.length < 12 + 516 * (num4 l 4).toNat) (h5 : num4 l (8 + 516 * (num4 l 4).toNat) = ((crcOf (l.take (8 + 516 * (num4 l 4).toNat))).toNat : Int)) (h6 : risB (-1) (nosOf (pieces l (num4 l 4).toNat)) = false) : WE l = (4, []) := by
  unfold WE; rw [if_neg h, if_neg (fun e => e h1), if_neg h2, if_neg h3, if_neg h4, if_neg (fun e => e h5), if_pos h6]
theorem WE_ok (h3 : ¬ 4096 < num4 l 4) (h4 : ¬ l.length < 12 + 516 * (num4 l 4).toNat) (h5 : num4 l (8 + 516 * (num4 l 4).toNat) = ((crcOf (l.take (8 + 516 * (num4 l 4).toNat))).toNat : Int)) (h6 : risB (-1) (nosOf (pieces l (num4 l 4).toNat)) = true) : WE l = (0, pieces l (num4 l 4).toNat) := by
  unfold WE; rw [if_neg h, if_neg (fun e => e h1), if_neg h2, if_neg h3, if_neg h4, if_neg (fun e => e h5), if_neg (by rw [h6]; decide)]
end
theorem num4_bd (l : List UInt8) (k : Nat) : 0 ≤ num4 l k ∧ num4 l k < 4294967296 := by
  unfold num4
  have h1 := leN_nn ((l.drop k).take 4)
  have h2 := leN_lt ((l.drop k).take 4)
  have h3 : ((l.drop k).take 4).length ≤ 4 := by rw [List.length_take]; omega
  have h4 : (256 : Int) ^ ((l.drop k).take 4).length ≤ 4294967296 := by
    have : ((l.drop k).take 4).length = 0 ∨ ((l.drop k).take 4).length = 1 ∨ ((l.drop k).take 4).length = 2 ∨ ((l.drop k).take 4).length = 3 ∨ ((l.drop k).take 4).length = 4 := by omega
    rcases this with e | e | e | e | e <;> rw [e] <;> decide
  omega
end Go.Proofs.YtoadamkmabkldaaGreatDoor
/- Plain facts on batches: what is put is read again, whatever is behind; no beginning of it is. -/
namespace Go.Proofs.YtoadamkmabkldaaGreatDoor

/-- Each piece has one number. -/
def oneNo (ls : List (List Int × List UInt8)) : Prop := ∀ p ∈ ls, p.1.length = 1
theorem wbody_app (a b : List (List Int × List UInt8)) : wbody (a ++ b) = wbody a ++ wbody b := by simp [wbody]
theorem ris_fits : ∀ (ns : List Int) (y : Int), risB y ns = true → ∀ z ∈ ns, 0 ≤ z ∧ z < 16777216
  | [], _, _, z, hz => by cases hz
  | x :: r, y, h, z, hz => by
    unfold risB at h
    simp only [Bool.and_eq_true] at h
    rcases List.mem_cons.1 hz with rfl | hz
    · have := h.1.1
      simp [fitsB] at this
      exact this
    · exact ris_fits r x h.2 z hz
theorem ok_parts {ls : List (List Int × List UInt8)} (h : walOk ls = true) : ls.length ≤ 4096 ∧ risB (-1) (nosOf ls) = true ∧ ∀ p ∈ ls, p.2.length = 512 := by
  unfold walOk at h
  simp only [Bool.and_eq_true, decide_eq_true_eq, List.all_eq_true] at h
  exact ⟨h.1.1, h.1.2, h.2⟩
theorem walB_len {ls : List (List Int × List UInt8)} (h : walOk ls = true) : (walB ls).length = 12 + 516 * ls.length := by
  have := wbody_len ls (ok_parts h).2.2
  unfold walB whead
  simp only [List.length_append, leB_len, this]
  have : wmark.length = 4 := rfl
  omega
theorem whead_len {ls : List (List Int × List UInt8)} (h : walOk ls = true) : (whead ls).length = 8 + 516 * ls.length := by
  have := wbody_len ls (ok_parts h).2.2
  unfold whead
  simp only [List.length_append, leB_len, this]
  have : wmark.length = 4 := rfl
  omega
theorem drop_into (a b c : List UInt8) (k m : Nat) (hk : a.length = k) (hm : b.length = m) : ((a ++ (b ++ c)).drop k).take m = b := by
  rw [List.drop_append_of_le_length (by omega), List.drop_of_length_le (by omega), List.nil_append, List.take_append_of_le_length (by omega), List.take_of_length_le (by omega)]
theorem piece_back {ls : List (List Int × List UInt8)} (h : walOk ls = true) (h1 : oneNo ls) (t : List UInt8) (i : Nat) (p : List Int × List UInt8) (hp : ls[i]? = some p) : piece (whead ls ++ t) i = p := by
  obtain ⟨_, hr, h5⟩ := ok_parts h
  have hmem := List.mem_of_getElem? hp
  have hi : i < ls.length := by
    rcases Nat.lt_or_ge i ls.length with h | h
    · exact h
    · rw [List.getElem?_eq_none h] at hp; cases hp
  obtain ⟨zs, m⟩ := p
  obtain ⟨x, rfl⟩ : ∃ x, zs = [x] := by
    have := h1 _ hmem
    match zs, this with
    | [x], _ => exact ⟨x, rfl⟩
  have hx := ris_fits _ _ hr x (by unfold nosOf; exact List.mem_map.2 ⟨_, hmem, rfl⟩)
  have hm : m.length = 512 := h5 _ hmem
  have hsplit : wbody ls = wbody (ls.take i) ++ (leB x 4 ++ (m ++ wbody (ls.drop (i + 1)))) := by
    have e : ls = ls.take i ++ ([x], m) :: ls.drop (i + 1) := by
      have e2 := List.take_append_drop i ls
      rw [List.drop_eq_getElem_cons hi] at e2
      have e3 : ls[i] = ([x], m) := by rw [List.getElem?_eq_getElem hi] at hp; injection hp
      rw [e3] at e2
      exact e2.symm
    conv => lhs; rw [e, wbody_app]
    simp [wbody]
  have hlen : (wbody (ls.take i)).length = 516 * i := by
    rw [wbody_len _ (fun q hq => h5 q (List.mem_of_mem_take hq)), List.length_take]
    congr 1
    omega
  have hw : wmark.length = 4 := rfl
  have hall : whead ls ++ t = (wmark ++ leB (ls.length : Int) 4 ++ wbody (ls.take i)) ++ (leB x 4 ++ (m ++ (wbody (ls.drop (i + 1)) ++ t))) := by
    unfold whead
    rw [hsplit]
    simp
  have hall2 : whead ls ++ t = (wmark ++ leB (ls.length : Int) 4 ++ wbody (ls.take i) ++ leB x 4) ++ (m ++ (wbody (ls.drop (i + 1)) ++ t)) := by
    rw [hall]; simp
  unfold piece num4
  congr 1
  · rw [hall, drop_into _ _ _ _ _ (by simp [leB_len, hlen, hw]; omega) (leB_len _ _), leN_leB]
    congr 1
    have : (256 : Int) ^ 4 = 4294967296 := by decide
    rw [this]
    omega
  · rw [hall2, drop_into _ _ _ _ _ (by simp [leB_len, hlen, hw]; omega) hm]
theorem pieces_back {ls : List (List Int × List UInt8)} (h : walOk ls = true) (h1 : oneNo ls) (t : List UInt8) : pieces (whead ls ++ t) ls.length = ls := by
  refine List.ext_getElem? fun i => ?_
  unfold pieces
  rw [List.getElem?_map]
  rcases Nat.lt_or_ge i ls.length with hi | hi
  · rw [List.getElem?_range hi, List.getElem?_eq_getElem hi]
    simp only [Option.map_some]
    rw [piece_back h h1 t i _ (List.getElem?_eq_getElem hi)]
  · rw [List.getElem?_eq_none (by simpa using hi), List.getElem?_eq_none hi]
    rfl
theorem num_head {ls : List (List Int × List UInt8)} (h : walOk ls = true) (t : List UInt8) : num4 (wmark ++ (leB (ls.length : Int) 4 ++ t)) 4 = ls.length := by
  have := (ok_parts h).1
  unfold num4
  rw [drop_into wmark (leB (ls.length : Int) 4) t 4 4 rfl (leB_len _ _), leN_leB]
  have : (256 : Int) ^ 4 = 4294967296 := by decide
  rw [this]
  omega
/-- What is put is got, whatever is behind. -/
theorem we_back {ls : List (List Int × List UInt8)} (h : walOk ls = true) (h1 : oneNo ls) (more : List UInt8) : WE (walB ls ++ more) = (0, ls) := by
  obtain ⟨hn, hr, h5⟩ := ok_parts h
  have hl := walB_len h
  have hh := whead_len h
  have e1 : walB ls ++ more = wmark ++ (leB (ls.length : Int) 4 ++ (wbody ls ++ (leB ((crcOf (whead ls)).toNat : Int) 4 ++ more))) := by
    unfold walB; conv => lhs; arg 1; arg 1; unfold whead
    simp
  have e2 : walB ls ++ more = whead ls ++ (leB ((crcOf (whead ls)).toNat : Int) 4 ++ more) := by unfold walB; simp
  have hnum : num4 (walB ls ++ more) 4 = ls.length := by rw [e1]; exact num_head h _
  have hnt : (num4 (walB ls ++ more) 4).toNat = ls.length := by rw [hnum]; omega
  have hC := (crcOf (whead ls)).isLt
  have hp : pieces (walB ls ++ more) (num4 (walB ls ++ more) 4).toNat = ls := by rw [hnt, e2]; exact pieces_back h h1 _
  rw [WE_ok (by simp; omega) (by rw [e1, List.take_append_of_le_length (by decide)]; rfl) (by simp; omega) (by rw [hnum]; omega) (by rw [hnt]; simp; omega) ?_ (by rw [hp]; exact hr), hp]
  rw [hnt]
  have e3 : (walB ls ++ more).take (8 + 516 * ls.length) = whead ls := by
    rw [e2, List.take_append_of_le_length (by omega), List.take_of_length_le (by omega)]
  rw [e3]
  unfold num4
  rw [e2, drop_into _ _ _ _ _ hh (leB_len _ _), leN_leB]
  have : (256 : Int) ^ 4 = 4294967296 := by decide
  rw [this]
  omega
/-- No beginning of it is one. -/
theorem we_begin {ls : List (List Int × List UInt8)} (h : walOk ls = true) (k : Nat) (hk : k < 12 + 516 * ls.length) : WE ((walB ls).take k) = (3, []) := by
  have hl := walB_len h
  have hn := (ok_parts h).1
  have hlen : ((walB ls).take k).length = k := by rw [List.length_take]; omega
  rcases Nat.lt_or_ge k 4 with h4 | h4
  · exact WE_short (by omega)
  have e1 : walB ls = wmark ++ (leB (ls.length : Int) 4 ++ (wbody ls ++ leB ((crcOf (whead ls)).toNat : Int) 4)) := by
    unfold walB; conv => lhs; arg 1; unfold whead
    simp
  have hw : wmark.length = 4 := rfl
  have hm : ((walB ls).take k).take 4 = wmark := by
    rw [List.take_take, Nat.min_eq_left h4, e1, List.take_append_of_le_length (by omega)]; rfl
  rcases Nat.lt_or_ge k 8 with h8 | h8
  · exact WE_8 (by omega) hm (by omega)
  have hnum : num4 ((walB ls).take k) 4 = ls.length := by
    have e2 : ((walB ls).take k) = wmark ++ (leB (ls.length : Int) 4 ++ ((wbody ls ++ leB ((crcOf (whead ls)).toNat : Int) 4).take (k - 4 - 4))) := by
      rw [e1, List.take_append, List.take_of_length_le (by omega), List.take_append, List.take_of_length_le (by rw [leB_len]; omega), leB_len, hw]
    rw [e2]
    exact num_head h _
  exact WE_size (by omega) hm (by omega) (by rw [hnum]; omega) (by rw [hnum, hlen]; omega)
end Go.Proofs.YtoadamkmabkldaaGreatDoor
/- Pages that change together, in plain words: what page 0 tells, what lies in the two files, what a commit does to the store. -/
namespace Go.Proofs.YtoadamkmabkldaaGreatDoor

/-- What page 0 tells. -/
structure HdP where
  many : Nat
  free : Nat
  roots : List Nat
deriving DecidableEq
def markD : List UInt8 := [105, 113, 100, 98]
def doneD : List UInt8 := [100, 111, 110, 101]
def natI (l : List Nat) : List Int := l.map fun (k : Nat) => (k : Int)
def hdB (h : HdP) : List UInt8 := putB (putB markD 4 [(h.many : Int), (h.free : Int)]) 4 (natI h.roots)
theorem hdB_len {h : HdP} (hr : h.roots.length = 8) : (hdB h).length = 44 := by
  unfold hdB
  rw [putB_len, putB_len]
  simp [markD, natI, hr]
structure HdP.Ok (h : HdP) : Prop where
  m1 : 1 ≤ h.many
  m2 : h.many ≤ 65536
  fr : h.free < h.many
  rl : h.roots.length = 8
  rt : ∀ k ∈ h.roots, k < h.many
def dbN (n : List UInt8) : List UInt8 := n ++ [46, 100, 98]
def logN (n : List UInt8) : List UInt8 := n ++ [46, 108, 111, 103]
theorem db_log (n : List UInt8) : dbN n ≠ logN n := by
  intro e
  have := congrArg List.length e
  simp [dbN, logN] at this
/-- Steps on a store, one after another, while there is no error. -/
def runS (S : FsP) : List (FsP → Nat × FsP) → Nat × FsP
  | [] => (0, S)
  | k :: r => if (k S).1 = 0 then runS (k S).2 r else k S
theorem runS_app (k : FsP → Nat × FsP) : ∀ (l : List (FsP → Nat × FsP)) (S : FsP), runS S (l ++ [k]) = if (runS S l).1 = 0 then k (runS S l).2 else runS S l
  | [], S => by
    show (if (k S).1 = 0 then (0, (k S).2) else k S) = if (0 : Nat) = 0 then k S else (0, S)
    rw [if_pos rfl]
    split
    · rename_i h; rw [← h]
    · rfl
  | j :: r, S => by
    show (if (j S).1 = 0 then runS (j S).2 (r ++ [k]) else j S) = if (if (j S).1 = 0 then runS (j S).2 r else j S).1 = 0 then _ else _
    split
    · rename_i h; rw [runS_app k r]; simp only [runS, if_pos h]
    · rename_i h; simp only [runS, if_neg h]
/-- A page is laid; pages are, and last. -/
def layOne (nm : List UInt8) (q : Nat × List UInt8) (S : FsP) : Nat × FsP := writeP S (dbN nm) ((512 * q.1 : Nat) : Int) q.2
def layP (nm : List UInt8) (l : List (Nat × List UInt8)) (S : FsP) : Nat × FsP := runS S (l.map (layOne nm) ++ [fun S => syncF S (dbN nm)])
/-- The six steps of a commit of the batch l, whose bytes are b. -/
def comSteps (nm b : List UInt8) (l : List (Nat × List UInt8)) : List (FsP → Nat × FsP) :=
  [fun S => writeP S (logN nm) 0 b, fun S => syncF S (logN nm), fun S => writeP S (logN nm) (b.length : Int) doneD, fun S => syncF S (logN nm), fun S => layP nm l S, fun S => cutF S (logN nm) 0]
def comP (nm b : List UInt8) (l : List (Nat × List UInt8)) (S : FsP) : Nat × FsP := runS S (comSteps nm b l)
/-- Pieces, with their numbers as such. -/
def nosP (ls : List (List Int × List UInt8)) : List (Nat × List UInt8) := ls.map fun p => ((p.1.headD 0).toNat, p.2)
def thereP (S : FsP) (n : List UInt8) : Nat × FsP := if (lenP S n).isSome then (0, S) else createP S n
/-- What is done by what the journal tells. -/
def againP (nm : List UInt8) (S : FsP) : Nat × FsP :=
  match lenP S (logN nm) with
  | none => (0, S)
  | some 0 => (0, S)
  | some (n + 1) =>
    let b := (readP S (logN nm) 0 ((n + 1 : Nat) : Int)).2
    if (WE (b.take (n + 1 - 4))).1 = 0 ∧ 12 + 516 * (WE (b.take (n + 1 - 4))).2.length = n + 1 - 4 ∧ b.drop (n + 1 - 4) = doneD then
      (if (layP nm (nosP (WE (b.take (n + 1 - 4))).2) S).1 = 0 then cutF (layP nm (nosP (WE (b.take (n + 1 - 4))).2) S).2 (logN nm) 0 else layP nm (nosP (WE (b.take (n + 1 - 4))).2) S)
    else cutF S (logN nm) 0
/-- Pages as they stand, from a number on. -/
def flatP : Nat → List (List UInt8) → List UInt8
  | _, [] => []
  | i, b :: r => sealB (i : Int) b ++ flatP (i + 1) r
theorem flatP_len : ∀ (L : List (List UInt8)) (i : Nat), (∀ b ∈ L, b.length ≤ 508) → (flatP i L).length = 512 * L.length
  | [], _, _ => rfl
  | b :: r, i, h => by
    unfold flatP
    rw [List.length_append, sealB_len _ _ (h b (List.mem_cons_self ..)), flatP_len r (i + 1) (fun c hc => h c (List.mem_cons_of_mem _ hc)), List.length_cons]; omega
theorem flatP_at : ∀ (L : List (List UInt8)) (i k : Nat) (b : List UInt8), (∀ b ∈ L, b.length ≤ 508) → L[k]? = some b → ((flatP i L).drop (512 * k)).take 512 = sealB ((i + k : Nat) : Int) b
  | [], _, _, _, _, h => by simp at h
  | c :: r, i, 0, b, hl, h => by
    have e : c = b := by simpa using h
    subst e
    unfold flatP
    rw [Nat.mul_zero, List.drop_zero, List.take_append_of_le_length (by rw [sealB_len _ _ (hl c (List.mem_cons_self ..))]; exact Nat.le_refl _), List.take_of_length_le (by rw [sealB_len _ _ (hl c (List.mem_cons_self ..))]; exact Nat.le_refl _)]
    rfl
  | c :: r, i, k + 1, b, hl, h => by
    unfold flatP
    rw [show 512 * (k + 1) = (sealB (i : Int) c).length + 512 * k by rw [sealB_len _ _ (hl c (List.mem_cons_self ..))]; omega, ← List.drop_drop, List.drop_left,
      flatP_at r (i + 1) k b (fun d hd => hl d (List.mem_cons_of_mem _ hd)) (by simpa using h)]
    congr 2; omega
theorem flatP_app : ∀ (L M : List (List UInt8)) (i : Nat), flatP i (L ++ M) = flatP i L ++ flatP (i + L.length) M
  | [], M, i => by simp [flatP]
  | b :: r, M, i => by
    simp only [List.cons_append, flatP, List.append_assoc, flatP_app r M (i + 1), List.length_cons]
    rw [show i + 1 + r.length = i + (r.length + 1) by omega]
end Go.Proofs.YtoadamkmabkldaaGreatDoor
