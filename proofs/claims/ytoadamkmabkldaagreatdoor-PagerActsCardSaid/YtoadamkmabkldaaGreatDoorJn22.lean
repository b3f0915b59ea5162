/- Contracts of package wal: Get. -/
import Derived.Test.YtoadamkmabkldaaGreatDoorJn14
set_option linter.unusedVariables false
set_option linter.unusedSimpArgs false
namespace Go.Proofs.YtoadamkmabkldaaGreatDoor
open Go.RowKit
attribute [local go_sem ↓] Go.wp_at_zero Go.wp_at_succ

theorem infoW : (Tryz.prog.info? 122).map (fun i => (i.zero, i.size, i.bytes)) = some (some (.agg #[.int .i64 0, .slice none 0 0]), 2, 32) := by kernel_rfl
/-- The cells of pieces. -/
def pcells (ls : List (List Int × List UInt8)) (vs : List Value) : List Value := (ls.zip vs).flatMap fun q => [.int .i64 (q.1.1.headD 0), q.2]
/-- Pieces that the call has made: the row, and each one's bytes, apart. -/
def PO (w : World) (base : Nat) (v : Value) (ls : List (List Int × List UInt8)) : Prop :=
  ∃ vs : List Value, vs.length = ls.length ∧ w.ownsRow base 122 2 v ls.length (pcells ls vs) ∧
    ∀ (i : Nat) vi p, vs[i]? = some vi → ls[i]? = some p → w.ownsRow base 5 1 vi p.2.length (bys p.2) ∧ (∀ k, v.ownBlock = some k → vi.ownBlock ≠ some k) ∧ p.1.length = 1 ∧ ∀ z ∈ p.1, i64B z
theorem PO.nil_ (w : World) (base : Nat) : PO w base (.slice none 0 0) [] := ⟨[], rfl, World.ownsRow_nil _ _ _ _, fun i vi p h => by simp at h⟩
theorem PO.below {w w' : World} {base : Nat} {v : Value} {ls : List (List Int × List UInt8)} (h : PO w base v ls) (hb : Below w.heap.size w w') : PO w' base v ls := by
  obtain ⟨vs, h1, h2, h3⟩ := h
  exact ⟨vs, h1, own_below h2 hb (Nat.le_refl _), fun i vi p hv hl => ⟨own_below (h3 i vi p hv hl).1 hb (Nat.le_refl _), (h3 i vi p hv hl).2⟩⟩
theorem PO.own {w : World} {base : Nat} {v : Value} {ls : List (List Int × List UInt8)} (h : PO w base v ls) : ∃ vs, w.ownsRow base 122 2 v ls.length (pcells ls vs) := by
  obtain ⟨vs, _, h2, _⟩ := h; exact ⟨vs, h2⟩
/-- One piece more. -/
theorem PO.app {w w' : World} {base : Nat} {v v' : Value} {ls : List (List Int × List UInt8)} (vs : List Value) (h1 : vs.length = ls.length) 
    (h3 : ∀ (i : Nat) vi p, vs[i]? = some vi → ls[i]? = some p → w.ownsRow base 5 1 vi p.2.length (bys p.2) ∧ (∀ k, v.ownBlock = some k → vi.ownBlock ≠ some k) ∧ p.1.length = 1 ∧ ∀ z ∈ p.1, i64B z)
    (x : Int) (l : List UInt8) (u : Value) (hx : i64B x) (hu : w.ownsRow base 5 1 u l.length (bys l)) (hun : ∀ k, v.ownBlock = some k → u.ownBlock ≠ some k)
    (ho : w'.ownsRow base 122 2 v' (ls.length + 1) (pcells ls vs ++ [.int .i64 x, u])) (hg : w.grownBy w' v.ownBlock) (hv : v'.ownBlock = v.ownBlock ∨ v'.ownBlock = some w.heap.size) : PO w' base v' (ls ++ [([x], l)]) := by
  have kept : ∀ {z : Value} {n : Nat} {xs : List Value}, w.ownsRow base 5 1 z n xs → (∀ k, v.ownBlock = some k → z.ownBlock ≠ some k) → w'.ownsRow base 5 1 z n xs ∧ ∀ k, v'.ownBlock = some k → z.ownBlock ≠ some k := by
    intro z n xs hz hn
    refine ⟨hz.kept hg ?_, fun k hk he => ?_⟩
    · cases hzb : z.ownBlock with
      | none => exact .inl rfl
      | some k => exact .inr (fun e => hn k e.symm hzb)
    · rcases hv with e | e
      · exact hn k (by rw [← e]; exact hk) he
      · rw [e] at hk; injection hk with hk; have := (hz.lt k he).2; omega
  refine ⟨vs ++ [u], by simp [h1], ?_, fun i vi p hvi hp => ?_⟩
  · have : pcells (ls ++ [([x], l)]) (vs ++ [u]) = pcells ls vs ++ [.int .i64 x, u] := by
      unfold pcells
      rw [List.zip_append h1.symm]
      simp
    rw [this, List.length_append]
    exact ho
  · by_cases hi : i < ls.length
    · rw [List.getElem?_append_left (by omega)] at hvi
      rw [List.getElem?_append_left hi] at hp
      obtain ⟨a, b, c⟩ := h3 i vi p hvi hp
      obtain ⟨k1, k2⟩ := kept a b
      exact ⟨k1, k2, c⟩
    · rw [List.getElem?_append_right (by omega), h1] at hvi
      rw [List.getElem?_append_right (by omega)] at hp
      have hz : i - ls.length = 0 := by
        rcases Nat.eq_zero_or_pos (i - ls.length) with h | h
        · exact h
        · rw [List.getElem?_eq_none (by simp; omega)] at hp; cases hp
      rw [hz] at hvi hp
      simp at hvi hp
      subst hvi hp
      obtain ⟨k1, k2⟩ := kept hu hun
      exact ⟨k1, k2, rfl, by simpa using hx⟩
theorem pcells_at (ls : List (List Int × List UInt8)) (vs : List Value) (h : vs.length = ls.length) (i : Nat) (p : List Int × List UInt8) (u : Value) (hp : ls[i]? = some p) (hu : vs[i]? = some u) :
    (pcells ls vs)[i * 2]? = some (.int .i64 (p.1.headD 0)) ∧ (pcells ls vs)[i * 2 + 1]? = some u := by
  induction ls generalizing vs i with
  | nil => simp at hp
  | cons q r ih =>
    match vs, h with
    | v :: s, h =>
      have e : pcells (q :: r) (v :: s) = .int .i64 (q.1.headD 0) :: v :: pcells r s := by simp [pcells]
      rw [e]
      match i with
      | 0 => simp at hp hu; subst hp hu; simp
      | i + 1 =>
        simp only [List.getElem?_cons_succ] at hp hu
        have := ih s (by simpa using h) i hp hu
        rw [show (i + 1) * 2 = i * 2 + 1 + 1 by omega, show i * 2 + 1 + 1 + 1 = (i * 2 + 1) + 1 + 1 by omega]
        simpa using this
/-- What was made reads as pieces. -/
theorem PO.rd {w : World} {base : Nat} {A : Option Addr} {c n : Nat} {ls : List (List Int × List UInt8)} (h : PO w base (.slice A n c) ls) (hn : ls.length = n) : RdPcs w w.heap.size 1 A n ls := by
  obtain ⟨vs, h1, h2, h3⟩ := h
  refine ⟨hn, fun hp => ?_⟩
  rw [hn] at h2
  obtain ⟨g, c', hv, _, hlt, _⟩ := own_pos h2 hp
  injection hv with hA _ _
  subst hA
  refine ⟨g, 0, rfl, hlt, fun i p hpi => ?_⟩
  have hil : i < ls.length := by
    rcases Nat.lt_or_ge i ls.length with h | h
    · exact h
    · rw [List.getElem?_eq_none h] at hpi; cases hpi
  obtain ⟨u, hvi⟩ : ∃ u, vs[i]? = some u := ⟨_, List.getElem?_eq_getElem (by omega)⟩
  obtain ⟨a1, _, a3, a4⟩ := h3 i _ p hvi hpi
  obtain ⟨c1, c2⟩ := pcells_at ls vs h1 i p _ hpi hvi
  have hc := fun j u (hj : (pcells ls vs)[j]? = some u) => h2.cells (g := g) rfl j u hj
  refine ⟨a3, a4, fun k z hz => ?_, u, ?_, ?_⟩
  · have hk : k = 0 := by
      rcases Nat.eq_zero_or_pos k with h | h
      · exact h
      · rw [List.getElem?_eq_none (by omega)] at hz; cases hz
    subst hk
    have := hc _ _ c1
    rw [addLit] at this
    match hp1 : p.1, a3 with
    | [y], _ =>
      rw [hp1] at hz this
      simp at hz
      subst hz
      simpa using this
  · have := hc _ _ c2
    rw [addLit] at this
    simpa using this
  · obtain ⟨A', c'', hf, hcc, _⟩ := own_form a1
    rw [hf] at a1 ⊢
    exact RdB.mk (Rd.of_own a1) hcc
end Go.Proofs.YtoadamkmabkldaaGreatDoor
/- The contract of wal.Get. -/
namespace Go.Proofs.YtoadamkmabkldaaGreatDoor
open Go.RowKit
attribute [local go_sem ↓] Go.wp_at_zero Go.wp_at_succ

/-- What Get returns. -/
def WGet (l : List UInt8) (e : Ending) (w' : World) : Prop :=
  ((WE l).1 ≠ 0 ∧ e = .returned (.tuple #[.slice none 0 0, .int .i64 ((WE l).1 : Int)])) ∨
  ((WE l).1 = 0 ∧ ∃ A n c, e = .returned (.tuple #[.slice A n c, .int .i64 0]) ∧ n ≤ c ∧ RdPcs w' w'.heap.size 1 A n (WE l).2)
theorem WGet.err {l : List UInt8} {k : Nat} {w' : World} (h : WE l = (k, [])) (hk : k ≠ 0) : WGet l (.returned (.tuple #[.slice none 0 0, .int .i64 (k : Int)])) w' := .inl ⟨by rw [h]; exact hk, by rw [h]⟩

theorem Rd.pair (w : World) (t : TypeId) (u v : Value) : Rd (w.alloc (.cells #[u, v] t)) (w.heap.size + 1) 2 (some ⟨w.heap.size, 0, none⟩) 1 [u, v] := by
  have h := Rd.lits w t #[u, v] (n := 2) rfl (fr := (0, 0))
  refine ⟨rfl, fun _ => ?_⟩
  exact h.2 (by omega)
theorem slice_one {A : Option Addr} {n c : Nat} : (Value.slice A n c).oneCell' = true := rfl
/-- append of one piece, at this program. -/
theorem ap_wr {w w0 : World} {ops : Array Oper} {rest : List Oper} {a : Act} {Q : Exit → Act → World → Prop} {d : Option Tmp} {ty : TypeId} {pos : String} {af : Array Edge} {g : Option (Nat × Bool)} {s x : Operand} {base : Nat}
    {v : Value} {n : Nat} {xs : List Value} (hown : w.ownsRow base 122 2 v n xs) {B : Nat} {A : Option Addr} {c : Nat} {z : Int} {Au : Option Addr} {nu cu : Nat} (hr : Rd w B 2 A 1 [.int .i64 z, .slice Au nu cu])
    (hb : Below base w0 w) (hbase : base ≤ w.heap.size) (hbytes : n ≤ 1000000)
    (hs : a.eval s = v) (hx : a.eval x = .slice A 1 c)
    (hw : Region.wanted { dst := d, op := .call { callee := .builtin .append, args := #[s, x], argTypes := #[96, 96] }, type := ty, pos := pos, after := af, guard := g } (yielded ops a.tmps) = true)
    (h : ∀ v' w', w'.ownsRow base 122 2 v' (n + 1) (xs ++ [.int .i64 z, .slice Au nu cu]) → Below base w0 w' → w.grownBy w' v.ownBlock → (v'.ownBlock = v.ownBlock ∨ v'.ownBlock = some w.heap.size) → wpList Tryz.prog ops Q rest (a.put d v') w') :
    wpList Tryz.prog ops Q ({ dst := d, op := .call { callee := .builtin .append, args := #[s, x], argTypes := #[96, 96] }, type := ty, pos := pos, after := af, guard := g } :: rest) a w := by
  obtain ⟨i0, hi, hz0, hz1, hz2⟩ := info_parts infoW
  exact ap_any Tryz.underlying96 hi hz0 hz1 hz2 rfl (by decide) hown hr (by intro u hu; simp at hu; rcases hu with rfl | rfl <;> rfl) hb hbase (by omega) hs hx hw h

set_option maxHeartbeats 4000000 in
set_option maxRecDepth 100000 in
theorem wget_any (A : Option Addr) (n c : Nat) (l : List UInt8) (w : World) (hr : Rd w w.heap.size 1 A n (bys l)) (hnc : n ≤ c) (hn : n ≤ 1000000000) :
    Calls Tryz.prog 59 #[.slice A n c] w fun e w' => WGet l e w' ∧ Below w.heap.size w w' := by
  have hl := hr.blen
  by_cases h4 : l.length < 4
  · have hw := WE_short h4
    have Hw := Lib.hid hw
    have hn4 : n < 4 := by omega
    clear hw h4 hl
    go_enter Tryz.func59, Tryz.ntmps59
    go_wp2_with fail
    refine (cut_end A n c 0 4 w (by omega) (by omega) (by omega) (.inr ⟨by omega, by omega⟩)).mono ?_
    rintro e w1 ⟨rfl, rfl⟩
    go_wp2
    go_ret2
    exact ⟨WGet.err Hw.out (by decide), Below.refl _ _⟩
  have H4 := Lib.hid h4
  have Hl := Lib.hid hl
  have hn4 : 4 ≤ n := by omega
  have hcut := cut_ok A n c 0 4 l w hr hnc (by omega) (by omega)
  rw [List.drop_zero] at hcut
  have hC : ∀ (w1 : World) (v1 : Value), w1.ownsRow w.heap.size 5 1 v1 4 (bys (l.take 4)) → ∃ A1 c1, v1 = .slice A1 4 c1 ∧ (convert 22 9 (.slice A1 4 c1)).run Tryz.prog w1 = .ok (.string ⟨(l.take 4).toArray⟩) w1 := by
    intro w1 v1 h1
    obtain ⟨A1, c1, rfl, _, _⟩ := own_form h1
    exact ⟨A1, c1, rfl, conv_bys (Rd.of_own h1)⟩
  have HC := Lib.hid hC
  have Hcut := Lib.hid hcut
  clear hC hcut h4 hl
  by_cases hm : l.take 4 = wmark
  · have hmb : (l.take 4 == [105, 113, 106, 49]) = true := by rw [hm]; decide
    have Hm := Lib.hid hm
    clear hm
    go_enter Tryz.func59, Tryz.ntmps59
    go_wp2_with fail
    refine Hcut.out.mono ?_
    rintro e w1 ⟨v1, rfl, hown1, hb1⟩
    obtain ⟨A1, c1, rfl, hq⟩ := HC.out w1 v1 hown1
    clear hown1 HC Hcut
    go_wp2_with fail
    clear hq hmb
    by_cases h8 : n < 8
    · have hw := WE_8 H4.out Hm.out (by rw [Hl.out]; exact h8)
      have Hw := Lib.hid hw
      clear hw
      refine (get_end A n c 4 4 w1 (by omega) (by omega) (by have : wid 4 = 4 := rfl; omega)).mono ?_
      rintro e w2 ⟨rfl, rfl⟩
      go_wp2
      go_ret2
      exact ⟨WGet.err Hw.out (by decide), hb1⟩
    · have hg := get_ok A n c 4 4 l w1 ((hr.below hb1 (Nat.le_refl _)).more hb1.size) hnc (by have : wid 4 = 4 := rfl; omega) (by omega)
      have w4 : (wid 4).toNat = 4 := rfl
      rw [w4] at hg
      have hnb := num4_bd l 4
      have hnum : leN ((l.drop 4).take 4) = num4 l 4 := rfl
      rw [hnum] at hg
      have H8 : Hid (¬ l.length < 8) := Lib.hid (by rw [Hl.out]; exact h8)
      obtain ⟨K, hK⟩ : ∃ K : Nat, num4 l 4 = K := ⟨(num4 l 4).toNat, by omega⟩
      have hKt : (num4 l 4).toNat = K := by omega
      have HK := Lib.hid hK
      have HKt := Lib.hid hKt
      rw [hK] at hg
      clear w4 hnum hnb hK hKt
      refine hg.mono ?_
      rintro e w2 ⟨rfl, hb2⟩
      have hbe2 := hb1.trans (hb2.mono hb1.size)
      clear hg hb1 hb2
      by_cases hmany : 4096 < K
      · have hw := WE_many H4.out Hm.out H8.out (by rw [HK.out]; omega)
        have Hw := Lib.hid hw
        clear hw
        go_wp2
        go_ret2
        exact ⟨WGet.err Hw.out (by decide), hbe2⟩
      · have hsz : wsz (K : Int) = 12 + 516 * (K : Int) := by unfold wsz; rw [if_neg (by omega)]
        have Hsz := Lib.hid hsz
        clear hsz
        go_wp2_with fail
        refine (wsize_any K w2).mono ?_
        rintro e w3 ⟨rfl, rfl⟩
        rw [Hsz.out]
        by_cases hsh : n < 12 + 516 * K
        · have hw := WE_size H4.out Hm.out H8.out (by rw [HK.out]; omega) (by rw [HKt.out, Hl.out]; exact hsh)
          have Hw := Lib.hid hw
          have hsh2 : (n : Int) < 12 + 516 * (K : Int) := by omega
          clear hw hsh
          go_wp2
          go_ret2
          exact ⟨WGet.err Hw.out (by decide), hbe2⟩
        · have hsh2 : ¬ (n : Int) < 12 + 516 * (K : Int) := by omega
          go_wp2_with fail
          refine (wsize_any K w2).mono ?_
          rintro e w3 ⟨rfl, rfl⟩
          rw [Hsz.out]
          go_wp2_with fail
          obtain ⟨E, hE⟩ : ∃ E : Nat, 8 + 516 * K = E := ⟨_, rfl⟩
          have hEn : E + 4 ≤ n := by omega
          rw [show (12 : Int) + 516 * (K : Int) - 4 = (E : Int) by omega]
          have HE := Lib.hid hE
          have hrW := fun (W : World) (hb : Below w.heap.size w W) => (hr.below hb (Nat.le_refl _)).more hb.size
          have HrW := Lib.hid hrW
          have hcutE : Rd w w.heap.size 1 A E (bys (l.take E)) := by
            have := hr.bcut (k := 0) (m := E) (by omega) (A' := A) (fun _ => by
              obtain ⟨b, o, rfl, _⟩ := hr.2 (by omega)
              simp [addLit])
            rwa [List.drop_zero] at this
          have hEl : (l.take E).length = E := by rw [List.length_take, Hl.out]; omega
          have hg2 := get_ok A n c E 4 l w2 (hrW w2 hbe2) hnc (by have : wid 4 = 4 := rfl; omega) (by omega)
          have w4 : (wid 4).toNat = 4 := rfl
          have hnum : leN ((l.drop E).take 4) = num4 l E := rfl
          rw [w4, hnum] at hg2
          have hEl2 := Lib.hid hEl
          clear w4 hnum hE hrW hEl
          refine hg2.mono ?_
          rintro e w3 ⟨rfl, hb3⟩
          have hbe3 := hbe2.trans (hb3.mono hbe2.size)
          have hcr := crcof_any _ 1 1 [l.take E] _ ((RdRows.one w3 22 (RdB.mk ((hcutE.below hbe3 (Nat.le_refl _)).more hbe3.size) (show E ≤ c by omega)) (Nat.le_refl _)).more (B' := (w3.alloc (.cells #[.slice A E c] 22)).heap.size) (by simp)) (by omega) (by simp [hEl2.out]; omega)
          have hfl : [l.take E].flatten = l.take E := by simp
          rw [hfl] at hcr
          clear hg2 hb3 hbe2 hfl
          go_wp2_with fail
          refine hcr.mono ?_
          rintro e w5 ⟨rfl, hb5⟩
          have hbe5 : Below w.heap.size w w5 := (hbe3.alloc hbe3.size _).trans (hb5.mono (by have := hbe3.size; rw [asz1]; omega))
          have hnE := num4_bd l E
          have hCE := (crcOf (l.take E)).isLt
          clear hcr hb5 hbe3
          by_cases hsum : num4 l E = ((crcOf (l.take E)).toNat : Int)
          · have hsb : (num4 l E != ((crcOf (l.take E)).toNat : Int)) = false := by rw [bne_eq_false_iff_eq]; exact hsum
            have Hsum := Lib.hid hsum
            clear hsum
            generalize num4 l E = y1 at hsb hnE ⊢
            generalize (crcOf (l.take E)).toNat = y2 at hsb hCE ⊢
            go_wp2_with fail
            go_loopw [10, 11] (fun out at_ wr => ∃ j : Nat, j ≤ K ∧ at_ = .int .i64 ((8 + 516 * j : Nat) : Int) ∧ PO wr w.heap.size out (pieces l j) ∧ Below w.heap.size w wr) (fun _ at_ _ => E - (intOf at_).toNat)
            case atStart => exact ⟨0, Nat.zero_le _, rfl, PO.nil_ _ _, hbe5⟩
            case round =>
              obtain ⟨j, hj, rfl, hpo, hbw⟩ := hrel
              clear hbe5
              by_cases hlt : j < K
              · obtain ⟨a, ha⟩ : ∃ a : Nat, 8 + 516 * j = a := ⟨_, rfl⟩
                rw [ha]
                have haE : a + 516 ≤ E := by have := HE.out; omega
                have haE2 : (a : Int) < (E : Int) := by omega
                have hg := get_ok A n c a 4 l wr (HrW.out wr hbw) hnc (by have : wid 4 = 4 := rfl; omega) (by omega)
                have w4 : (wid 4).toNat = 4 := rfl
                have hnum : leN ((l.drop a).take 4) = num4 l a := rfl
                rw [w4, hnum] at hg
                have hpc : piece l j = ([num4 l a], (l.drop (a + 4)).take 512) := by unfold piece; rw [ha]
                have hps := pieces_succ l j
                rw [hpc] at hps
                have hlen : ((l.drop (a + 4)).take 512).length = 512 := by rw [List.length_take, List.length_drop, Hl.out]; omega
                have hnb := num4_bd l a
                have Hps := Lib.hid hps
                have Hlen := Lib.hid hlen
                have Ha := Lib.hid ha
                clear w4 hnum hpc hps hlen ha
                generalize num4 l a = x at *
                go_wp2_with fail
                refine hg.mono ?_
                rintro e w6 ⟨rfl, hb6⟩
                have hbe6 := hbw.trans (hb6.mono hbw.size)
                have hpo6 := hpo.below hb6
                have hcut := cut_ok A n c (a + 4) 512 l w6 (HrW.out w6 hbe6) hnc (by omega) (by omega)
                rw [show ((a + 4 : Nat) : Int) = (a : Int) + 4 by omega] at hcut
                clear hg hb6 hbw hpo
                generalize (l.drop (a + 4)).take 512 = M at *
                go_wp2_with fail
                refine hcut.mono ?_
                rintro e w7 ⟨v7, rfl, hown7, hb7⟩
                obtain ⟨A7, c7, rfl, _, _⟩ := own_form hown7
                have hbe7 := hbe6.trans (hb7.mono hbe6.size)
                have hpo7 := hpo6.below hb7
                have hfar : ∀ v k, PO w6 w.heap.size v (pieces l j) → v.ownBlock = some k → (Value.slice A7 512 c7).ownBlock ≠ some k := by
                  intro v k hp hk he
                  obtain ⟨vs, _, h2, _⟩ := hp
                  have h3 := (h2.lt k hk).2
                  have h4 := (hown7.lt k he).1
                  omega
                have hfar2 := fun k => hfar _ k hpo6
                have hown7' := own_base hown7 hbe6.size
                obtain ⟨vs, hv1, hv2, hv3⟩ := hpo7
                have Hfar := Lib.hid hfar2
                have Hv3 := Lib.hid hv3
                have Hown7 := Lib.hid hown7'
                have Hv1 := Lib.hid hv1
                rw [pieces_len] at hv2
                clear hcut hown7 hb7 hbe6 hpo6 hfar hfar2 hv3 hown7' hv1
                go_wp2_with (
                  at_builtin
                  refine ap_wr (hv2.alloc _) (Rd.pair w7 _ (.int .i64 x) (.slice A7 512 c7)) (hbe7.alloc hbe7.size _) (by have := hbe7.size; rw [asz1]; omega) (by omega) rfl rfl rfl ?_
                  intro v8 w8 hown8 hb8 hg8 hv8)
                have hpo8 : PO w8 w.heap.size v8 (pieces l (j + 1)) := by
                  rw [Hps.out]
                  exact PO.app (w := w7.alloc _) vs Hv1.out (fun i vi p hvi hp => ⟨((Hv3.out i vi p hvi hp).1).alloc _, (Hv3.out i vi p hvi hp).2⟩) x M _ ⟨by omega, by omega⟩ (by rw [Hlen.out]; exact Hown7.out.alloc _) Hfar.out (by rw [pieces_len]; exact hown8) hg8 hv8
                go_roundw
                case rel => exact ⟨j + 1, by omega, congrArg (Value.int .i64) (by have := Ha.out; omega), hpo8, hb8⟩
                case measure => simp [intOf]; omega
              · have : j = K := by omega
                subst this
                have hEE : ¬ ((8 + 516 * j : Nat) : Int) < (E : Int) := by have := HE.out; omega
                obtain ⟨vs, hvs⟩ := hpo.own
                rw [pieces_len] at hvs
                obtain ⟨Ao, co, rfl, hco, _⟩ := own_form hvs
                have hrd := hpo.rd (pieces_len l j)
                have hri := rising_any Ao j co (pieces l j) wr hrd (by omega)
                have Hrd := Lib.hid hrd
                clear hrd hvs hpo
                obtain ⟨a, ha⟩ : ∃ a : Nat, 8 + 516 * j = a := ⟨_, rfl⟩
                rw [ha] at hEE ⊢
                clear ha
                cases hb : risB (-1) (nosOf (pieces l j)) with
                | false =>
                  have hw := WE_ris H4.out Hm.out H8.out (by rw [HK.out]; omega) (by rw [HKt.out, Hl.out]; omega) (by rw [HKt.out, HE.out]; exact Hsum.out) (by rw [HKt.out]; exact hb)
                  rw [hb] at hri
                  have Hw := Lib.hid hw
                  clear hw hb
                  go_wp2_with fail
                  refine hri.mono ?_
                  rintro e w6 ⟨rfl, hb6⟩
                  go_wp2
                  go_ret2
                  exact ⟨WGet.err Hw.out (by decide), hbw.trans (hb6.mono hbw.size)⟩
                | true =>
                  have hw := WE_ok H4.out Hm.out H8.out (by rw [HK.out]; omega) (by rw [HKt.out, Hl.out]; omega) (by rw [HKt.out, HE.out]; exact Hsum.out) (by rw [HKt.out]; exact hb)
                  rw [HKt.out] at hw
                  rw [hb] at hri
                  have Hw := Lib.hid hw
                  clear hw hb
                  go_wp2_with fail
                  refine hri.mono ?_
                  rintro e w6 ⟨rfl, hb6⟩
                  go_wp2
                  go_ret2
                  refine ⟨.inr ⟨by rw [Hw.out], Ao, j, co, rfl, hco, ?_⟩, hbw.trans (hb6.mono hbw.size)⟩
                  rw [Hw.out]
                  exact (Hrd.out.below hb6 (Nat.le_refl _)).more hb6.size
          · have hsb : (num4 l E != ((crcOf (l.take E)).toNat : Int)) = true := by rw [bne_iff_ne]; exact hsum
            have hw := WE_sum H4.out Hm.out H8.out (by rw [HK.out]; omega) (by rw [HKt.out, Hl.out]; omega) (by rw [HKt.out, HE.out]; exact hsum)
            have Hw := Lib.hid hw
            clear hw hsum
            generalize num4 l E = y1 at *
            generalize (crcOf (l.take E)).toNat = y2 at *
            go_wp2
            go_ret2
            exact ⟨WGet.err Hw.out (by decide), hbe5⟩
  · have hmb : (l.take 4 == [105, 113, 106, 49]) = false := by rw [beq_eq_false_iff_ne]; exact hm
    have hw := WE_mark H4.out hm
    have Hw := Lib.hid hw
    clear hm hw
    go_enter Tryz.func59, Tryz.ntmps59
    go_wp2_with fail
    refine Hcut.out.mono ?_
    rintro e w1 ⟨v1, rfl, hown1, hb1⟩
    obtain ⟨A1, c1, rfl, hq⟩ := HC.out w1 v1 hown1
    clear hown1 HC Hcut
    go_wp2
    go_ret2
    exact ⟨WGet.err Hw.out (by decide), hb1⟩
end Go.Proofs.YtoadamkmabkldaaGreatDoor
