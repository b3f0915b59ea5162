/- The contract of huff.New. -/
import Derived.Test.YtnedboomhbdecaaHuf1
import Derived.Deep.RegionLaw
import Derived.Deep.RegionHeld3
import Derived.Deep.DrawnRows
namespace Go.Proofs.Ytnedboomhbdecaa
open Go.RowKit
attribute [local go_sem ↓] Go.wp_at_zero Go.wp_at_succ

/-- append of ints, at a step of a region that draws its order. -/
theorem ap_its_step {w : World} {ops : Array Oper} {a : Act} {K : Act → World → Prop} {Q : Exit → Act → World → Prop} {E : Prop} {d : Option Tmp} {ty : TypeId} {pos : String} {af : Array Edge} {s x : Operand} {base : Nat}
    {v : Value} {n : Nat} {xs : List Int} {B : Nat} {A : Option Addr} {m c : Nat} {news : List Int} (hown : w.ownsRow base 3 1 v n (its xs)) (hr : Rd w B 1 A m (its news))
    (hbase : base ≤ w.heap.size) (hbytes : n + m ≤ 1000000)
    (hs : a.eval s = v) (hx : a.eval x = .slice A m c)
    (h : ∀ v' w', w'.ownsRow base 3 1 v' (n + m) (its (xs ++ news)) → Below base w w' → w.grownBy w' v.ownBlock → (v'.ownBlock = v.ownBlock ∨ v'.ownBlock = some w.heap.size) → K (a.put d v') w') :
    if Region.wanted { dst := d, op := .call { callee := .builtin .append, args := #[s, x], argTypes := #[32, 32] }, type := ty, pos := pos, after := af, guard := none } (yielded ops a.tmps) = true then
      Oper.wp Try.prog { dst := d, op := .call { callee := .builtin .append, args := #[s, x], argTypes := #[32, 32] }, type := ty, pos := pos, after := af, guard := none } a w K Q else E := by
  obtain ⟨i0, hi, hz0, hz1, hz2⟩ := info_parts infoI
  rw [if_pos (by simp [Region.wanted])]
  obtain ⟨v', w', hrun, h2, h3, h4⟩ := run_append_rd (P := Try.prog) w base 32 ty 3 i0 (.int .i64 0) 1 8 Try.underlying32 hi hz0 hz1 hz2 rfl (by decide) v n (its xs) hown B A m c (its news) hr (its_one _) (by unfold maxLen; omega) (by omega) hbase
  unfold Oper.wp execOp
  simp only [resolve, invoke, builtin, Sem.run_bind, Sem.run_pure, Result.andThen_ok, List.map_toArray, List.map_cons, List.map_nil, hs, hx, hrun]
  exact h v' w' (by rw [its_app]; exact h2) ((Below.refl _ _).grown h3 hbase (fun k hk => (hown.lt k hk).1)) h3 h4
theorem own_heap {w w' : World} {base s n : Nat} {e : TypeId} {v : Value} {xs : List Value} (h : w.ownsRow base e s v n xs) (hw : w'.heap = w.heap) : w'.ownsRow base e s v n xs := by
  unfold World.ownsRow at h ⊢; rw [hw]; exact h
theorem bk_heap {w w' : World} {g : Nat} {t : TypeId} {cs : Array Value} (h : Bk w g t cs) (hw : w'.heap = w.heap) : Bk w' g t cs := by unfold Bk at h ⊢; rw [hw]; exact h
theorem rd_heap {w w' : World} {B s n : Nat} {A : Option Addr} {xs : List Value} (h : Rd w B s A n xs) (hw : w'.heap = w.heap) : Rd w' B s A n xs := h.keep fun p _ => by simp only [World.cell?, hw]

theorem Fam.congr {w : World} {base : Nat} {vs : Nat → Value} {cs ds : Nat → List Int} (h : Fam w base vs cs) (he : ∀ n, n < 16 → cs n = ds n) : Fam w base vs ds := ⟨fun n hn => by rw [← he n hn]; exact h.1 n hn, h.2⟩
/-- The first loop's state. -/
def HL1 (w : World) (l : List Int) (A : Option Addr) (n c g j : Nat) (wr : World) : Prop :=
  ∃ vs, Bk wr g 86 (codeC vs (fun _ => 0) (.slice A n c) 1) ∧ Fam wr (g + 1) vs (fun k => symsTo l (k : Int) j) ∧ Rd wr g 1 A n (its l) ∧ Below w.heap.size w wr ∧ w.heap.size ≤ g
theorem HL1.step {w W w8 : World} {l : List Int} {A : Option Addr} {n c g j k : Nat} {vs : Nat → Value} {v8 : Value} (hbk : Bk W g 86 (codeC vs (fun _ => 0) (.slice A n c) 1)) (hf : Fam W (g + 1) vs (fun k => symsTo l (k : Int) j)) (hrd : Rd W g 1 A n (its l)) (hb : Below w.heap.size w W) (hg : w.heap.size ≤ g)
    (hk : k < 16) (hx : l[j]? = some (k : Int)) (hb8 : Below (g + 1) W w8) (ho : w8.ownsRow (g + 1) 3 1 v8 ((symsTo l (k : Int) j).length + 1) (its (symsTo l (k : Int) j ++ [(j : Int)]))) (hg8 : W.grownBy w8 (vs k).ownBlock) (hv : v8.ownBlock = (vs k).ownBlock ∨ v8.ownBlock = some W.heap.size) :
    HL1 w l A n c g (j + 1) (w8.setCell ⟨g, k * 2, none⟩ v8) := by
  have hs := symsTo_yes hx
  have hG := (hbk.below hb8 (Nat.lt_succ_self g)).set (k * 2) v8
  rw [codeC_setrow _ _ _ _ _ hk] at hG
  refine ⟨upd vs k v8, hG, ?_, ?_, (hb.trans (hb8.mono (by omega))).setCell (p := ⟨g, k * 2, none⟩) hg _, hg⟩
  · refine ((hf.step hk (xs := symsTo l (k : Int) (j + 1)) (by rw [hs, List.length_append]; exact ho) hg8 hv).below_set (Nat.lt_succ_self g) _ _).congr (fun m hm => ?_)
    by_cases e : m = k
    · subst e; rw [upd_same]
    · rw [upd_ne _ e, symsTo_no]
      rw [hx]; intro e2; injection e2 with e2; omega
  · exact (hrd.below hb8 (by omega)).setCell (p := ⟨g, k * 2, none⟩) (Nat.le_refl _) _

set_option maxHeartbeats 1000000 in
theorem hnew_many (A : Option Addr) (n c : Nat) (w : World) (hn : 320 < n) :
    Calls Try.prog 23 #[.slice A n c] w fun e w' => e = .returned (.tuple #[.pointer none, .int .i64 1]) ∧ Below w.heap.size w w' := by
  go_enter Try.func23, Try.ntmps23
  go_wp2
  go_ret2
  exact ⟨rfl, Below.refl _ _⟩
/-- What New returns. -/
def HNew (l : List Int) (e : Ending) (w' : World) : Prop :=
  (mayB l = false ∧ e = .returned (.tuple #[.pointer none, .int .i64 1])) ∨ (mayB l = true ∧ overTo l 15 = true ∧ e = .returned (.tuple #[.pointer none, .int .i64 12])) ∨
  (mayB l = true ∧ overTo l 15 = false ∧ ∃ g, e = .returned (.tuple #[.pointer (some ⟨g, 0, none⟩), .int .i64 0]) ∧ HCode w' l g)
theorem may_no {l : List Int} {j : Nat} {x : Int} (h : l[j]? = some x) (hx : x < 0 ∨ 15 < x) : mayB l = false := by
  unfold mayB
  rw [Bool.and_eq_false_iff]
  left
  rw [List.all_eq_false]
  exact ⟨x, List.mem_of_getElem? h, by simp; omega⟩

/-- The second loop's state: below q the first codes are laid. -/
def HL2 (w : World) (l : List Int) (A : Option Addr) (n c g : Nat) (vs : Nat → Value) (q : Nat) (wr : World) : Prop :=
  ∃ fs : Nat → Int, Bk wr g 86 (codeC vs fs (.slice A n c) 1) ∧ Fam wr (g + 1) vs (fun k => syms l (k : Int)) ∧ Rd wr g 1 A n (its l) ∧ Below w.heap.size w wr ∧ w.heap.size ≤ g ∧ ∀ k, k < 16 → fs k = if 1 ≤ k ∧ k < q then (firstC l k : Int) else 0
theorem codeC_congr {vs : Nat → Value} {fs gs : Nat → Int} {lv : Value} {fill : Int} (h : ∀ k, k < 16 → fs k = gs k) : codeC vs fs lv fill = codeC vs gs lv fill := by
  unfold codeC
  rw [h 0 (by omega), h 1 (by omega), h 2 (by omega), h 3 (by omega), h 4 (by omega), h 5 (by omega), h 6 (by omega), h 7 (by omega), h 8 (by omega), h 9 (by omega), h 10 (by omega), h 11 (by omega), h 12 (by omega), h 13 (by omega), h 14 (by omega), h 15 (by omega)]
theorem HL2.step {w wr : World} {l : List Int} {A : Option Addr} {n c g : Nat} {vs : Nat → Value} {fs : Nat → Int} {q : Nat} (hq : 1 ≤ q) (hq16 : q < 16) (h1 : Bk wr g 86 (codeC vs fs (.slice A n c) 1)) (h2 : Fam wr (g + 1) vs (fun k => syms l (k : Int))) (h3 : Rd wr g 1 A n (its l)) (h4 : Below w.heap.size w wr) (h5 : w.heap.size ≤ g)
    (h6 : ∀ k, k < 16 → fs k = if 1 ≤ k ∧ k < q then (firstC l k : Int) else 0) {x : Int} (hx : x = firstC l q) : HL2 w l A n c g vs (q + 1) (wr.setCell ⟨g, q * 2 + 1, none⟩ (.int .i64 x)) := by
  have hG := h1.set (q * 2 + 1) (.int .i64 x)
  rw [codeC_setfirst _ _ _ _ _ hq16] at hG
  refine ⟨upd fs q x, hG, h2.below_set (Nat.lt_succ_self g) _ _, h3.setCell (p := ⟨g, q * 2 + 1, none⟩) (Nat.le_refl _) _, h4.setCell (p := ⟨g, q * 2 + 1, none⟩) h5 _, h5, fun k hk => ?_⟩
  by_cases e : k = q
  · subst e; rw [upd_same, if_pos ⟨hq, by omega⟩, hx]
  · rw [upd_ne _ e, h6 k hk]
    by_cases h : 1 ≤ k ∧ k < q
    · rw [if_pos h, if_pos ⟨h.1, by omega⟩]
    · rw [if_neg h, if_neg (fun h' => h ⟨h'.1, by omega⟩)]
/-- Behind both loops it is a Code. -/
theorem HL2.done {wr : World} {l : List Int} {A : Option Addr} {n c g : Nat} {vs : Nat → Value} {fs : Nat → Int} (fill : Int) (hn : n = l.length) (hnc : n ≤ c) (h1 : Bk wr g 86 (codeC vs fs (.slice A n c) fill)) (hf : fill = fillN l) (h2 : Fam wr (g + 1) vs (fun k => syms l (k : Int))) (h3 : Rd wr g 1 A n (its l))
    (h6 : ∀ k, k < 16 → fs k = if 1 ≤ k ∧ k < 16 then (firstC l k : Int) else 0) : HCode wr l g := by
  have hfs : ∀ k, k < 16 → fs k = (firstC l k : Int) := fun k hk => by
    rw [h6 k hk]
    rcases Nat.eq_zero_or_pos k with h | h
    · subst h; rfl
    · rw [if_pos ⟨h, hk⟩]
  rw [codeC_congr hfs] at h1
  subst hf
  refine ⟨vs, A, n, c, h1, hn, hnc, h3.more (Nat.le_of_lt h1.lt), fun k hk => ?_⟩
  obtain ⟨B, d, e, hd, _⟩ := own_form (h2.1 k hk)
  have := h2.1 k hk
  rw [e] at this
  exact ⟨B, _, d, e, hd, Rd.of_own this⟩

theorem wrap_pow (q : Nat) (h : q < 16) : wrap64 ((2 : Int) ^ q) = ((2 ^ q : Nat) : Int) := by
  have h1 : ((2 : Int) ^ q) = ((2 ^ q : Nat) : Int) := by simp
  have h2 : 2 ^ q ≤ 32768 := Nat.pow_le_pow_right (show 0 < 2 by omega) (show q ≤ 15 by omega)
  rw [h1]
  generalize 2 ^ q = P at *
  exact IntWalk.wrap64_in _ (by omega)
set_option maxHeartbeats 4000000 in
set_option maxRecDepth 100000 in
theorem hnew_in (A : Option Addr) (n c : Nat) (l : List Int) (w : World) (hr : Rd w w.heap.size 1 A n (its l)) (hn : n ≤ 320) :
    Calls Try.prog 23 #[.slice A n c] w fun e w' => HNew l e w' ∧ Below w.heap.size w w' := by
  have hl := hr.ilen
  have Hl := Lib.hid hl
  clear hl
  go_enter Try.func23, Try.ntmps23
  go_wp2_with fail
  refine (clone_any A n c l w hr (by omega)).mono ?_
  rintro e w1 ⟨v1, rfl, hown1, hb1⟩
  obtain ⟨A1, c1, rfl, hc1, _⟩ := own_form hown1
  have hrd1 := Rd.of_own hown1
  have hbk1 := Bk.new w1 86 (codeC (fun _ => .slice none 0 0) (fun _ => 0) (.slice A1 n c1) 1)
  have hst : HL1 w l A1 n c1 w1.heap.size 0 (w1.alloc (.cells (codeC (fun _ => .slice none 0 0) (fun _ => 0) (.slice A1 n c1) 1) 86)) :=
    ⟨_, hbk1, (Fam.start _ _).congr (fun _ _ => rfl), hrd1.alloc (Nat.le_refl _) _, hb1.alloc hb1.size _, hb1.size⟩
  have Hst := Lib.hid hst
  clear hown1 hrd1 hbk1 hb1 hst
  go_wp2_with fail
  generalize hG : w1.heap.size = g at *
  clear hG
  go_loopw [18] (fun i wr => ∃ j : Nat, j ≤ n ∧ i = .int .i64 j ∧ Hid (∀ x ∈ l.take j, 0 ≤ x ∧ x ≤ 15) ∧ HL1 w l A1 n c1 g j wr) (fun i _ => n - (intOf i).toNat)
  case atStart => exact ⟨0, Nat.zero_le _, rfl, Lib.hid (by simp), Hst.out⟩
  case round =>
    obtain ⟨j, hj, rfl, hall, hst⟩ := hrel
    clear Hst
    obtain ⟨vs, hbk, hfam, hrd, hbw, hwg⟩ := hst
    by_cases hlt : j < n
    · obtain ⟨b, o, x, rfl, hbb, hx, hcx⟩ := (hr.below hbw (Nat.le_refl _)).num hlt
      by_cases hx0 : x < 0
      · have hno := may_no hx (.inl hx0)
        have Hno := Lib.hid hno
        have g1 : decide (x < 0) = true := by simpa using hx0
        clear hno hx hfam hrd hbk
        go_wp2
        go_ret2
        exact ⟨.inl ⟨Hno.out, rfl⟩, hbw⟩
      have g1 : decide (x < 0) = false := by simpa using hx0
      by_cases hx15 : 15 < x
      · have hno := may_no hx (.inr hx15)
        have Hno := Lib.hid hno
        have g2 : decide (15 < x) = true := by simpa using hx15
        clear hno hx hfam hrd hbk
        go_wp2
        go_ret2
        exact ⟨.inl ⟨Hno.out, rfl⟩, hbw⟩
      have g2 : decide (15 < x) = false := by simpa using hx15
      obtain ⟨k, rfl⟩ : ∃ k : Nat, x = k := ⟨x.toNat, by omega⟩
      have hk : k < 16 := by omega
      have hts := take_step hx
      have hall' : ∀ y ∈ l.take (j + 1), 0 ≤ y ∧ y ≤ 15 := by
        rw [hts]; intro y hy
        rcases List.mem_append.1 hy with h | h
        · exact hall.out y h
        · simp at h; subst h; omega
      have Hall := Lib.hid hall'
      have hc0 := hbk.cell (k * 2)
      rw [codeC_row _ _ _ _ _ hk] at hc0
      have hf0 := hbk.free (k * 2)
      obtain ⟨hf1, hf2⟩ := hfam
      have hownk := hf1 k hk
      have hcnt : (symsTo l (k : Int) j).length ≤ j := cntTo_le l _ j
      obtain ⟨Ak, ck, hvk, hck, _⟩ := own_form hownk
      have hA : ∀ W : World, W.heap = (wr.alloc (.cells #[.int .i64 (j : Int)] 3)).heap → W.ownsRow (g + 1) 3 1 (vs k) (symsTo l (k : Int) j).length (its (symsTo l (k : Int) j)) ∧ Rd W (wr.heap.size + 1) 1 (some ⟨wr.heap.size, 0, none⟩) 1 (its [(j : Int)]) ∧ g + 1 ≤ W.heap.size := by
        intro W hW
        refine ⟨own_heap (hownk.alloc _) hW, rd_heap (Rd.oneI wr 3 (j : Int)) hW, by rw [hW]; simp; have := hbk.lt; omega⟩
      have hF : ∀ W W8 : World, W.heap = (wr.alloc (.cells #[.int .i64 (j : Int)] 3)).heap → Below (g + 1) W W8 → W8.cell? ⟨g, k * 2, none⟩ = some (vs k) ∧ W8.frozen? ⟨g, k * 2, none⟩ = false := by
        intro W W8 hW hb
        have h1 := (bk_heap (hbk.alloc _) hW).below hb (Nat.lt_succ_self _)
        have h2 := h1.cell (k * 2)
        rw [codeC_row _ _ _ _ _ hk] at h2
        exact ⟨h2, h1.free _⟩
      have HF := Lib.hid hF
      have HA := Lib.hid hA
      have Hfam : Hid (Fam wr (g + 1) vs (fun k => symsTo l (k : Int) j)) := Lib.hid ⟨hf1, hf2⟩
      have Hbk := Lib.hid hbk
      have Hx := Lib.hid hx
      have hcA := (hbk.alloc (.cells #[.int .i64 (j : Int)] 3)).cell (k * 2)
      rw [codeC_row _ _ _ _ _ hk] at hcA
      rw [hvk] at hc0 hcA
      have Hvk := Lib.hid hvk
      have e1 : (0 : Int) ≤ (k : Int) := by omega
      have e2 : (k : Int) < 16 := by omega
      clear hx hts hall' hf1 hf2 hbk hF hA hvk hownk hall
      go_wp2_with fail
      go_region_law (first
        | (refine ap_its_step (v := .slice Ak (symsTo l (k : Int) j).length ck) (n := (symsTo l (k : Int) j).length) (xs := symsTo l (k : Int) j) (news := [(j : Int)]) (A := some ⟨wr.heap.size, 0, none⟩) (m := 1) (B := wr.heap.size + 1) (base := g + 1) (by rw [← Hvk.out]; exact (HA.out _ rfl).1) (by exact (HA.out _ rfl).2.1) (by exact (HA.out _ rfl).2.2) (by omega) (by rfl) (by rfl) ?_; intro v8 w8 hown8 hb8 hg8 hv8; obtain ⟨hc8, hf8⟩ := HF.out _ w8 (by first | rfl | exact rfl) hb8; obtain ⟨A8, c8, rfl, _, _⟩ := own_form hown8))
      all_goals
        have hst' : HL1 w l A1 n c1 g (j + 1) (w8.setCell ⟨g, k * 2, none⟩ (.slice A8 ((symsTo l (k : Int) j).length + 1) c8)) := HL1.step (by exact Hbk.out.alloc _) (by exact Hfam.out.alloc _) (by exact hrd.alloc (by have := Hbk.out.lt; omega) _) (by exact (hbw.alloc hbw.size _).drew) hwg hk Hx.out hb8 hown8 (by rw [Hvk.out]; exact hg8) (by rw [Hvk.out]; exact hv8)
        clear HA HF Hfam Hbk Hx hcA hc0 hf0 hrd hbw hown8 hb8 hg8 hv8 hc8 hf8 e1 e2
        go_wp2_with fail
        go_roundw
        case rel => exact ⟨j + 1, by omega, by go_num, Hall, hst'⟩
        case measure => simp [intOf]; omega
    · have : j = n := by omega
      subst this
      have hmay : mayB l = true := by
        unfold mayB
        have h := hall.out
        rw [List.take_of_length_le (by have := Hl.out; omega)] at h
        simp only [Bool.and_eq_true, List.all_eq_true, decide_eq_true_eq]
        exact ⟨h, by have := Hl.out; omega⟩
      have hst2 : HL2 w l A1 j c1 g vs 1 wr := ⟨fun _ => 0, hbk, hfam.congr (fun k hk => by unfold syms; rw [Hl.out]), hrd, hbw, hwg, fun k hk => by
        rw [if_neg (by omega)]⟩
      have Hst2 := Lib.hid hst2
      have Hmay := Lib.hid hmay
      clear hbk hfam hrd hbw hwg hmay hst2 hall
      go_wp2_with fail
      obtain ⟨wo, rfl⟩ : ∃ wo : World, wo = wr := ⟨_, rfl⟩
      go_loopw [7, 8] (fun co nn wr => ∃ q e : Nat, 1 ≤ q ∧ q ≤ 16 ∧ nn = .int .i64 q ∧ co = .int .i64 e ∧ e ≤ 32768 ∧ Hid (e = endC l (q - 1)) ∧ Hid (overTo l (q - 1) = false) ∧ HL2 w l A1 j c1 g vs q wr) (fun _ nn _ => 16 - (intOf nn).toNat)
      case atStart => exact ⟨1, 0, by omega, by omega, rfl, rfl, by omega, rfl, rfl, Hst2.out⟩
      case round =>
        obtain ⟨q, e, hq1, hq16, rfl, rfl, hee, he, hov, fs, hbk, hfam, hrd, hbw, hwg, hfs⟩ := hrel
        clear Hst2
        by_cases hlt : q < 16
        · have hfq : firstC l q = 2 * endC l (q - 1) := by
            obtain ⟨p, rfl⟩ : ∃ p, q = p + 1 := ⟨q - 1, by omega⟩
            rfl
          have heq : endC l q = 2 * endC l (q - 1) + cnt l (q : Int) := by
            obtain ⟨p, rfl⟩ : ∃ p, q = p + 1 := ⟨q - 1, by omega⟩
            have := endC_first l p
            rw [show ((p + 1 : Nat) : Int) = (p : Int) + 1 by omega]
            exact this
          have hovq : overTo l q = (overTo l (q - 1) || decide (2 ^ q < endC l q)) := by
            obtain ⟨p, rfl⟩ : ∃ p, q = p + 1 := ⟨q - 1, by omega⟩
            rfl
          rw [← he.out] at hfq heq
          rw [hov.out, Bool.false_or, heq] at hovq
          have hst' := HL2.step hq1 hlt hbk hfam hrd hbw hwg hfs (x := (e : Int) * 2) (by rw [hfq]; omega)
          have hf0 := hbk.free (q * 2 + 1)
          have hc0 := hbk.cell (q * 2 + 1)
          rw [codeC_first _ _ _ _ _ hlt] at hc0
          have hbks := hbk.set (q * 2 + 1) (.int .i64 ((e : Int) * 2))
          rw [codeC_setfirst _ _ _ _ _ hlt] at hbks
          have hc1 := hbks.cell (q * 2)
          rw [codeC_row _ _ _ _ _ hlt] at hc1
          obtain ⟨Ak, ck, hvk, hck, _⟩ := own_form (hfam.1 q hlt)
          rw [hvk] at hc1
          have hcl : (syms l (q : Int)).length ≤ 320 := by have := cntTo_le l (q : Int) l.length; have := Hl.out; unfold syms; unfold cntTo at *; omega
          have hcn : cnt l (q : Int) = (syms l (q : Int)).length := rfl
          rw [hcn] at heq hovq
          have Heq := Lib.hid heq
          have Hov := Lib.hid hovq
          have Hst' := Lib.hid hst'
          have hbe' := hbw.setCell (p := ⟨g, q * 2 + 1, none⟩) hwg (.int .i64 ((e : Int) * 2))
          have Hbe' := Lib.hid hbe'
          have hpow : ((2 : Int) ^ q) = ((2 ^ q : Nat) : Int) := by simp
          have hpb : 2 ^ q ≤ 32768 := by
            have := Nat.pow_le_pow_right (show 0 < 2 by omega) (show q ≤ 15 by omega)
            exact this
          have Hpow := Lib.hid hpow
          generalize (syms l (q : Int)).length = m at *
          have e1 : (0 : Int) ≤ (q : Int) := by omega
          have e2 : (q : Int) < 16 := by omega
          have e3 : (q : Int) ≤ 15 := by omega
          clear hfq heq hovq hst' hbks hvk hcn hbe' hbk hfam hrd hbw hfs hwg hpow
          go_wp2_with fail
          · have hov2 : overTo l q = true := by
              rw [Hov.out]
              have h : wrap64 ((2 : Int) ^ q) < (e : Int) * 2 + (m : Int) := by assumption
              rw [wrap_pow q (by omega)] at h
              simp only [decide_eq_true_eq]
              generalize 2 ^ q = P at *
              omega
            go_ret2
            exact ⟨.inr (.inl ⟨Hmay.out, over_up (by omega) hov2, rfl⟩), Hbe'.out⟩
          · have h : (e : Int) * 2 + (m : Int) ≤ wrap64 ((2 : Int) ^ q) := by assumption
            rw [wrap_pow q (by omega)] at h
            have hov2 : overTo l q = false := by
              rw [Hov.out]
              simp only [decide_eq_false_iff_not]
              generalize 2 ^ q = P at *
              omega
            go_roundw
            case rel => exact ⟨q + 1, 2 * e + m, by omega, by omega, by go_num, by go_num, by omega, Lib.hid Heq.out.symm, Lib.hid hov2, Hst'.out⟩
            case measure => simp [intOf]; omega
        · have : q = 16 := by omega
          subst this
          have hov15 : overTo l 15 = false := hov.out
          have he15 : e = endC l 15 := he.out
          have Hov15 := Lib.hid hov15
          have He15 := Lib.hid he15
          have Hfam := Lib.hid hfam
          have Hfs := Lib.hid hfs
          have Hrd := Lib.hid hrd
          have Hbk := Lib.hid hbk
          clear hov15 he15 hfam hfs hrd he hov
          by_cases hw : e = 32768
          · have hwb : ((e : Int) == 32768) = true := by simp; omega
            have hfill : fillN l = 0 := by unfold fillN; rw [if_pos (by rw [← He15.out]; exact hw)]
            have hf0 := hbk.free 33
            have hc0 := hbk.cell 33
            have hc0' : wr.cell? ⟨g, 33, none⟩ = some (.int .i64 1) := hc0
            have hbks := hbk.set 33 (.int .i64 0)
            rw [codeC_setfill] at hbks
            have hdone : HCode (wr.setCell ⟨g, 33, none⟩ (.int .i64 0)) l g := HL2.done 0 Hl.out.symm hc1 hbks hfill.symm (Hfam.out.below_set (Nat.lt_succ_self g) _ _) (Hrd.out.setCell (p := ⟨g, 33, none⟩) (Nat.le_refl _) _) Hfs.out
            have Hdone := Lib.hid hdone
            have hbe' := hbw.setCell (p := ⟨g, 33, none⟩) hwg (.int .i64 0)
            have Hbe' := Lib.hid hbe'
            clear hdone hbe' hbks hbk hfill hc0 hw
            go_wp2
            go_ret2
            exact ⟨.inr (.inr ⟨Hmay.out, Hov15.out, g, rfl, Hdone.out⟩), Hbe'.out⟩
          · have hwb : ((e : Int) == 32768) = false := by simp; omega
            have hfill : fillN l = 1 := by unfold fillN; rw [if_neg (by rw [← He15.out]; exact hw)]
            have hdone : HCode wr l g := HL2.done 1 Hl.out.symm hc1 Hbk.out hfill.symm Hfam.out Hrd.out Hfs.out
            have Hdone := Lib.hid hdone
            clear hdone hbk hfill hw
            go_wp2
            go_ret2
            exact ⟨.inr (.inr ⟨Hmay.out, Hov15.out, g, rfl, Hdone.out⟩), hbw⟩
end Go.Proofs.Ytnedboomhbdecaa
