/- Contracts of package glob: Quote; strings.ContainsRune of the four runes that a pattern knows. -/
import Derived.Test.YtbdehlphblbmoaaDoorGlbN
import Derived.Test.YtbdehlphblbmoaaDoorGlbH
import Derived.Laws.Runes
import Derived.Scope
namespace Go.Proofs.YtbdehlphblbmoaaDoor
open Go.RowKit
attribute [local go_sem ↓] Go.wp_at_zero Go.wp_at_succ

def four : ByteArray := ⟨#[63, 42, 91, 92]⟩
theorem four_dec : ∀ pos, pos < 4 → (Utf8.decode four pos).1 ≠ 65533 ∧ (Utf8.decode four pos).2 = 1 := by
  intro pos h
  match pos, h with
  | 0, _ => decide +kernel
  | 1, _ => decide +kernel
  | 2, _ => decide +kernel
  | 3, _ => decide +kernel
theorem okR_valid {r : Int} (h : okR r) : Utf8.valid r = true ∧ Lib.validRune r = true := by
  unfold okR at h
  refine ⟨?_, ?_⟩
  · unfold Utf8.valid
    simp only [Bool.or_eq_true, Bool.and_eq_true, decide_eq_true_eq]
    omega
  · unfold Lib.validRune
    simp only [decide_eq_true_eq]
    omega
theorem ofNat_toUInt8 (a : Nat) (b : Int) (h : b = a) : UInt8.ofNat a = b.toNat.toUInt8 := by subst h; simp
/-- A rune as a text. -/
theorem enc_string {r : Int} (h : okR r) : Utf8.encode r = ⟨(Lib.encodeRune r).toArray⟩ := by
  have hv := (okR_valid h).1
  have h' := h
  unfold okR at h'
  unfold Utf8.encode Lib.encodeRune
  simp only [hv, if_true]
  by_cases h1 : r ≤ 127
  · rw [Lib.encodeRuneZ_one (by omega) h1, if_pos (by omega)]
    simp
  by_cases h2 : r ≤ 2047
  · rw [Lib.encodeRuneZ_two (by omega) h2, if_neg (by omega), if_pos (by omega)]
    simp only [List.map_cons, List.map_nil]
    rw [ofNat_toUInt8 _ (192 + r / 64) (by omega), ofNat_toUInt8 _ (128 + r % 64) (by omega)]
  by_cases h3 : r ≤ 65535
  · rw [Lib.encodeRuneZ_three (by omega), if_neg (by omega), if_neg (by omega), if_pos (by omega)]
    simp only [List.map_cons, List.map_nil]
    rw [ofNat_toUInt8 _ (224 + r / 4096) (by omega), ofNat_toUInt8 _ (128 + r / 64 % 64) (by omega), ofNat_toUInt8 _ (128 + r % 64) (by omega)]
  · rw [Lib.encodeRuneZ_four (by omega) (by omega), if_neg (by omega), if_neg (by omega), if_neg (by omega)]
    simp only [List.map_cons, List.map_nil]
    rw [ofNat_toUInt8 _ (240 + r / 262144) (by omega), ofNat_toUInt8 _ (128 + r / 4096 % 64) (by omega), ofNat_toUInt8 _ (128 + r / 64 % 64) (by omega), ofNat_toUInt8 _ (128 + r % 64) (by omega)]
theorem index_none : ∀ (l : List UInt8) (c : UInt8), 128 ≤ c.toNat → (∀ b ∈ l, b.toNat < 128) → Lib.indexByte l c = -1
  | [], _, _, _ => rfl
  | b :: l, c, hc, hl => by
    have hb := hl b (by simp)
    have h1 := index_none l c hc (fun x hx => hl x (by simp [hx]))
    have hne : (b == c) = false := by
      simp only [beq_eq_false_iff_ne]
      rintro rfl
      omega
    rw [Lib.indexByte, hne, h1]
    rfl
set_option maxHeartbeats 4000000 in
set_option maxRecDepth 100000 in
theorem irune_bad (w : World) : Calls Tryd.prog 37 #[.string four, .int .i32 65533] w fun e w' => e = .returned (.int .i64 (-1)) ∧ Below w.heap.size w w' := by
  go_enter Tryd.func37, Tryd.ntmps37
  have HI0 := Lib.hid (World.iter_heap w four 0)
  have HC := Lib.hid (iter_below w four)
  have HS := Lib.hid (show four.size = 4 from rfl)
  go_wp2_with fail
  generalize hk : w.heap.size = k at *
  have Hk := Lib.hid hk
  clear hk
  go_loopw [] (fun wr => ∃ pos, Hid (wr.heap[k]? = some (.stringIter four pos) ∧ Below k w wr)) (fun wr => 4 - wr.iterPos k)
  case atStart => exact ⟨0, Lib.hid ⟨HI0.out, HC.out⟩⟩
  case round =>
    obtain ⟨pos, HI⟩ := hrel
    obtain ⟨i1, i2⟩ := HI.out
    clear HI0 HC
    by_cases hp : pos < 4
    · have hnx : ∀ ty, (Instr.next (.pointer (some ⟨k, 0, none⟩)) true ty).run Tryd.prog wr = _ := fun ty => Lib.run_next_any_at wr k four pos ty i1 hp
      obtain ⟨d1, d2⟩ := four_dec pos hp
      rw [d2] at hnx
      generalize (Utf8.decode four pos).1 = x at *
      have hx : ((x : Int) == 65533) = false := by simp; omega
      have hi2 := Lib.iterAt_heap wr k four pos (pos + 1) i1
      have HF := Lib.hid (show (wr.iterAt k four (pos + 1)).heap[k]? = some (.stringIter four (pos + 1)) ∧ Below k w (wr.iterAt k four (pos + 1)) from ⟨hi2, i2.trans ((ch_iterAt wr k four (pos + 1)).below (B := k) (by have := i2.size; rw [Hk.out] at this; exact this) (fun i hi => by omega))⟩)
      have HM := Lib.hid (show 4 - (wr.iterAt k four (pos + 1)).iterPos k < 4 - wr.iterPos k from by simp only [World.iterPos, i1, hi2]; omega)
      clear d1 d2 HI i1 i2 hi2
      go_wp2_with fail
      go_roundw
      case rel => exact ⟨pos + 1, HF⟩
      case measure => exact HM.out
    · have hnx : ∀ ty, (Instr.next (.pointer (some ⟨k, 0, none⟩)) true ty).run Tryd.prog wr = _ := fun ty => Lib.run_next_end_at wr k four pos ty i1 hp
      have HF := Lib.hid i2
      clear HI i1 i2
      go_wp2_with fail
      go_ret
      exact ⟨rfl, by rw [Hk.out]; exact HF.out⟩
set_option maxHeartbeats 4000000 in
set_option maxRecDepth 100000 in
theorem irune_at (r : Int) (w : World) (h : okR r) (h1 : 128 ≤ r) (h2 : r ≠ 65533) (k : Nat) (c : Int) (T : ByteArray) (hk : (Utf8.encode r).size = k + 1) (hk3 : k < 4) (hc : c < 128) (hT : ∀ b ∈ T.data.toList, b.toNat < 128)
    (hx1 : ∀ w, (Instr.index 9 (.string four) (.int .i64 (k : Int))).run Tryd.prog w = .ok (.int .u8 c) w)
    (hsl : ∀ w, (Instr.slice 9 (.string four) (some (.int .i64 ((k : Int) + 1))) none none).run Tryd.prog w = .ok (.string T) w) :
    Calls Tryd.prog 37 #[.string four, .int .i32 r] w fun e w' => e = .returned (.int .i64 (-1)) ∧ Below w.heap.size w w' := by
  have hv : Lib.validRune r = true := (okR_valid h).2
  have Hv := Lib.hid (Tryd.utf8_ValidRune r w)
  rw [hv] at Hv
  have h2' : (r == 65533) = false := by simpa using h2
  have h3 : decide (r < 128) = false := by simp; omega
  have h4 : (0 : Int) ≤ r := by omega
  obtain ⟨f1, f2, f3⟩ := encode_facts r (okR_valid h).1 h1
  have hcv : ∀ w, (convert 21 9 (.int .i32 r)).run Tryd.prog w = .ok (.string (Utf8.encode r)) w := fun w => run_convert_int_string w _ _ _ _ (by kernel_rfl) Tryd.underlying9
  generalize Utf8.encode r = S at *
  have hb : k < S.size := by omega
  obtain ⟨u, hu⟩ : ∃ u, S[k] = u := ⟨_, rfl⟩
  have hu2 : 128 ≤ u.toNat := by
    have := f3 (by omega)
    have e : S.size - 1 = k := by omega
    simp only [e] at this
    rw [hu] at this
    exact this
  have hx2 : ∀ w, (Instr.index 9 (.string S) (.int .i64 (k : Int))).run Tryd.prog w = .ok (.int .u8 (u.toNat : Int)) w := by
    intro w
    have := run_index_string (P := Tryd.prog) w 9 S .i64 (k : Int) Tryd.underlying9
    rw [this, dif_pos ⟨by omega, by omega⟩]
    simp only [Int.toNat_natCast, hu]
  have Hib := Lib.hid (fun W => Tryd.strings_IndexByte T (u.toNat : Int) W)
  rw [show Lib.indexByte T.data.toList ((u.toNat : Int)).toNat.toUInt8 = -1 from by simp; exact index_none _ _ hu2 hT] at Hib
  have hne : (c != (u.toNat : Int)) = true := by simp; omega
  generalize (u.toNat : Int) = z at *
  have hi1 : IntKind.i64.wrap ((k : Int) + 1) = (k : Int) + 1 := IntWalk.i64_in _ (by omega)
  have h40 : (four.size : Int) = 4 := rfl
  have hsz : (S.size : Int) = (k : Int) + 1 := by omega
  have hk4 : (k : Int) < 4 := by omega
  clear hv h2 f1 f2 f3 hu hu2 hT hc hk hb
  go_enter Tryd.func37, Tryd.ntmps37
  go_wp2_with fail
  with_reducible refine Hv.out.mono ?_
  rintro e w1 ⟨rfl, rfl⟩
  go_wp2_with fail
  refine wp_scope_straight ?_
  go_wp2_with fail
  go_loop [9] (fun i => i = .int .i64 (k : Int)) (fun _ => 0)
  case atStart => rfl
  case round =>
    subst hrel
    go_wp2_with fail
    refine wp_scope_straight ?_
    go_wp2_with fail
    go_quiet (fail)
    have HB := Lib.hid (below_drewN (Below.refl w1.heap.size w1) nq)
    generalize w1.drewN nq = w5 at *
    go_wp2_with fail
    go_quiet ((go_at_call 41; exact Calls.quiet_of_same (Hib.out _)))
    have HB2 := Lib.hid (HB.out.trans (below_drewN (Below.refl w1.heap.size w5) nq))
    clear HB
    go_wp2_with fail
    simp +zetaDelta only [Exit.noGoto, Exit.inBlock, Exit.then]
    go_ret
    exact ⟨rfl, HB2.out⟩
theorem four_ix1 (w : World) : (Instr.index 9 (.string four) (.int .i64 ((1 : Nat) : Int))).run Tryd.prog w = .ok (.int .u8 42) w := by kernel_rfl
theorem four_ix2 (w : World) : (Instr.index 9 (.string four) (.int .i64 ((2 : Nat) : Int))).run Tryd.prog w = .ok (.int .u8 91) w := by kernel_rfl
theorem four_ix3 (w : World) : (Instr.index 9 (.string four) (.int .i64 ((3 : Nat) : Int))).run Tryd.prog w = .ok (.int .u8 92) w := by kernel_rfl
theorem four_sl1 (w : World) : (Instr.slice 9 (.string four) (some (.int .i64 (((1 : Nat) : Int) + 1))) none none).run Tryd.prog w = .ok (.string ⟨#[91, 92]⟩) w := by kernel_rfl
theorem four_sl2 (w : World) : (Instr.slice 9 (.string four) (some (.int .i64 (((2 : Nat) : Int) + 1))) none none).run Tryd.prog w = .ok (.string ⟨#[92]⟩) w := by kernel_rfl
theorem four_sl3 (w : World) : (Instr.slice 9 (.string four) (some (.int .i64 (((3 : Nat) : Int) + 1))) none none).run Tryd.prog w = .ok (.string ⟨#[]⟩) w := by kernel_rfl
theorem irune_high (r : Int) (w : World) (h : okR r) (h1 : 128 ≤ r) : Calls Tryd.prog 37 #[.string four, .int .i32 r] w fun e w' => e = .returned (.int .i64 (-1)) ∧ Below w.heap.size w w' := by
  by_cases h2 : r = 65533
  · subst h2; exact irune_bad w
  obtain ⟨f1, f2, _⟩ := encode_facts r (okR_valid h).1 h1
  have : (Utf8.encode r).size = 1 + 1 ∨ (Utf8.encode r).size = 2 + 1 ∨ (Utf8.encode r).size = 3 + 1 := by omega
  rcases this with h3 | h3 | h3
  · exact irune_at r w h h1 h2 1 42 ⟨#[91, 92]⟩ h3 (by omega) (by omega) (by decide) four_ix1 four_sl1
  · exact irune_at r w h h1 h2 2 91 ⟨#[92]⟩ h3 (by omega) (by omega) (by decide) four_ix2 four_sl2
  · exact irune_at r w h h1 h2 3 92 ⟨#[]⟩ h3 (by omega) (by omega) (by decide) four_ix3 four_sl3
theorem special_low : ∀ n : Nat, n < 128 → decide (0 ≤ Lib.indexByte four.data.toList n.toUInt8) = special (n : Int) := by decide +kernel
set_option maxRecDepth 100000 in
theorem crune_any (r : Int) (w : World) (h : okR r) : Calls Tryd.prog 29 #[.string four, .int .i32 r] w fun e w' => e = .returned (.bool (special r)) ∧ Below w.heap.size w w' := by
  by_cases h1 : r < 128
  · have h0 : 0 ≤ r := by unfold okR at h; omega
    refine (Tryd.strings_ContainsRune_ascii four r w h0 h1).mono ?_
    rintro e w' ⟨rfl, rfl⟩
    refine ⟨?_, Below.refl _ _⟩
    have := special_low r.toNat (by omega)
    rw [Int.toNat_of_nonneg h0] at this
    rw [this]
  · have Hi := Lib.hid (irune_high r w h (by omega))
    have Hs := Lib.hid (show special r = false from by unfold special; simp; omega)
    clear h1 h
    go_enter Tryd.func29, Tryd.ntmps29
    go_wp2_with fail
    with_reducible refine Hi.out.mono ?_
    rintro e w1 ⟨rfl, hb⟩
    have HB := Lib.hid hb
    clear hb
    go_wp2_with fail
    go_ret
    exact ⟨by rw [Hs.out]; rfl, HB.out⟩
theorem own_heap' {w w' : World} {base s n : Nat} {e : TypeId} {v : Value} {xs : List Value} (h : w.ownsRow base e s v n xs) (hk : ∀ k, v.ownBlock = some k → w'.heap[k]? = w.heap[k]?) : w'.ownsRow base e s v n xs := by
  refine ⟨h.1, ?_⟩
  rcases h.2 with h2 | ⟨g, cap, cur, rfl, hg, hh, r⟩
  · exact .inl h2
  · exact .inr ⟨g, cap, cur, rfl, hg, by rw [hk g rfl]; exact hh, r⟩
/-- The range's own block is none of a builder's. -/
theorem BD.ch_iter {W W' : World} {b k p : Nat} {s : ByteArray} {l : List UInt8} (h : BD W b l) (hc : Ch (fun i => i = k) W W') (hk : W.heap[k]? = some (.stringIter s p)) : BD W' b l := by
  obtain ⟨q, v, hp, hb, ho⟩ := h
  have hne : b ≠ k := by rintro rfl; unfold Bk at hb; rw [hb] at hk; cases hk
  refine ⟨q, v, hp, hb.ch hc hne, own_ch ho hc (fun i hi e => ?_)⟩
  subst e
  obtain ⟨cs, hcs⟩ := own_isB ho i hi
  unfold Bk at hcs
  rw [hcs] at hk
  cases hk
theorem rnB_ok (s : ByteArray) : ∀ r ∈ rnB s, okR r := by
  rw [rnB_L]
  exact runesL_ok _ _ (Nat.le_refl _)
set_option maxHeartbeats 4000000 in
set_option maxRecDepth 100000 in
theorem quote_any (s : ByteArray) (w : World) (hs : s.size ≤ 1000) :
    Calls Tryd.prog 18 #[.string s] w fun e w' => e = .returned (.string ⟨(encL (quoteR (rnB s))).toArray⟩) ∧ Below w.heap.size w w' := by
  have HB0 := Lib.hid (BD.new w)
  have HC0 := Lib.hid ((Below.refl w.heap.size w).alloc (Nat.le_refl _) (.cells #[.pointer none, .slice none 0 0] 74))
  have hz : (w.alloc (.cells #[.pointer none, .slice none 0 0] 74)).heap.size = w.heap.size + 1 := by simp
  have HI0 := Lib.hid (World.iter_heap (w.alloc (.cells #[.pointer none, .slice none 0 0] 74)) s 0)
  have HCi := Lib.hid (Ch.of_below (S := fun _ => False) (iter_below (w.alloc (.cells #[.pointer none, .slice none 0 0] 74)) s) (Nat.le_refl _))
  rw [hz] at HI0
  clear hz
  go_enter Tryd.func18, Tryd.ntmps18
  go_wp2_with fail
  have Hw := Lib.hid (show w.heap.size = w.heap.size from rfl)
  generalize hbb : w.heap.size = bb at HB0 HC0 HI0 HCi ⊢
  have Hbb := Lib.hid hbb
  clear hbb Hw
  generalize (w.alloc (.cells #[.pointer none, .slice none 0 0] 74)) = w1 at *
  have HB1 := Lib.hid (show BD (w1.iter s 0) bb [] ∧ Below bb w (w1.iter s 0) from ⟨by
    obtain ⟨q, v, hp, hb, ho⟩ := HB0.out
    exact ⟨q, v, hp, hb.ch HCi.out (fun h => h), own_ch ho HCi.out (fun _ _ h => h)⟩, HC0.out.trans (HCi.out.below (B := bb) (by have := HB0.out.lt; omega) (fun _ h => h.elim))⟩)
  generalize w1.iter s 0 = w2 at *
  clear HB0 HC0 HCi
  go_loopw [] (fun wr => ∃ pos fuel L, Hid (BD wr bb (encL (quoteR L)) ∧ wr.heap[bb + 1]? = some (.stringIter s pos) ∧ Below bb w wr ∧ rnB s = L ++ rnFrom s fuel pos ∧ s.size ≤ pos + fuel)) (fun wr => s.size - wr.iterPos (bb + 1))
  case atStart => exact ⟨0, s.size, [], Lib.hid ⟨HB1.out.1, HI0.out, HB1.out.2, rfl, by omega⟩⟩
  case round =>
    obtain ⟨pos, fuel, L, HI⟩ := hrel
    obtain ⟨i1, i2, i3, i4, i5⟩ := HI.out
    have hLl : L.length ≤ 1000 := by
      have h1 : (rnB s).length ≤ s.size := rnFrom_le s s.size 0
      rw [i4, List.length_append] at h1
      omega
    clear HB1 HI0 HI
    by_cases hp : pos < s.size
    · have hnx : ∀ ty, (Instr.next (.pointer (some ⟨bb + 1, 0, none⟩)) true ty).run Tryd.prog wr = _ := fun ty => Lib.run_next_any_at wr (bb + 1) s pos ty i2 hp
      have hwd := wid_pos s pos hp
      obtain ⟨f, rfl⟩ : ∃ f, fuel = f + 1 := ⟨fuel - 1, by omega⟩
      rw [rnFrom, if_pos hp] at i4
      obtain ⟨r, hr⟩ : ∃ r : Int, (((Utf8.decode s pos).1 : Nat) : Int) = r := ⟨_, rfl⟩
      obtain ⟨p2, hp2⟩ : ∃ p2 : Nat, pos + (Utf8.decode s pos).2 = p2 := ⟨_, rfl⟩
      rw [hr, hp2] at i4 hnx
      have hok : okR r := rnB_ok s r (by rw [i4]; simp)
      have hcA : Ch (fun i => i = bb + 1) wr (wr.iterAt (bb + 1) s p2) := ch_iterAt wr (bb + 1) s p2
      have hiA := Lib.iterAt_heap wr (bb + 1) s pos p2 i2
      have hql := quoteR_len L
      have hel := encL_len (quoteR L)
      have HD := Lib.hid (i1.ch_iter hcA i2)
      have HA := Lib.hid hiA
      have HW := Lib.hid (i3.trans (hcA.below (B := bb) (by have := i1.lt; omega) (fun i hi => by omega)))
      have HL := Lib.hid (show rnB s = (L ++ [r]) ++ rnFrom s f p2 from by rw [i4]; simp)
      have HP := Lib.hid (show s.size ≤ p2 + f from by omega)
      have HM := Lib.hid (show s.size - p2 < s.size - wr.iterPos (bb + 1) from by simp only [World.iterPos, i2]; omega)
      have hlen : (encL (quoteR L)).length ≤ 8000 := by omega
      clear i1 i2 i3 i4 i5 hcA hiA hwd hql hel hr hp2
      have Hok := Lib.hid hok
      have Hc := Lib.hid (crune_any r (wr.iterAt (bb + 1) s p2) hok)
      unfold four at Hc
      clear hok
      generalize wr.iterAt (bb + 1) s p2 = wx at *
      have Hs := Lib.hid (show quoteR (L ++ [r]) = quoteR L ++ (if special r then [92, r] else [r]) from by rw [quoteR_app]; unfold quoteR; simp)
      go_wp2_with fail
      with_reducible refine Hc.out.mono ?_
      rintro e w3 ⟨rfl, hb3⟩
      have hc3 : Ch (fun _ => False) wx w3 := Ch.of_below hb3 (Nat.le_refl _)
      have hd3 : BD w3 bb (encL (quoteR L)) := by
        obtain ⟨q, v, hp, hb, ho⟩ := HD.out
        exact ⟨q, v, hp, hb.ch hc3 (fun h => h), own_ch ho hc3 (fun _ _ h => h)⟩
      have hi3 : w3.heap[bb + 1]? = some (.stringIter s p2) := (hb3.block _ (Array.getElem?_eq_some_iff.1 HA.out).1).trans HA.out
      have hw3 : Below bb w w3 := HW.out.trans (hc3.below (B := bb) (by have := HD.out.lt; omega) (fun _ h => h.elim))
      have HB3 := Lib.hid hw3
      have HI3 := Lib.hid hi3
      have hb1 : -2147483648 ≤ r ∧ r ≤ 2147483647 := by have := Hok.out; unfold okR at this; omega
      have hki : ∀ (W W' : World), W.heap[bb + 1]? = some (.stringIter s p2) → KB bb W W' → W'.heap[bb + 1]? = some (.stringIter s p2) := fun W W' h k =>
        (k.block (Array.getElem?_eq_some_iff.1 h).1 (by omega) (fun cs hcs => by unfold Bk at hcs; rw [hcs] at h; cases h)).trans h
      have HK := Lib.hid hki
      clear hki
      have hwr := fun W l (h : BD W bb l) (hl : l.length ≤ 1000000) => wrune_any bb l r W h hl hb1.1 hb1.2
      have HWR := Lib.hid hwr
      clear hwr hb1 Hc
      cases hsp : special r with
      | true =>
        have hs2 := Hs.out
        rw [hsp, if_pos rfl] at hs2
        have HS2 := Lib.hid hs2
        have hwb := wbyte_any bb (encL (quoteR L)) 92 w3 hd3 (by omega)
        rw [show (((92 : UInt8).toNat : Nat) : Int) = 92 from rfl] at hwb
        have Hwb := Lib.hid hwb
        clear hwb
        clear hs2 hsp Hs hb3 hc3 hd3 hi3 hw3 HD HA
        go_wp2_with fail
        with_reducible refine Hwb.out.mono ?_
        rintro e w4 ⟨rfl, d4, k4, b4⟩
        have HB4 := Lib.hid (HB3.out.trans b4)
        have HI4 := Lib.hid (HK.out _ _ HI3.out k4)
        have Hwr4 := Lib.hid (HWR.out w4 _ d4 (by rw [List.length_append]; simp; omega))
        clear d4 k4 b4 Hwb
        go_wp2_with fail
        with_reducible refine Hwr4.out.mono ?_
        rintro e w5 ⟨⟨nn, rfl⟩, d5, k5, b5⟩
        have HI5 := HK.out _ _ HI4.out k5
        have HM5 := Lib.hid (show s.size - w5.iterPos (bb + 1) < s.size - wr.iterPos (bb + 1) from by
          have e5 : w5.iterPos (bb + 1) = p2 := by simp only [World.iterPos, HI5]
          rw [e5]; exact HM.out)
        have HF := Lib.hid (show BD w5 bb (encL (quoteR (L ++ [r]))) ∧ w5.heap[bb + 1]? = some (.stringIter s p2) ∧ Below bb w w5 ∧ rnB s = (L ++ [r]) ++ rnFrom s f p2 ∧ s.size ≤ p2 + f from
          ⟨by
            rw [HS2.out, encL_app]
            have e : encL [92, r] = [92] ++ Lib.encodeRune r := by unfold encL; simp [Lib.encodeRune, Lib.encodeRuneZ]
            rw [e, ← List.append_assoc]; exact d5, HI5, HB4.out.trans b5, HL.out, HP.out⟩)
        clear d5 k5 b5 HI5 Hwr4
        go_wp2_with fail
        go_roundw
        case rel => exact ⟨p2, f, L ++ [r], HF⟩
        case measure => exact HM5.out
      | false =>
        have hs2 := Hs.out
        rw [hsp, if_neg (by simp)] at hs2
        have HS2 := Lib.hid hs2
        have Hwr4 := Lib.hid (HWR.out w3 _ hd3 (by omega))
        clear hs2 hsp Hs hb3 hc3 hd3 hi3 hw3 HD HA
        go_wp2_with fail
        with_reducible refine Hwr4.out.mono ?_
        rintro e w5 ⟨⟨nn, rfl⟩, d5, k5, b5⟩
        have HI5 := HK.out _ _ HI3.out k5
        have HM5 := Lib.hid (show s.size - w5.iterPos (bb + 1) < s.size - wr.iterPos (bb + 1) from by
          have e5 : w5.iterPos (bb + 1) = p2 := by simp only [World.iterPos, HI5]
          rw [e5]; exact HM.out)
        have HF := Lib.hid (show BD w5 bb (encL (quoteR (L ++ [r]))) ∧ w5.heap[bb + 1]? = some (.stringIter s p2) ∧ Below bb w w5 ∧ rnB s = (L ++ [r]) ++ rnFrom s f p2 ∧ s.size ≤ p2 + f from
          ⟨by rw [HS2.out, encL_app, encL_one]; exact d5, HI5, HB3.out.trans b5, HL.out, HP.out⟩)
        clear d5 k5 b5 HI5 Hwr4
        go_wp2_with fail
        go_roundw
        case rel => exact ⟨p2, f, L ++ [r], HF⟩
        case measure => exact HM5.out
    · have hnx : ∀ ty, (Instr.next (.pointer (some ⟨bb + 1, 0, none⟩)) true ty).run Tryd.prog wr = _ := fun ty => Lib.run_next_end_at wr (bb + 1) s pos ty i2 hp
      have e0 : rnFrom s fuel pos = [] := by
        cases fuel with
        | zero => rfl
        | succ f => rw [rnFrom, if_neg hp]
      rw [e0, List.append_nil] at i4
      have Hst := Lib.hid (string_any bb _ wr i1)
      have HW := Lib.hid i3
      have HL := Lib.hid i4
      clear i1 i2 i3 i4 i5 e0
      go_wp2_with fail
      with_reducible refine Hst.out.mono ?_
      rintro e w4 ⟨rfl, hb4⟩
      have HB4 := Lib.hid (HW.out.trans hb4)
      clear hb4
      go_wp2_with fail
      go_ret
      exact ⟨by rw [HL.out]; rfl, by rw [Hbb.out]; exact HB4.out⟩
end Go.Proofs.YtbdehlphblbmoaaDoor
