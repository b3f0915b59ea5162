/- Contract of package aho: New. -/
import Derived.Test.YthfpdiaobkccbaaAho4
namespace Go.Proofs.Ythfpdiaobkccbaa
open Go.RowKit
attribute [local go_sem ↓] Go.wp_at_zero Go.wp_at_succ

/-- The words when all ways back are laid. -/
structure SemF (T : Tt) (ws : List (List UInt8)) : Prop where
  tr : Trie T.S
  le : ∀ s ∈ T.S, s.length ≤ 64
  nn : T.S.length ≤ 513
  wi : ∀ j, j < ws.length → wdj ws j ∈ T.S
  bk : ∀ i, i < T.S.length → i ≠ 0 → T.B i = bk T.S i
  en : ∀ i, i < T.S.length → ∀ j, j ∈ T.E i ↔ j < ws.length ∧ wdj ws j <:+ str T.S i
  el : ∀ i, i < T.S.length → (T.E i).length ≤ 520
/-- Words in memory, all of whose blocks lie from base on. -/
def AW (w : World) (base W0 : Nat) (ws : List (List UInt8)) : Prop := ∃ T : Tt, AT w base W0 (ws.length : Int) T ∧ SemF T ws
def tt0 (H : Nat) : Tt := ⟨[[]], H + 1, 1, fun _ => H, fun _ => 0, fun _ => .slice none 0 0, fun _ => []⟩
theorem sem0 (H : Nat) (ws : List (List UInt8)) : SemA (tt0 H) ws 0 0 := by
  have h1 : ∀ i, i < (tt0 H).S.length → i = 0 := fun i hi => by simp [tt0] at hi; exact hi
  refine ⟨⟨rfl, by simp [tt0], fun s c h => by simp [tt0] at h⟩, fun s hs => by simp [tt0] at hs; subst hs; simp, by simp [tt0], fun j hj => by omega, fun i hi j => ?_, fun i hi => by simp [tt0], fun i hi => rfl⟩
  simp [tt0]
theorem at0 (w : World) (many : Int) : AT (((w.alloc (.map #[] 0)).alloc (.cells #[.map (some w.heap.size), .int .i64 0, .slice none 0 0] 47)).alloc (.cells #[.slice (some ⟨w.heap.size + 1, 0, none⟩) 1 1, .int .i64 many] 50)) w.heap.size (w.heap.size + 2) many (tt0 w.heap.size) := by
  have h1 : ∀ i, i < (tt0 w.heap.size).S.length → i = 0 := fun i hi => by simp [tt0] at hi; exact hi
  refine ⟨Bk.new' _ _ _ (by simp), ⟨_, Bk.alloc (Bk.new' _ _ _ (by simp [tt0])) _, rfl, fun i hi => ?_⟩, Nat.le_refl _, by simp [tt0, maxLen], fun i hi => ?_, fun i hi => World.ownsRow_nil _ _ _ _, fun i j hi hj _ => by rw [h1 i hi, h1 j hj], fun i j hi hj hne => by rw [h1 i hi, h1 j hj] at hne; exact absurd rfl hne, by omega, by simp [tt0], fun i hi => Nat.le_refl _⟩
  · rw [h1 i hi]; exact ⟨rfl, rfl, rfl⟩
  · rw [h1 i hi]
    have hm := (MapF.new w).mono (Nat.zero_le 1)
    have hlt := hm.lt
    refine ((hm.heap (Below.heap_alloc _ _ _ hlt)).heap (Below.heap_alloc _ _ _ (by simp <;> omega))).congr fun c => ?_
    unfold nx
    rw [if_neg (by simp [tt0, str])]
/-- The error of words. -/
def empW (ws : List (List UInt8)) : Int := if ws.any (fun x => x.length == 0) then 1 else 0
def errW (ws : List (List UInt8)) : Int := if ws.length = 0 ∨ 8 < ws.length then 17 else if ws.any (fun x => decide (64 < x.length)) then 10 else empW ws
theorem empW_snoc (l : List (List UInt8)) (x : List UInt8) : empW (l ++ [x]) = if x.length = 0 then 1 else empW l := by
  unfold empW
  rw [List.any_append]
  by_cases h : x.length = 0 <;> simp [h]
theorem empW_01 (l : List (List UInt8)) : empW l = 0 ∨ empW l = 1 := by unfold empW; split <;> simp
theorem errW_long {ws : List (List UInt8)} {k : Nat} {x : List UInt8} (h1 : ¬ (ws.length = 0 ∨ 8 < ws.length)) (hx : ws[k]? = some x) (hl : 64 < x.length) : errW ws = 10 := by
  unfold errW
  rw [if_neg h1, if_pos]
  exact List.any_eq_true.2 ⟨x, List.mem_of_getElem? hx, by simpa using hl⟩
theorem errW_fits {ws : List (List UInt8)} (h1 : ¬ (ws.length = 0 ∨ 8 < ws.length)) (hl : ∀ x ∈ ws, x.length ≤ 64) : errW ws = empW ws := by
  unfold errW
  rw [if_neg h1, if_neg]
  intro h
  obtain ⟨x, hx, h2⟩ := List.any_eq_true.1 h
  have := hl x hx
  simp at h2; omega
theorem SemA.toSV {T : Tt} {ws : List (List UInt8)} (h : SemA T ws ws.length 0) (h8 : ws.length ≤ 8) : SV T.S T.B T.E ws ([] ++ [0]) := by
  have z : ∀ i, i ∈ ([] ++ [0] : List Nat) → i = 0 := fun i hi => by simpa using hi
  refine ⟨fun i hi hm => ?_, fun i hi _ => h.bz i hi, fun i hi hm j => ?_, fun i hi _ j => h.en i hi j, fun i hi hm => by have := h.el i hi; omega, fun i hi _ => by have := h.el i hi; omega⟩
  · have := z i hm; subst this
    rw [h.bz 0 hi]
    unfold bk
    rw [str_zero h.tr]
    exact (ix_zero h.tr).symm
  · have := z i hm; subst this
    rw [h.en 0 hi j, str_zero h.tr]
    simp only [List.suffix_nil]
    exact Iff.rfl
/-- What New says. -/
def NewP (ws : List (List UInt8)) (base : Nat) (e : Ending) (w' : World) : Prop :=
  errW ws ≠ 0 ∧ e = .returned (.tuple #[.pointer none, .int .i64 (errW ws)]) ∨ errW ws = 0 ∧ ∃ W0, e = .returned (.tuple #[.pointer (some ⟨W0, 0, none⟩), .int .i64 0]) ∧ AW w' base W0 ws
set_option maxHeartbeats 1000000 in
theorem new_any (A : Option Addr) (n c : Nat) (ws : List (List UInt8)) (w : World) (hr : RdRows w w.heap.size A n ws) (hn : n ≤ 1000000) :
    Calls Try.prog 10 #[.slice A n c] w fun e w' => NewP ws w.heap.size e w' ∧ Below w.heap.size w w' := by
  have hl := hr.len
  by_cases h8 : n = 0 ∨ 8 < n
  · have He := Lib.hid (show errW ws = 17 by unfold errW; rw [if_pos (by omega)])
    clear hl hr
    rcases Nat.eq_zero_or_pos n with hz | hp
    · have hz1 : ((n : Int) == 0) = true := by simp [hz]
      clear hz h8
      go_enter Try.func10, Try.ntmps10
      go_wp2
      go_ret2
      exact ⟨.inl ⟨by rw [He.out]; decide, by rw [He.out]; rfl⟩, Below.refl _ _⟩
    · have hz1 : ((n : Int) == 0) = false := by simp; omega
      have hz2 : 8 < n := by omega
      clear h8
      go_enter Try.func10, Try.ntmps10
      go_wp2
      go_ret2
      exact ⟨.inl ⟨by rw [He.out]; decide, by rw [He.out]; rfl⟩, Below.refl _ _⟩
  · have hz1 : ((n : Int) == 0) = false := by simp; omega
    have hz2 : ¬ 8 < n := by omega
    have H8 := Lib.hid (show ¬ (ws.length = 0 ∨ 8 < ws.length) by omega)
    have Hl := Lib.hid hl
    have hmm := @run_makeMap Try.prog
    clear h8 hl
    go_enter Try.func10, Try.ntmps10
    go_wp2_with fail
    go_loop [4, 20] (fun s i => ∃ (k : Nat) (x : Int), s = .int .i64 x ∧ i = .int .i64 k ∧ k ≤ n ∧ Hid (x = empW (ws.take k)) ∧ Hid (∀ y ∈ ws.take k, y.length ≤ 64)) (fun _ i => n - (intOf i).toNat)
    case atStart => exact ⟨0, 0, rfl, rfl, Nat.zero_le _, Lib.hid rfl, Lib.hid (by simp)⟩
    case round =>
      obtain ⟨k, x, rfl, rfl, hk, hx, hf⟩ := hrel
      by_cases hlt : k < n
      · obtain ⟨b, o, v, l, rfl, hb, hlk, hck, hrb⟩ := hr.at_ hlt
        obtain ⟨A1, n1, c1, rfl, hr1, hnc1⟩ := hrb
        have hl1 := hr1.blen
        have Hr := Lib.hid hr
        have Hlk := Lib.hid hlk
        have Hts := Lib.hid (take_step hlk)
        clear hr1 hlk hr
        by_cases h64 : 64 < n1
        · have He := Lib.hid (errW_long H8.out Hlk.out (by omega))
          clear hl1
          go_wp2
          go_ret2
          exact ⟨.inl ⟨by rw [He.out]; decide, by rw [He.out]; rfl⟩, Below.refl _ _⟩
        · have hf2 : Hid (∀ y ∈ ws.take (k + 1), y.length ≤ 64) := Lib.hid (by
            rw [Hts.out]; intro y hy
            rcases List.mem_append.1 hy with h | h
            · exact hf.out y h
            · simp at h; subst h; omega)
          have hsn := empW_snoc (ws.take k) l
          rw [← Hts.out] at hsn
          have Hsn := Lib.hid hsn
          have Hl1 := Lib.hid hl1
          clear hsn hl1
          by_cases hn1 : n1 = 0
          · have hb0 : ((n1 : Int) == 0) = true := by simp [hn1]
            have Hn1 := Lib.hid hn1
            clear hn1
            go_wp2
            go_round
            case rel => exact ⟨k + 1, 1, rfl, by go_num, by omega, Lib.hid (by rw [Hsn.out, if_pos (by rw [Hl1.out]; exact Hn1.out)]), hf2⟩
            case measure => simp [intOf]; omega
          · have hb0 : ((n1 : Int) == 0) = false := by simp; omega
            go_wp2
            go_round
            case rel => exact ⟨k + 1, x, rfl, by go_num, by omega, Lib.hid (by rw [Hsn.out, if_neg (by rw [Hl1.out]; exact hn1)]; exact hx.out), hf2⟩
            case measure => simp [intOf]; omega
      · obtain rfl : n = k := by omega
        have hfl : ∀ y ∈ ws, y.length ≤ 64 := by have := hf.out; rwa [List.take_of_length_le (by rw [Hl.out]; omega)] at this
        have hxe : x = empW ws := by have := hx.out; rwa [List.take_of_length_le (by rw [Hl.out]; omega)] at this
        have he := errW_fits H8.out hfl
        rcases empW_01 ws with h0 | h1
        · have hx0 : x = 0 := hxe.trans h0
          have He := Lib.hid (he.trans h0)
          subst hx0
          have Hfl := Lib.hid hfl
          clear hxe he h0 hfl
          have ha0 := Lib.hid (at0 w (n : Int))
          have hs0 := Lib.hid (sem0 w.heap.size ws)
          have Hr0 := Lib.hid hr
          have hb0 : Below w.heap.size w (((w.alloc (.map #[] 0)).alloc (.cells #[.map (some w.heap.size), .int .i64 0, .slice none 0 0] 47)).alloc (.cells #[.slice (some ⟨w.heap.size + 1, 0, none⟩) 1 1, .int .i64 (n : Int)] 50)) :=
            (((Below.refl _ _).alloc (Nat.le_refl _) _).alloc (by simp) _).alloc (by simp <;> omega) _
          have Hb0 := Lib.hid hb0
          clear hb0 hr hx hf
          go_wp2_with fail
          go_loopw [45] (fun i wr => ∃ (k : Nat) (T : Tt), i = .int .i64 k ∧ k ≤ n ∧ Hid (AT wr w.heap.size (w.heap.size + 2) (n : Int) T ∧ SemA T ws k 0) ∧ Below w.heap.size w wr) (fun i _ => n - (intOf i).toNat)
          case atStart => exact ⟨0, tt0 w.heap.size, rfl, Nat.zero_le _, Lib.hid ⟨ha0.out, hs0.out⟩, Hb0.out⟩
          case round =>
            obtain ⟨k, T, rfl, hk, hT, hbl⟩ := hrel
            clear ha0 hs0 Hb0
            have hz := hbl.size
            by_cases hlt : k < n
            · obtain ⟨b, o, v, l, rfl, hb, hlk, hck, hrb⟩ := (Hr0.out.below hbl (Nat.le_refl _)).at_ hlt
              obtain ⟨A1, n1, c1, rfl, hr1, hnc1⟩ := hrb
              have hwd : wdj ws k = l := by unfold wdj; rw [hlk]; rfl
              have hn1 : n1 ≤ 64 := by
                have := Hfl.out l (List.mem_of_getElem? hlk)
                have := hr1.blen; omega
              have had := add_any w.heap.size (w.heap.size + 2) k (n : Int) T ws A1 n1 c1 wr hT.out.1 hT.out.2 (by rw [hwd]; exact hr1) hn1 (by omega) hz
              have Had := Lib.hid had
              clear had hr1 hwd hlk
              go_wp2_with fail
              refine Had.out.mono ?_
              rintro e w2 ⟨rfl, ⟨T2, ht1, ht2⟩, hb2⟩
              have Hfin := Lib.hid (And.intro ht1 ht2)
              clear ht1 ht2 Had
              go_wp2
              go_roundw
              case rel => exact ⟨k + 1, T2, by go_num, by omega, Hfin, hbl.trans hb2⟩
              case measure => simp [intOf]; omega
            · obtain rfl : n = k := by omega
              have hs2 := hT.out.2
              rw [← Hl.out] at hs2
              have hlk := link_any w.heap.size (w.heap.size + 2) (n : Int) T ws wr hT.out.1 hs2.tr hs2.le (by have := hs2.nn; have := Hl.out; omega) hs2.wi (hs2.toSV (by have := Hl.out; omega)) (List.length_pos_of_mem hs2.tr.mem0) hz
              have Hlk := Lib.hid hlk
              have Hs2 := Lib.hid hs2
              clear hlk hs2
              go_wp2_with fail
              refine Hlk.out.mono ?_
              rintro e w2 ⟨rfl, ⟨T2, hS, hat, P, hsv, hall⟩, hb2⟩
              have haw : AW w2 w.heap.size (w.heap.size + 2) ws := by
                refine ⟨T2, by rw [Hl.out]; exact hat, ?_⟩
                have hs2 := Hs2.out
                rw [← hS] at hsv hall
                exact ⟨by rw [hS]; exact hs2.tr, by rw [hS]; exact hs2.le, by rw [hS]; have := hs2.nn; have := Hl.out; omega, by rw [hS]; exact hs2.wi, fun i hi _ => hsv.b1 i hi (hall i hi), fun i hi => hsv.e1 i hi (hall i hi), fun i hi => by
                  have h1 := hsv.l1 i hi (hall i hi)
                  have h2 := hs2.le _ (by rw [← hS]; exact str_mem hi)
                  unfold slen at h1; omega⟩
              have Haw := Lib.hid haw
              clear haw hS hat hsv hall Hlk
              go_wp2
              go_ret2
              exact ⟨.inr ⟨He.out, _, rfl, Haw.out⟩, hbl.trans hb2⟩
        · have hx0 : x = 1 := hxe.trans h1
          have He := Lib.hid (he.trans h1)
          subst hx0
          clear hxe he h1 hfl
          go_wp2
          go_ret2
          exact ⟨.inl ⟨by rw [He.out]; decide, by rw [He.out]; rfl⟩, Below.refl _ _⟩
end Go.Proofs.Ythfpdiaobkccbaa
