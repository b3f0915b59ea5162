/- Contracts of package bits: the writer. -/
import Derived.Test.YtnedboomhbdecaaMem
import Derived.Test.YtnedboomhbdecaaCh
import Derived.Test.YtnedboomhbdecaaBitP
import Derived.StillTailTactics
namespace Go.Proofs.Ytnedboomhbdecaa
open Go.RowKit

/-- A writer at block g that holds these bits; all its blocks are in S. -/
def WrS (w : World) (S : Nat → Prop) (g : Nat) (l : List Bool) : Prop :=
  ∃ v, Bk w g 80 #[v, .int .i64 (l.length : Int)] ∧ w.ownsRow 0 5 1 v ((l.length + 7) / 8) (bys (packB l)) ∧ S g ∧ (∀ k, v.ownBlock = some k → S k ∧ k ≠ g) ∧ ∀ k, S k → k < w.heap.size
theorem WrS.ch {w w' : World} {S S' : Nat → Prop} {g : Nat} {l : List Bool} (h : WrS w S g l) (k : Ch S' w w') (hd : ∀ i, S i → ¬ S' i) : WrS w' S g l := by
  obtain ⟨v, h1, h2, h3, h4, h5⟩ := h
  exact ⟨v, h1.ch k (hd g h3), own_ch h2 k (fun i hi => hd i (h4 i hi).1), h3, h4, fun i hi => Nat.lt_of_lt_of_le (h5 i hi) k.size⟩

theorem held_any (x : Int) (w : World) : Calls Try.prog 53 #[.int .i64 x] w fun e w' => e = .returned (.int .i64 (hel x)) ∧ w = w' := by
  go_enter Try.func53, Try.ntmps53
  go_wp2
  all_goals
    go_ret
    exact ⟨ret_int (by unfold hel; omega), rfl⟩

theorem write_any (w : World) : Calls Try.prog 16 #[] w fun e w' => e = .returned (.pointer (some ⟨w.heap.size, 0, none⟩)) ∧ WrS w' (fun k => k = w.heap.size) w.heap.size [] ∧ Ch (fun _ => False) w w' ∧ w.heap.size < w'.heap.size := by
  go_enter Try.func16, Try.ntmps16
  go_wp2
  go_ret
  exact ⟨rfl, ⟨.slice none 0 0, Bk.new w _ _, own_nilB _ _ _, rfl, by simp [Value.ownBlock], by simp⟩, (Ch.refl _ _).alloc _, by simp⟩

set_option maxHeartbeats 1000000 in
set_option maxRecDepth 100000 in
/-- Writing a bit. -/
theorem one_any (g : Nat) (S : Nat → Prop) (l : List Bool) (b : Bool) (w : World) (h : WrS w S g l) (hl : l.length ≤ 1099511627776) :
    Calls Try.prog 54 #[.pointer (some ⟨g, 0, none⟩), .int .i64 (b.toNat : Int)] w fun e w' => e = .returned (.tuple #[]) ∧ ∃ S', WrS w' S' g (l ++ [b]) ∧ Ch S w w' ∧ ∀ k, S' k → S k ∨ w.heap.size ≤ k := by
  obtain ⟨v, hb, hown, hSg, hSv, hlt⟩ := h
  obtain ⟨n, hn⟩ : ∃ n, l.length = n := ⟨_, rfl⟩
  rw [hn] at hb hown hl
  have hpl := packB_len l
  have hbl := byteAt_lt l
  rw [hn] at hpl hbl
  have Hn := Lib.hid hn
  have hgl := hb.lt
  have hc1 := hb.cell 1
  have hf1 := hb.free 1
  have hc0 := hb.cell 0
  have hf0 := hb.free 0
  simp at hc0 hc1
  have hx : ∃ x : UInt8, (n % 8 ≠ 0 → (packB l)[n / 8]? = some x) ∧ x.toNat < 2 ^ (n % 8) ∧ (n % 8 ≠ 0 → packB (l ++ [b]) = (packB l).set (n / 8) (UInt8.ofNat (x.toNat + b.toNat * 2 ^ (n % 8)))) ∧ (n % 8 = 0 → x = 0) := by
    by_cases h8 : n % 8 = 0
    · exact ⟨0, fun h => absurd h8 h, by rw [h8]; decide, fun h => absurd h8 h, fun _ => rfl⟩
    · exact ⟨byteAt l (n / 8), fun _ => packB_at l _ (by omega), hbl, fun _ => by have := packB_into l b (by rw [hn]; exact h8); rw [hn] at this; exact this, fun h => absurd h h8⟩
  clear hn hbl
  obtain ⟨x, hx1, hx2, hx3, hx4⟩ := hx
  have hq1 : IntKind.i64.wrap ((n : Int).tdiv 8) = (n : Int) / 8 := IntWalk.i64_quo _ _ (by omega)
  have hq1b : IntKind.i64.wrap ((n : Int) / 8) = (n : Int) / 8 := IntWalk.i64_in _ (by omega)
  have hq2 : (n : Int).tmod 8 = (n : Int) % 8 := Int.tmod_eq_emod_of_nonneg (by omega)
  have hq3 : ((n : Int) / 8).toNat = n / 8 := by omega
  have hq4 : 0 ≤ (n : Int) / 8 := by omega
  have hq6 : 0 ≤ (n : Int) % 8 := by omega
  have hq7 : ((n : Int) % 8).toNat = n % 8 := by omega
  have hr8 : n % 8 < 8 := Nat.mod_lt _ (by omega)
  have hbs := bit_shift b (n % 8) hr8
  have hmin : min (n % 8) 64 = n % 8 := by omega
  have hq8 : IntKind.i64.wrap ((b.toNat : Int) * 2 ^ (n % 8)) = ((b.toNat * 2 ^ (n % 8) : Nat) : Int) := by
    have e : (b.toNat : Int) * 2 ^ (n % 8) = ((b.toNat * 2 ^ (n % 8) : Nat) : Int) := by simp
    rw [e]; exact IntWalk.i64_in _ (by omega)
  have hq9 : IntKind.u8.wrap ((b.toNat * 2 ^ (n % 8) : Nat) : Int) = ((b.toNat * 2 ^ (n % 8) : Nat) : Int) := IntWalk.u8_in _ (by omega)
  have hq9b : IntKind.u8.wrap ((b.toNat : Int) * 2 ^ (n % 8)) = ((b.toNat * 2 ^ (n % 8) : Nat) : Int) := by
    have e : (b.toNat : Int) * 2 ^ (n % 8) = ((b.toNat * 2 ^ (n % 8) : Nat) : Int) := by simp
    rw [e]; exact hq9
  have hq10 : bits .or .u8 (x.toNat : Int) ((b.toNat : Int) * 2 ^ (n % 8)) = ((x.toNat + b.toNat * 2 ^ (n % 8) : Nat) : Int) := by
    have e : (b.toNat : Int) * 2 ^ (n % 8) = ((b.toNat * 2 ^ (n % 8) : Nat) : Int) := by simp
    rw [e]; exact or_u8_add x.toNat _ (n % 8) hr8 hx2 b rfl
  have hq9c : IntKind.u8.wrap ((b.toNat : Int) * 2 ^ (n % 8)) = (b.toNat : Int) * 2 ^ (n % 8) := by rw [hq9b]; simp
  have hq8c : IntKind.i64.wrap ((b.toNat : Int) * 2 ^ (n % 8)) = (b.toNat : Int) * 2 ^ (n % 8) := by rw [hq8]; simp
  clear hq9 hq9b hq8
  have hp8 := two_pow_lt8 (n % 8) hr8
  have hval : (((UInt8.ofNat (x.toNat + b.toNat * 2 ^ (n % 8))).toNat : Nat) : Int) = ((x.toNat + b.toNat * 2 ^ (n % 8) : Nat) : Int) := by
    simp only [UInt8.toNat_ofNat']
    omega
  by_cases h8 : n % 8 = 0
  · have ht : ((n : Int) % 8 == 0) = true := by simp; omega
    have hx0 : (packB l ++ [0])[n / 8]? = some x := by
      rw [List.getElem?_append_right (by omega), hx4 h8]
      have : n / 8 - (packB l).length = 0 := by omega
      rw [this]; rfl
    have hfin : (packB l ++ [0]).set (n / 8) (UInt8.ofNat (x.toNat + b.toNat * 2 ^ (n % 8))) = packB (l ++ [b]) := by
      rw [packB_begin l b (by rw [Hn.out]; exact h8), List.set_append_right _ _ (by omega), hx4 h8, h8]
      have : n / 8 - (packB l).length = 0 := by omega
      rw [this]
      simp
    have HX := Lib.hid hx0
    have HF := Lib.hid hfin
    have HV := Lib.hid hval
    clear hx1 hx3 hx4 hx0 hfin hval
    go_enter Try.func54, Try.ntmps54
    go_wp2_with (
      at_builtin
      refine ap_bys (hown.alloc _) (Rd.oneB w _ (show (0 : Int) = (((0 : UInt8).toNat : Nat) : Int) from rfl)) (Below.refl 0 _) (Nat.zero_le _) (by omega) rfl rfl rfl ?_
      intro v1 w1 hown1 _ hg1 hv1
      obtain ⟨p, c1, rfl, _, hpl1, hpc⟩ := own_pos hown1 (by omega)
      have hgv : some g ≠ v.ownBlock := fun e => (hSv g e.symm).2 rfl
      have hbk1 := (hb.alloc (.cells #[.int .u8 0] 5)).grown hg1 hgv
      have hd0 := hbk1.cell 0
      have he0 := hbk1.free 0
      simp at hd0
      have hch1 : Ch S w w1 := ((Ch.refl S w).alloc _).grown hg1 (fun i hi => .inl (hSv i hi).1)
      clear hc0 hc1 hf0 hf1)
    have hpp : p ≠ g ∧ (S p ∨ w.heap.size ≤ p) := by
      rcases hv1 with hv1 | hv1
      · have := hSv p hv1.symm
        exact ⟨this.2, .inl this.1⟩
      · have h1 : p = (w.alloc (.cells #[.int .u8 0] 5)).heap.size := by simpa [Value.ownBlock] using hv1
        simp at h1
        exact ⟨by omega, .inr (by omega)⟩
    obtain ⟨hpg, hpS⟩ := hpp
    have hbk := hbk1.set 0 (.slice (some ⟨p, 0, none⟩) ((n + 7) / 8 + 1) c1)
    simp only [List.setIfInBounds_toArray, List.set_cons_zero] at hbk
    have hch := hch1.set (p := ⟨g, 0, none⟩) (.inl hSg) (.slice (some ⟨p, 0, none⟩) ((n + 7) / 8 + 1) c1)
    have how := own_ch hown1 ((Ch.refl (fun k => k = g) _).set (p := ⟨g, 0, none⟩) (.inl rfl) (.slice (some ⟨p, 0, none⟩) ((n + 7) / 8 + 1) c1)) (fun i hi => by simp [Value.ownBlock] at hi; omega)
    have hnb : n / 8 < (n + 7) / 8 + 1 := by omega
    have hnb2 : (n + 1 + 7) / 8 = (n + 7) / 8 + 1 := by omega
    generalize w1.setCell ⟨g, 0, none⟩ (.slice (some ⟨p, 0, none⟩) ((n + 7) / 8 + 1) c1) = W at *
    have hx0 := HX.out
    have hfin := HF.out
    have hval := HV.out
    generalize packB l ++ [0] = bs at *
    generalize (n + 7) / 8 + 1 = nb at *
    clear hbk1 hch1 hown1 hg1 hd0 he0 ht hown hb HX HF
    have H8 := Lib.hid h8
    clear h8
    have hca := hbk.cell 0
    have hcb := hbk.cell 1
    have hfb := hbk.free 1
    simp at hca hcb
    have hcx : W.cell? ⟨p, n / 8, none⟩ = some (.int .u8 (x.toNat : Int)) := by
      have := own_byte how hnb
      rw [hx0] at this
      exact this
    have hfx := how.frozenAt (n / 8)
    have hnbI : (n : Int) / 8 < (nb : Int) := by omega
    have hset := own_set (w := W.drew) how (n / 8) (UInt8.ofNat (x.toNat + b.toNat * 2 ^ (n % 8)))
    rw [hval, hfin] at hset
    have hbk2 := hbk.drew.far (p := ⟨p, n / 8, none⟩) (Ne.symm hpg) (.int .u8 ((x.toNat + b.toNat * 2 ^ (n % 8) : Nat) : Int))
    have hch2 := hch.drew.set (p := ⟨p, n / 8, none⟩) hpS (.int .u8 ((x.toNat + b.toNat * 2 ^ (n % 8) : Nat) : Int))
    go_still_tail 21, (by kernel_rfl)
    change wpList _ _ _ _ _ W.drew
    have hcx2 : W.drew.cell? ⟨p, n / 8, none⟩ = some (.int .u8 (x.toNat : Int)) := hcx
    have hfx2 : W.drew.frozen? ⟨p, n / 8, none⟩ = false := hfx
    clear hca hcb hfb hcx hfx hch hbk how
    generalize W.drew = W2 at *
    generalize hY : x.toNat + b.toNat * 2 ^ (n % 8) = Y at *
    have hY2 : (x.toNat : Int) + (b.toNat : Int) * 2 ^ (n % 8) = (Y : Int) := by rw [← hY]; simp
    rw [hY2]
    have hd1 := hbk2.cell 1
    have he1 := hbk2.free 1
    simp at hd1
    have hbk3 := hbk2.set 1 (.int .i64 ((n : Int) + 1))
    simp only [List.setIfInBounds_toArray, List.set_cons_zero, List.set_cons_succ] at hbk3
    have hch3 := hch2.set (p := ⟨g, 1, none⟩) (.inl hSg) (.int .i64 ((n : Int) + 1))
    have how3 := own_ch hset.1 ((Ch.refl (fun k => k = g) _).set (p := ⟨g, 1, none⟩) (.inl rfl) (.int .i64 ((n : Int) + 1))) (fun i hi => by simp [Value.ownBlock] at hi; omega)
    have hsz := hch2.size
    have hpl3 := own_pos how3 (by omega)
    clear hset hbk2 hq1 hq1b hq2 hq3 hq4 hq6 hq7 hmin hq8c hq9c hq10
    go_wp2_with fail
    go_end0
    refine ⟨rfl, fun k => S k ∨ k = p, ⟨.slice (some ⟨p, 0, none⟩) nb c1, ?_, ?_, .inl hSg, ?_, ?_⟩, hch3, ?_⟩
    · rw [List.length_append, Hn.out]; exact hbk3
    · rw [List.length_append, Hn.out]
      have : (n + 1 + 7) / 8 = nb := hnb2
      simp only [List.length_singleton]
      rw [this]; exact how3
    · intro k hk
      simp only [Value.ownBlock, Option.some.injEq] at hk
      subst hk
      exact ⟨.inr rfl, hpg⟩
    · obtain ⟨_, _, e, _, h1, _⟩ := hpl3
      simp only [Value.slice.injEq, Option.some.injEq, Addr.mk.injEq, and_true, true_and] at e
      rw [← e.1] at h1
      rintro k (hk | hk)
      · exact Nat.lt_of_lt_of_le (hlt k hk) hch3.size
      · rw [hk]; exact h1
    · rintro k (hk | rfl)
      · exact .inl hk
      · exact hpS
  · have ht : ((n : Int) % 8 == 0) = false := by simp; omega
    have hx0 := hx1 h8
    have hfin := (hx3 h8).symm
    obtain ⟨p, c1, rfl, _, hpl1, hpc⟩ := own_pos hown (by omega)
    have hpp := hSv p rfl
    have hpg : p ≠ g := hpp.2
    have hpS : S p ∨ w.heap.size ≤ p := .inl hpp.1
    have hnb : n / 8 < (n + 7) / 8 := by omega
    have hnb2 : (n + 1 + 7) / 8 = (n + 7) / 8 := by omega
    have HX := Lib.hid hx0
    have HF := Lib.hid hfin
    have HV := Lib.hid hval
    clear hx1 hx3 hx4 hx0 hfin hval
    go_enter Try.func54, Try.ntmps54
    go_wp2_with fail
    have hx0 := HX.out
    have hfin := HF.out
    have hval := HV.out
    have hbk := hb
    have how := hown
    have hch := Ch.refl S w
    generalize packB l = bs at hx0 hfin how hpl
    generalize (n + 7) / 8 = nb at *
    obtain ⟨W, hW⟩ : ∃ W : World, W = w := ⟨_, rfl⟩
    rw [← hW] at hbk how
    have hch : Ch S w W := by rw [hW]; exact Ch.refl S w
    rw [← hW]
    clear hW hc0 hc1 hf0 hf1 ht hown hb HX HF
    have H8 := Lib.hid h8
    clear h8
    have hca := hbk.cell 0
    have hcb := hbk.cell 1
    have hfb := hbk.free 1
    simp at hca hcb
    have hcx : W.cell? ⟨p, n / 8, none⟩ = some (.int .u8 (x.toNat : Int)) := by
      have := own_byte how hnb
      rw [hx0] at this
      exact this
    have hfx := how.frozenAt (n / 8)
    have hnbI : (n : Int) / 8 < (nb : Int) := by omega
    have hset := own_set (w := W.drew) how (n / 8) (UInt8.ofNat (x.toNat + b.toNat * 2 ^ (n % 8)))
    rw [hval, hfin] at hset
    have hbk2 := hbk.drew.far (p := ⟨p, n / 8, none⟩) (Ne.symm hpg) (.int .u8 ((x.toNat + b.toNat * 2 ^ (n % 8) : Nat) : Int))
    have hch2 := hch.drew.set (p := ⟨p, n / 8, none⟩) hpS (.int .u8 ((x.toNat + b.toNat * 2 ^ (n % 8) : Nat) : Int))
    go_still_tail 21, (by kernel_rfl)
    change wpList _ _ _ _ _ W.drew
    have hcx2 : W.drew.cell? ⟨p, n / 8, none⟩ = some (.int .u8 (x.toNat : Int)) := hcx
    have hfx2 : W.drew.frozen? ⟨p, n / 8, none⟩ = false := hfx
    clear hca hcb hfb hcx hfx hch hbk how
    generalize W.drew = W2 at *
    generalize hY : x.toNat + b.toNat * 2 ^ (n % 8) = Y at *
    have hY2 : (x.toNat : Int) + (b.toNat : Int) * 2 ^ (n % 8) = (Y : Int) := by rw [← hY]; simp
    rw [hY2]
    have hd1 := hbk2.cell 1
    have he1 := hbk2.free 1
    simp at hd1
    have hbk3 := hbk2.set 1 (.int .i64 ((n : Int) + 1))
    simp only [List.setIfInBounds_toArray, List.set_cons_zero, List.set_cons_succ] at hbk3
    have hch3 := hch2.set (p := ⟨g, 1, none⟩) (.inl hSg) (.int .i64 ((n : Int) + 1))
    have how3 := own_ch hset.1 ((Ch.refl (fun k => k = g) _).set (p := ⟨g, 1, none⟩) (.inl rfl) (.int .i64 ((n : Int) + 1))) (fun i hi => by simp [Value.ownBlock] at hi; omega)
    have hsz := hch2.size
    have hpl3 := own_pos how3 (by omega)
    clear hset hbk2 hq1 hq1b hq2 hq3 hq4 hq6 hq7 hmin hq8c hq9c hq10
    go_wp2_with fail
    go_end0
    refine ⟨rfl, fun k => S k ∨ k = p, ⟨.slice (some ⟨p, 0, none⟩) nb c1, ?_, ?_, .inl hSg, ?_, ?_⟩, hch3, ?_⟩
    · rw [List.length_append, Hn.out]; exact hbk3
    · rw [List.length_append, Hn.out]
      have : (n + 1 + 7) / 8 = nb := hnb2
      simp only [List.length_singleton]
      rw [this]; exact how3
    · intro k hk
      simp only [Value.ownBlock, Option.some.injEq] at hk
      subst hk
      exact ⟨.inr rfl, hpg⟩
    · obtain ⟨_, _, e, _, h1, _⟩ := hpl3
      simp only [Value.slice.injEq, Option.some.injEq, Addr.mk.injEq, and_true, true_and] at e
      rw [← e.1] at h1
      rintro k (hk | hk)
      · exact Nat.lt_of_lt_of_le (hlt k hk) hch3.size
      · rw [hk]; exact h1
    · rintro k (hk | rfl)
      · exact .inl hk
      · exact hpS
end Go.Proofs.Ytnedboomhbdecaa
