/- A right node's bytes are that node. No program in sight. -/
import Derived.Test.YtelaliokmmaopaaDoorNodK
import Derived.Test.YtelaliokmmaopaaDoorNod5
namespace Go.Proofs.YtelaliokmmaopaaDoor

theorem p256_2 : (256 : Int) ^ 2 = 65536 := by decide
theorem p256_3 : (256 : Int) ^ 3 = 16777216 := by decide
theorem drop_mid {α : Type} (a b : List α) : (a ++ b).drop a.length = b := by simp
theorem drop_mid2 {α : Type} (a b c : List α) {k : Nat} (hk : k = (a ++ b).length) : (a ++ (b ++ c)).drop k = c := by subst hk; rw [← List.append_assoc]; simp
theorem take_mid {α : Type} (b c : List α) {k : Nat} (hk : k = b.length) : (b ++ c).take k = b := by subst hk; simp
theorem nAt_mid (a b : List UInt8) (z : Int) (w : Nat) (h0 : 0 ≤ z) (h1 : z < 256 ^ w) {p : Nat} (hp : p = a.length) : nAt (a ++ (leB z w ++ b)) p w = z := by
  subst hp
  unfold nAt
  rw [drop_mid, take_mid _ _ (leB_length z w).symm]
  rw [leN_leB]
  exact Int.emod_eq_of_lt h0 h1
theorem nAt_byte (a b : List UInt8) (x : UInt8) {p : Nat} (hp : p = a.length) : nAt (a ++ (x :: b)) p 1 = (x.toNat : Int) := by
  subst hp
  unfold nAt
  rw [drop_mid]
  simp [leN]
theorem stepC_pack (a b : List UInt8) (lf : Bool) (k : Int) (c : CellP) (hc : okC lf c) (hk : 0 ≤ k ∧ k < 16777216) : stepC (a ++ (packC lf k c ++ b)) lf a.length = some (c, if lf then [] else [k], a.length + (packC lf k c).length) := by
  obtain ⟨⟨h1, h2⟩, h3⟩ := hc
  obtain ⟨key, val, over, long⟩ := c
  simp only at h1 h2 h3
  have hx : (UInt8.ofNat key.length).toNat = key.length := by simp; omega
  obtain ⟨tl, htl⟩ : ∃ tl, (if lf = false then leB k 3 else if over = 0 then leB (val.length : Int) 2 ++ val else leB long 2 ++ leB over 3) = tl := ⟨_, rfl⟩
  have hp : packC lf k ⟨key, val, over, long⟩ = (UInt8.ofNat key.length :: key) ++ tl := by unfold packC; rw [← htl]
  have hL : a ++ (packC lf k ⟨key, val, over, long⟩ ++ b) = a ++ (UInt8.ofNat key.length :: (key ++ (tl ++ b))) := by rw [hp]; simp
  have hL2 : a ++ (packC lf k ⟨key, val, over, long⟩ ++ b) = (a ++ (UInt8.ofNat key.length :: key)) ++ (tl ++ b) := by rw [hL]; simp
  have hlen : (a ++ (packC lf k ⟨key, val, over, long⟩ ++ b)).length = a.length + 1 + key.length + tl.length + b.length := by rw [hL2]; simp; omega
  have hplen : (packC lf k ⟨key, val, over, long⟩).length = 1 + key.length + tl.length := by rw [hp]; simp; omega
  have n1 : nAt (a ++ (packC lf k ⟨key, val, over, long⟩ ++ b)) a.length 1 = (key.length : Int) := by rw [hL, nAt_byte _ _ _ rfl, hx]
  have hkey : ((a ++ (packC lf k ⟨key, val, over, long⟩ ++ b)).drop (a.length + 1)).take key.length = key := by
    rw [show a ++ (packC lf k ⟨key, val, over, long⟩ ++ b) = a ++ ([UInt8.ofNat key.length] ++ (key ++ (tl ++ b))) by rw [hL]; simp, drop_mid2 a _ _ (by simp), take_mid _ _ rfl]
  obtain ⟨a', ha'⟩ : ∃ a', a ++ (UInt8.ofNat key.length :: key) = a' := ⟨_, rfl⟩
  have hq : a.length + 1 + key.length = a'.length := by rw [← ha']; simp; omega
  rw [ha'] at hL2
  clear ha'
  unfold stepC
  rw [if_pos (by rw [hlen]; omega), n1, Int.toNat_natCast, if_pos (by rw [hlen]; omega), hkey]
  cases lf
  · simp only [if_true, Bool.false_eq_true, if_false] at htl h3 ⊢
    subst htl
    rw [leB_length] at hlen hplen
    have n3 : nAt (a ++ (packC false k ⟨key, val, over, long⟩ ++ b)) (a.length + 1 + key.length) 3 = k := by rw [hL2]; exact nAt_mid _ _ _ _ hk.1 (by rw [p256_3]; omega) hq
    rw [if_pos (by rw [hlen]; omega), n3, hplen]
    obtain ⟨rfl, rfl, h5⟩ := h3
    rw [List.eq_nil_of_length_eq_zero h5]
    simp only [Option.some.injEq, Prod.mk.injEq, true_and]
    omega
  · simp only [Bool.true_eq_false, if_false, if_true] at htl h3 ⊢
    unfold cellP at h3
    simp only at h3
    by_cases h0 : over = 0
    · rw [if_pos h0] at h3 htl
      subst htl
      have hv : valC (a ++ (packC true k ⟨key, val, over, long⟩ ++ b)) (a.length + 1 + key.length) = some (val, 0, 0, a.length + 1 + key.length + 2 + val.length) := by
        rw [show (leB (val.length : Int) 2 ++ val).length = 2 + val.length by rw [List.length_append, leB_length]] at hlen
        have n2 : nAt (a ++ (packC true k ⟨key, val, over, long⟩ ++ b)) (a.length + 1 + key.length) 2 = (val.length : Int) := by
          rw [hL2, List.append_assoc]
          exact nAt_mid _ _ _ _ (Int.natCast_nonneg _) (by rw [p256_2]; omega) hq
        have hval : ((a ++ (packC true k ⟨key, val, over, long⟩ ++ b)).drop (a.length + 1 + key.length + 2)).take val.length = val := by
          rw [hL2, List.append_assoc, drop_mid2 _ _ _ (by rw [List.length_append, leB_length, ← hq]), take_mid _ _ rfl]
        unfold valC
        rw [if_pos (by rw [hlen]; omega), n2, if_neg (by omega), Int.toNat_natCast, if_pos (by rw [hlen]; omega), hval]
      rw [hv, hplen, List.length_append, leB_length]
      simp only [Option.some.injEq, Prod.mk.injEq, CellP.mk.injEq, true_and]
      exact ⟨⟨h0.symm, h3.1.symm⟩, by omega⟩
    · rw [if_neg h0] at h3 htl
      subst htl
      obtain ⟨⟨c1, c2⟩, c3, c4, c5⟩ := h3
      have hv : valC (a ++ (packC true k ⟨key, val, over, long⟩ ++ b)) (a.length + 1 + key.length) = some ([], over, long, a.length + 1 + key.length + 5) := by
        rw [show (leB long 2 ++ leB over 3).length = 5 by rw [List.length_append, leB_length, leB_length]] at hlen
        have n2 : nAt (a ++ (packC true k ⟨key, val, over, long⟩ ++ b)) (a.length + 1 + key.length) 2 = long := by
          rw [hL2, List.append_assoc]
          exact nAt_mid _ _ _ _ (by omega) (by rw [p256_2]; omega) hq
        have n3 : nAt (a ++ (packC true k ⟨key, val, over, long⟩ ++ b)) (a.length + 1 + key.length + 2) 3 = over := by
          rw [hL2, List.append_assoc, ← List.append_assoc]
          exact nAt_mid _ _ _ _ (by omega) (by rw [p256_3]; omega) (by rw [List.length_append, leB_length, ← hq])
        unfold valC
        rw [if_pos (by rw [hlen]; omega), n2, if_pos c3, if_pos (by rw [hlen]; omega), n3]
      rw [hv, hplen, List.length_append, leB_length, leB_length, List.eq_nil_of_length_eq_zero c5]
      simp only [Option.some.injEq, Prod.mk.injEq, true_and]
      omega
theorem packTo_more (N : NodP) (j : Nat) : ∀ d, ∃ t, packTo N (j + d) = packTo N j ++ t
  | 0 => ⟨[], by simp⟩
  | d + 1 => by
    obtain ⟨t, ht⟩ := packTo_more N j d
    exact ⟨t ++ packC N.leaf (N.kids[j + d + 1]?.getD 0) (N.cells[j + d]?.getD ⟨[], [], 0, 0⟩), by rw [show j + (d + 1) = (j + d) + 1 by omega, packTo, ht, List.append_assoc]⟩
theorem pack_head (N : NodP) (zs : List UInt8) : ∃ t, packN N ++ zs = packH N ++ t := by
  obtain ⟨t, ht⟩ := packTo_more N 0 N.cells.length
  rw [Nat.zero_add] at ht
  exact ⟨t ++ zs, by rw [packN, ht, List.append_assoc]; rfl⟩
theorem packH_len (N : NodP) : (packH N).length = if N.leaf then 3 else 6 := by
  unfold packH
  cases N.leaf <;> simp [leB_length]
theorem kid_bd {N : NodP} (h : RightP N) (i : Nat) : 0 ≤ N.kids[i]?.getD 0 ∧ N.kids[i]?.getD 0 < 16777216 := by
  cases hk : N.kids[i]? with
  | none => simp
  | some k =>
    have := h.2.2 k (List.mem_of_getElem? hk)
    unfold childP at this
    simp only [Option.getD_some]
    omega
theorem runC_pack {N : NodP} (h : RightP N) (zs : List UInt8) : ∀ j, j ≤ N.cells.length → runC (packN N ++ zs) N.leaf j = some (N.cells.take j, if N.leaf then [] else N.kids.take (j + 1), (packTo N j).length)
  | 0, _ => by
    obtain ⟨t, ht⟩ := pack_head N zs
    rw [ht, runC]
    have hl := packH_len N
    cases hlf : N.leaf
    · rw [hlf] at hl
      simp only [Bool.false_eq_true, if_false] at hl ⊢
      have hk : N.kids[0]? = some (N.kids[0]?.getD 0) := by
        have := h.1.2.1 hlf
        rw [List.getElem?_eq_getElem (by omega : 0 < N.kids.length)]; rfl
      have hn : nAt (packH N ++ t) 3 3 = N.kids[0]?.getD 0 := by
        have e : packH N ++ t = ((2 : UInt8) :: leB (N.cells.length : Int) 2) ++ (leB (N.kids[0]?.getD 0) 3 ++ t) := by unfold packH; rw [hlf]; simp
        rw [e]
        exact nAt_mid _ _ _ _ (kid_bd h 0).1 (by rw [p256_3]; exact (kid_bd h 0).2) (by simp [leB_length])
      rw [if_pos (by rw [List.length_append, hl]; omega), hn]
      have ht1 : N.kids.take (0 + 1) = [N.kids[0]?.getD 0] := by
        rw [take_step hk]; simp
      rw [ht1]
      simp only [List.take_zero, packTo, hl]
    · rw [hlf] at hl
      simp only [if_true] at hl ⊢
      simp only [List.take_zero, packTo, hl]
  | j + 1, hj => by
    have hc : N.cells[j]? = some N.cells[j] := List.getElem?_eq_getElem (by omega)
    obtain ⟨t, ht⟩ := packTo_more N (j + 1) (N.cells.length - (j + 1))
    rw [show j + 1 + (N.cells.length - (j + 1)) = N.cells.length by omega] at ht
    have e : packN N ++ zs = packTo N j ++ (packC N.leaf (N.kids[j + 1]?.getD 0) N.cells[j] ++ (t ++ zs)) := by
      rw [packN, ht, packTo, hc]; simp
    have ih := runC_pack h zs j (by omega)
    have hs := stepC_pack (packTo N j) (t ++ zs) N.leaf (N.kids[j + 1]?.getD 0) N.cells[j] (h.2.1.1 j _ (by omega) hc) (kid_bd h (j + 1))
    rw [← e] at hs
    rw [runC_succ ih hs, take_step hc, packTo, hc, List.length_append]
    simp only [Option.getD_some, Option.some.injEq, Prod.mk.injEq, true_and, and_true]
    cases hlf : N.leaf
    · have hk : N.kids[j + 1]? = some (N.kids[j + 1]?.getD 0) := by
        have := h.1.2.1 hlf
        rw [List.getElem?_eq_getElem (by omega : j + 1 < N.kids.length)]; rfl
      simp only [Bool.false_eq_true, if_false]
      rw [take_step hk]
    · simp
/-- A right node's bytes, with zeros behind them, are that node. -/
theorem isN_pack {N : NodP} (h : RightP N) (zs : List UInt8) (hz : ∀ x ∈ zs, x = 0) : IsN (packN N ++ zs) N := by
  obtain ⟨t, ht⟩ := pack_head N zs
  have hl := packH_len N
  have e : packH N ++ t = [] ++ ((if N.leaf = true then (1 : UInt8) else 2) :: ((leB (N.cells.length : Int) 2 ++ if N.leaf = true then [] else leB (N.kids[0]?.getD 0) 3) ++ t)) := by unfold packH; simp
  have e2 : packH N ++ t = [if N.leaf = true then (1 : UInt8) else 2] ++ (leB (N.cells.length : Int) 2 ++ ((if N.leaf = true then [] else leB (N.kids[0]?.getD 0) 3) ++ t)) := by unfold packH; simp
  have h0 : nAt (packN N ++ zs) 0 1 = ((if N.leaf = true then (1 : UInt8) else 2).toNat : Int) := by rw [ht, e]; exact nAt_byte _ _ _ rfl
  have h1 : nAt (packN N ++ zs) 1 2 = (N.cells.length : Int) := by
    rw [ht, e2]
    exact nAt_mid _ _ _ _ (Int.natCast_nonneg _) (by rw [p256_2]; have := h.1.2.2; omega) rfl
  refine ⟨by rw [ht, List.length_append, hl]; split <;> omega, ?_, (packN N).length, ?_, h, ?_⟩
  · rw [h0]
    cases hlf : N.leaf
    · exact .inr ⟨rfl, rfl⟩
    · exact .inl ⟨rfl, rfl⟩
  · rw [h1, Int.toNat_natCast, runC_pack h zs _ (Nat.le_refl _), List.take_length]
    have hk : (if N.leaf = true then [] else N.kids.take (N.cells.length + 1)) = N.kids := by
      cases hlf : N.leaf
      · have := h.1.2.1 hlf
        simp only [Bool.false_eq_true, if_false]
        rw [List.take_of_length_le (by omega)]
      · have := h.1.1 hlf
        simp only [if_true]
        exact (List.eq_nil_of_length_eq_zero this).symm
    rw [hk]
    rfl
  · rw [List.drop_left]; exact hz
end Go.Proofs.YtelaliokmmaopaaDoor
