/- Plain facts on the laying of ways back: states done, states in the row. No program in sight. -/
import Derived.Test.YthfpdiaobkccbaaAhoP
namespace Go.Proofs.Ythfpdiaobkccbaa

def slen (S : List (List UInt8)) (i : Nat) : Nat := (str S i).length
section
variable {S : List (List UInt8)}
theorem nodup_lt : ∀ (n : Nat) (l : List Nat), l.Nodup → (∀ x ∈ l, x < n) → l.length ≤ n
  | 0, l, _, h => by
    cases l with
    | nil => exact Nat.le_refl _
    | cons a l => exact absurd (h a List.mem_cons_self) (by omega)
  | n + 1, l, hn, h => by
    by_cases hm : n ∈ l
    · have h1 := nodup_lt n (l.erase n) (hn.erase n) (fun x hx => by
        have h2 := h x (List.mem_of_mem_erase hx)
        have h3 : x ≠ n := fun e => by subst e; exact hn.not_mem_erase hx
        omega)
      rw [List.length_erase_of_mem hm] at h1
      omega
    · have h1 := nodup_lt n l hn (fun x hx => by
        have h2 := h x hx
        have h3 : x ≠ n := fun e => hm (e ▸ hx)
        omega)
      omega
theorem nx_len {i v : Nat} {c : UInt8} (h : nx S i c = some v) : slen S v = slen S i + 1 := by
  unfold slen; rw [(nx_some h).2.2.2]; simp
theorem parent (ht : Trie S) {i : Nat} (hi : i < S.length) (h0 : i ≠ 0) : ∃ p c, p < S.length ∧ nx S p c = some i := by
  have h2 : str S i ≠ [] := fun e => h0 (str_inj ht.nd hi (by omega : 0 < S.length) (by rw [e, str_zero ht]))
  have hsp := List.dropLast_concat_getLast h2
  have hm := str_mem hi
  have hp : (str S i).dropLast ∈ S := ht.pc _ ((str S i).getLast h2) (by rw [hsp]; exact hm)
  refine ⟨ix S (str S i).dropLast, (str S i).getLast h2, ix_lt hp, ?_⟩
  unfold nx
  rw [str_ix hp, hsp, if_pos hm, ix_str ht.nd hi]
theorem parent_one (ht : Trie S) {p p' v : Nat} {c c' : UInt8} (hp : p < S.length) (hp' : p' < S.length) (h : nx S p c = some v) (h' : nx S p' c' = some v) : p = p' := by
  have e := (nx_some h).2.2.2
  rw [(nx_some h').2.2.2] at e
  exact (str_inj ht.nd hp' hp (List.append_inj' e rfl).1).symm
/-- The states that are done (P), and those in the row (q). -/
structure SQ (S : List (List UInt8)) (P q : List Nat) : Prop where
  nd : (P ++ q).Nodup
  lt : ∀ x ∈ P ++ q, x < S.length
  zero : 0 ∈ P ++ q
  so : q.Pairwise (fun x y => slen S x ≤ slen S y)
  c1 : ∀ h r, q = h :: r → ∀ i, i < S.length → slen S i ≤ slen S h → i ∈ P ++ q
  c2 : ∀ h r, q = h :: r → ∀ x ∈ q, slen S x ≤ slen S h + 1
  d : ∀ i ∈ P, ∀ c v, nx S i c = some v → v ∈ P ++ q
  g : ∀ x ∈ P ++ q, x ≠ 0 → ∃ p ∈ P, ∃ c, nx S p c = some x
theorem SQ.start (ht : Trie S) (h0 : 0 < S.length) : SQ S [] [0] := by
  have hz : slen S 0 = 0 := by unfold slen; rw [str_zero ht]; rfl
  refine ⟨by simp, fun x hx => by simp at hx; omega, by simp, by simp, fun h r e i hi hl => ?_, fun h r e x hx => ?_, fun i hi => by simp at hi, fun x hx hne => by simp at hx; exact absurd hx hne⟩
  · injection e with e1 e2
    subst e1
    rw [hz] at hl
    have : str S i = [] := List.length_eq_zero_iff.1 (by unfold slen at hl; omega)
    have := str_inj ht.nd hi h0 (by rw [this, str_zero ht])
    simp [this]
  · injection e with e1 e2
    simp at hx; subst hx; subst e1; omega
theorem SQ.size {P q : List Nat} (h : SQ S P q) : P.length + q.length ≤ S.length := by
  have := nodup_lt _ _ h.nd h.lt
  rwa [List.length_append] at this
/-- The row's first state is done: its children stand in the row. -/
theorem SQ.pop (ht : Trie S) {P r vs : List Nat} {h : Nat} (H : SQ S P (h :: r)) (hv : vs.Nodup) (hm : ∀ v, v ∈ vs ↔ ∃ c, nx S h c = some v) : SQ S (P ++ [h]) (r ++ vs) := by
  have hh : h < S.length := H.lt h (by simp)
  have eL : P ++ [h] ++ (r ++ vs) = (P ++ h :: r) ++ vs := by simp
  obtain ⟨hPq, hnr, hdis⟩ := List.nodup_append.1 H.nd
  obtain ⟨hhr, hrn⟩ := List.nodup_cons.1 hnr
  have vlt : ∀ v ∈ vs, v < S.length := fun v h1 => by obtain ⟨c, hc⟩ := (hm v).1 h1; exact (nx_some hc).2.2.1
  have vlen : ∀ v ∈ vs, slen S v = slen S h + 1 := fun v h1 => by obtain ⟨c, hc⟩ := (hm v).1 h1; exact nx_len hc
  have v0 : ∀ v ∈ vs, v ≠ 0 := fun v h1 e => by
    have := vlen v h1
    have hz : slen S 0 = 0 := by unfold slen; rw [str_zero ht]; rfl
    rw [e, hz] at this; omega
  have vnew : ∀ v ∈ vs, v ∉ P ++ h :: r := fun v h1 h2 => by
    obtain ⟨c, hc⟩ := (hm v).1 h1
    obtain ⟨p, hp, c', hc'⟩ := H.g v h2 (v0 v h1)
    have e := parent_one ht hh (H.lt p (List.mem_append_left _ hp)) hc hc'
    exact hdis p hp h (by simp) e.symm
  have rlo : ∀ x ∈ r, slen S h ≤ slen S x := fun x hx => (List.pairwise_cons.1 H.so).1 x hx
  have rhi : ∀ x ∈ r, slen S x ≤ slen S h + 1 := fun x hx => H.c2 h r rfl x (List.mem_cons_of_mem _ hx)
  have inL : ∀ x, x ∈ P ++ h :: r → x ∈ P ++ [h] ++ (r ++ vs) := fun x hx => by rw [eL]; exact List.mem_append_left _ hx
  have inV : ∀ x, x ∈ vs → x ∈ P ++ [h] ++ (r ++ vs) := fun x hx => by rw [eL]; exact List.mem_append_right _ hx
  refine ⟨?_, fun x hx => ?_, inL _ H.zero, ?_, fun h' r' e i hi hl => ?_, fun h' r' e x hx => ?_, fun i hi c v hcv => ?_, fun x hx hne => ?_⟩
  · rw [eL, List.nodup_append]
    exact ⟨H.nd, hv, fun a ha b hb e => vnew b hb (e ▸ ha)⟩
  · rw [eL] at hx
    rcases List.mem_append.1 hx with h1 | h1
    · exact H.lt x h1
    · exact vlt x h1
  · rw [List.pairwise_append]
    refine ⟨(List.pairwise_cons.1 H.so).2, ?_, fun a ha b hb => by rw [vlen b hb]; exact rhi a ha⟩
    rw [List.pairwise_iff_forall_sublist]
    intro a b hab
    have ha := hab.subset (by simp : a ∈ [a, b])
    have hb := hab.subset (by simp : b ∈ [a, b])
    rw [vlen a ha, vlen b hb]; exact Nat.le_refl _
  · have hh' : h' ∈ r ++ vs := by rw [e]; exact List.mem_cons_self
    have hl' : slen S h' = slen S h ∨ slen S h' = slen S h + 1 := by
      rcases List.mem_append.1 hh' with h1 | h1
      · have := rlo _ h1; have := rhi _ h1; omega
      · exact .inr (vlen _ h1)
    by_cases hle : slen S i ≤ slen S h
    · exact inL i (H.c1 h r rfl i hi hle)
    · have hi1 : slen S i = slen S h + 1 := by omega
      have hh1 : slen S h' = slen S h + 1 := by omega
      have i0 : i ≠ 0 := fun e2 => by
        have hz : slen S 0 = 0 := by unfold slen; rw [str_zero ht]; rfl
        rw [e2, hz] at hi1; omega
      obtain ⟨p, c, hp, hpc⟩ := parent ht hi i0
      have hpl := nx_len hpc
      have hpm := H.c1 h r rfl p hp (by omega)
      rcases List.mem_append.1 hpm with h1 | h1
      · exact inL i (H.d p h1 c i hpc)
      · rcases List.mem_cons.1 h1 with h2 | h2
        · subst h2; exact inV i ((hm i).2 ⟨c, hpc⟩)
        · exfalso
          cases hr : r with
          | nil => rw [hr] at h2; cases h2
          | cons x r2 =>
            rw [hr] at e h2
            injection e with e1 e2
            subst e1
            have hso := (List.pairwise_cons.1 H.so).2
            rw [hr] at hso
            have hpx : slen S x ≤ slen S p := by
              rcases List.mem_cons.1 h2 with h3 | h3
              · rw [h3]; exact Nat.le_refl _
              · exact (List.pairwise_cons.1 hso).1 p h3
            omega
  · have hh' : h' ∈ r ++ vs := by rw [e]; exact List.mem_cons_self
    have h1 : slen S h ≤ slen S h' := by
      rcases List.mem_append.1 hh' with h1 | h1
      · exact rlo _ h1
      · rw [vlen _ h1]; omega
    rcases List.mem_append.1 hx with h2 | h2
    · have := rhi _ h2; omega
    · rw [vlen _ h2]; omega
  · rcases List.mem_append.1 hi with h1 | h1
    · exact inL v (H.d i h1 c v hcv)
    · simp only [List.mem_singleton] at h1
      subst h1
      exact inV v ((hm v).2 ⟨c, hcv⟩)
  · rw [eL] at hx
    rcases List.mem_append.1 hx with h1 | h1
    · obtain ⟨p, hp, hc⟩ := H.g x h1 hne
      exact ⟨p, List.mem_append_left _ hp, hc⟩
    · obtain ⟨c, hc⟩ := (hm x).1 h1
      exact ⟨h, by simp, c, hc⟩
theorem nx_inj {i v : Nat} {c c' : UInt8} (h : nx S i c = some v) (h' : nx S i c' = some v) : c = c' := by
  have e := (nx_some h).2.2.2
  rw [(nx_some h').2.2.2] at e
  have := (List.append_inj' e rfl).2
  simpa using this.symm
/-- A child of the row's first state is not linked. -/
theorem SQ.new (ht : Trie S) {P r : List Nat} {h v : Nat} {c : UInt8} (H : SQ S P (h :: r)) (hc : nx S h c = some v) : v ∉ P ++ h :: r := fun h2 => by
  have hh : h < S.length := H.lt h (by simp)
  obtain ⟨_, _, hdis⟩ := List.nodup_append.1 H.nd
  have v0 : v ≠ 0 := fun e => by
    have := nx_len hc
    have hz : slen S 0 = 0 := by unfold slen; rw [str_zero ht]; rfl
    rw [e, hz] at this; omega
  obtain ⟨p, hp, c', hc'⟩ := H.g v h2 v0
  have e := parent_one ht hh (H.lt p (List.mem_append_left _ hp)) hc hc'
  exact hdis p hp h (by simp) e.symm
/-- At the end all are done. -/
theorem SQ.all (ht : Trie S) {P : List Nat} (H : SQ S P []) : ∀ (k i : Nat), slen S i ≤ k → i < S.length → i ∈ P
  | 0, i, hk, hi => by
    have : str S i = [] := List.length_eq_zero_iff.1 (by unfold slen at hk; omega)
    have := str_inj ht.nd hi (by omega : 0 < S.length) (by rw [this, str_zero ht])
    have h0 := H.zero
    rw [List.append_nil] at h0
    rw [this]; exact h0
  | k + 1, i, hk, hi => by
    by_cases h0 : i = 0
    · have h1 := H.zero
      rw [List.append_nil] at h1
      rw [h0]; exact h1
    · obtain ⟨p, c, hp, hpc⟩ := parent ht hi h0
      have hl := nx_len hpc
      have h1 := H.d p (SQ.all ht H k p (by omega) hp) c i hpc
      rwa [List.append_nil] at h1
/-- The values of the states of L are laid; of the others they are as they were. -/
structure SV (S : List (List UInt8)) (B : Nat → Nat) (E : Nat → List Nat) (ws : List (List UInt8)) (L : List Nat) : Prop where
  b1 : ∀ i, i < S.length → i ∈ L → B i = bk S i
  b0 : ∀ i, i < S.length → i ∉ L → B i = 0
  e1 : ∀ i, i < S.length → i ∈ L → ∀ j, j ∈ E i ↔ j < ws.length ∧ (ws[j]?.getD []) <:+ str S i
  e0 : ∀ i, i < S.length → i ∉ L → ∀ j, j ∈ E i ↔ j < ws.length ∧ (ws[j]?.getD []) = str S i
  l1 : ∀ i, i < S.length → i ∈ L → (E i).length ≤ 8 * (slen S i + 1)
  l0 : ∀ i, i < S.length → i ∉ L → (E i).length ≤ 8
theorem SV.step (ht : Trie S) {B : Nat → Nat} {E : Nat → List Nat} {ws : List (List UInt8)} {L : List Nat} (H : SV S B E ws L) (hw : ∀ j, j < ws.length → (ws[j]?.getD []) ∈ S) {h v : Nat} {c : UInt8} (_hh : h < S.length) (hv : nx S h c = some v) (hL : v ∉ L)
    (hc : ∀ i, i < S.length → slen S i ≤ slen S h → i ∈ L) :
    SV S (fun i => if i = v then bk S v else B i) (fun i => if i = v then E v ++ E (bk S v) else E i) ws (L ++ [v]) := by
  have hvn := (nx_some hv).2.2.1
  have hvl := nx_len hv
  have v0 : v ≠ 0 := fun e => by
    have hz : slen S 0 = 0 := by unfold slen; rw [str_zero ht]; rfl
    rw [e, hz] at hvl; omega
  have hbl : slen S (bk S v) < slen S v := bk_len ht hvn v0
  have hbL : bk S v ∈ L := hc _ (bk_lt ht v) (by omega)
  refine ⟨fun i hi hm => ?_, fun i hi hm => ?_, fun i hi hm j => ?_, fun i hi hm j => ?_, fun i hi hm => ?_, fun i hi hm => ?_⟩
  · by_cases e : i = v
    · rw [if_pos e, e]
    · rw [if_neg e]
      exact H.b1 i hi (by simpa [e] using hm)
  · have e : i ≠ v := fun e => hm (by simp [e])
    rw [if_neg e]
    exact H.b0 i hi (fun h1 => hm (List.mem_append_left _ h1))
  · by_cases e : i = v
    · subst e
      rw [if_pos rfl, List.mem_append, H.e0 i hi hL j, H.e1 _ (bk_lt ht i) hbL j]
      constructor
      · rintro (⟨h1, h2⟩ | ⟨h1, h2⟩)
        · exact ⟨h1, (ends_iff ht hi v0 (hw j h1)).2 (.inl h2)⟩
        · exact ⟨h1, (ends_iff ht hi v0 (hw j h1)).2 (.inr h2)⟩
      · rintro ⟨h1, h2⟩
        rcases (ends_iff ht hi v0 (hw j h1)).1 h2 with h3 | h3
        · exact .inl ⟨h1, h3⟩
        · exact .inr ⟨h1, h3⟩
    · rw [if_neg e]
      exact H.e1 i hi (by simpa [e] using hm) j
  · have e : i ≠ v := fun e => hm (by simp [e])
    rw [if_neg e]
    exact H.e0 i hi (fun h1 => hm (List.mem_append_left _ h1)) j
  · by_cases e : i = v
    · subst e
      rw [if_pos rfl, List.length_append]
      have h1 := H.l0 i hi hL
      have h2 := H.l1 _ (bk_lt ht i) hbL
      omega
    · rw [if_neg e]
      exact H.l1 i hi (by simpa [e] using hm)
  · have e : i ≠ v := fun e => hm (by simp [e])
    rw [if_neg e]
    exact H.l0 i hi (fun h1 => hm (List.mem_append_left _ h1))
end
end Go.Proofs.Ythfpdiaobkccbaa
