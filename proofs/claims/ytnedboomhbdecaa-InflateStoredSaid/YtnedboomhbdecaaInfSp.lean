/- Package inflate: blocks that are only stored (plain). -/
import Derived.Test.YtnedboomhbdecaaInfWk
namespace Go.Proofs.Ytnedboomhbdecaa
open Go.RowKit

theorem nd_byte {l : List UInt8} {k : Nat} {u : UInt8} (h : l[k]? = some u) : ndP 8 (bitsB l) (8 * k) = some (u.toNat, 8 * k + 8) := by
  have hlt : k < l.length := (List.getElem?_eq_some_iff.1 h).1
  unfold ndP
  rw [if_pos (by rw [bitsB_len]; omega), bitsB_chunk l (8 * k) 8 u (by rw [Nat.mul_div_cancel_left _ (by omega)]; exact h) (by omega)]
  have := natOf_lowB 8 ((u.toNat : Int) / 2 ^ (8 * k % 8))
  have hu := u.toNat_lt
  rw [Nat.mul_mod_right] at this ⊢
  have e : natOf (lowB 8 ((u.toNat : Int) / 2 ^ 0)) = u.toNat := by omega
  rw [e]
theorem nd_in {l : List UInt8} {k s n : Nat} {u : UInt8} (h : l[k]? = some u) (hs : s + n ≤ 8) : ndP n (bitsB l) (8 * k + s) = some (u.toNat / 2 ^ s % 2 ^ n, 8 * k + s + n) := by
  have hlt : k < l.length := (List.getElem?_eq_some_iff.1 h).1
  by_cases hn : n = 0
  · subst hn
    unfold ndP
    rw [if_pos (by rw [bitsB_len]; omega)]
    simp [natOf, Nat.mod_one]
  have e1 : (8 * k + s) / 8 = k := by omega
  have e2 : (8 * k + s) % 8 = s := by omega
  unfold ndP
  rw [if_pos (by rw [bitsB_len]; omega), bitsB_chunk l (8 * k + s) n u (by rw [e1]; exact h) (by omega), e2]
  have := natOf_lowB n ((u.toNat : Int) / 2 ^ s)
  have e : natOf (lowB n ((u.toNat : Int) / 2 ^ s)) = u.toNat / 2 ^ s % 2 ^ n := by
    have e3 : ((u.toNat : Int) / 2 ^ s % 2 ^ n) = ((u.toNat / 2 ^ s % 2 ^ n : Nat) : Int) := by simp
    rw [e3] at this
    exact Int.ofNat.inj this
  rw [e]
theorem nd_two {l : List UInt8} {k : Nat} {u v : UInt8} (h : l[k]? = some u) (h2 : l[k + 1]? = some v) : ndP 16 (bitsB l) (8 * k) = some (u.toNat + 256 * v.toNat, 8 * k + 16) := by
  have hlt : k + 1 < l.length := (List.getElem?_eq_some_iff.1 h2).1
  have p1 := peekN_step l (8 * k) 0 8 u (by rw [Nat.add_zero, Nat.mul_div_cancel_left _ (by omega)]; exact h) (by omega)
  have p2 := peekN_step l (8 * k) 8 8 v (by rw [show (8 * k + 8) / 8 = k + 1 by omega]; exact h2) (by omega)
  have p0 : peekN l (8 * k) 0 = 0 := by simp [peekN, natOf]
  have hu := u.toNat_lt
  have hv := v.toNat_lt
  rw [show (8 * k + 0) % 8 = 0 by omega, p0] at p1
  rw [show (8 * k + 8) % 8 = 0 by omega] at p2
  unfold ndP
  rw [if_pos (by rw [bitsB_len]; omega)]
  have e : natOf ((bitsB l).drop (8 * k) |>.take 16) = u.toNat + 256 * v.toNat := by
    have : peekN l (8 * k) (8 + 8) = u.toNat + 256 * v.toNat := by
      simp only [Nat.zero_add] at p1
      omega
    exact this
  rw [e]
/-- A stored block's first bytes. -/
def blkH (la : Bool) (n : Nat) : List UInt8 := [UInt8.ofNat la.toNat, UInt8.ofNat n, UInt8.ofNat (n / 256), UInt8.ofNat (255 - n % 256), UInt8.ofNat (255 - n / 256 % 256)]
theorem blkH_len (la : Bool) (n : Nat) : (blkH la n).length = 5 := rfl
def cfs (a : Nat) (out : List UInt8) (st : Nat) (last : Bool) (left : Nat) : Cf := ⟨a, out, st, last, left, 0, [], []⟩
theorem xor_all : ∀ n : Fin 501, n.val ^^^ (65535 - n.val) = 65535 := by decide +kernel
theorem blk_hd (L : List UInt8) (k : Nat) (la : Bool) (n : Nat) (hn : n ≤ 500) (h : ∀ j u, (blkH la n)[j]? = some u → L[k + j]? = some u) (h5 : k + 5 ≤ L.length) :
    hdP (bitsB L) (8 * k) = some ((la, .st n), 8 * (k + 5)) := by
  have b0 := h 0 _ rfl
  have b1 := h 1 _ rfl
  have b2 := h 2 _ rfl
  have b3 := h 3 _ rfl
  have b4 := h 4 _ rfl
  have h1 : ndP 1 (bitsB L) (8 * k) = some (la.toNat, 8 * k + 1) := by
    have := nd_in (s := 0) (n := 1) b0 (by omega)
    refine this.trans ?_
    cases la <;> rfl
  have h2 : ndP 2 (bitsB L) (8 * k + 1) = some (0, 8 * k + 3) := by
    have := nd_in (s := 1) (n := 2) b0 (by omega)
    refine this.trans ?_
    cases la <;> rfl
  have h3 : alP (bitsB L) (8 * k + 3) = some ((), 8 * (k + 1)) := by
    unfold alP
    rw [show (8 - (8 * k + 3) % 8) % 8 = 5 by omega, if_pos (by rw [bitsB_len]; omega)]
    rfl
  have n0 : (UInt8.ofNat n).toNat = n % 256 := by simp
  have n1 : (UInt8.ofNat (n / 256)).toNat = n / 256 := by simp; omega
  have n2 : (UInt8.ofNat (255 - n % 256)).toNat = 255 - n % 256 := by simp; omega
  have n3 : (UInt8.ofNat (255 - n / 256 % 256)).toNat = 255 - n / 256 := by simp; omega
  have h4 : ndP 16 (bitsB L) (8 * (k + 1)) = some (n, 8 * (k + 3)) := by
    rw [nd_two b1 b2, n0, n1]
    have e : n % 256 + 256 * (n / 256) = n := by omega
    rw [e]
    rfl
  have h5 : ndP 16 (bitsB L) (8 * (k + 3)) = some (65535 - n, 8 * (k + 5)) := by
    rw [nd_two b3 b4, n2, n3]
    have e : 255 - n % 256 + 256 * (255 - n / 256) = 65535 - n := by omega
    rw [e]
    rfl
  have hx := xor_all ⟨n, by omega⟩
  simp only at hx
  rw [hd_k h1 h2, if_pos rfl, bndP_of h3, bndP_of h4, bndP_of h5, if_pos hx]
  unfold retP
  cases la <;> rfl
theorem rn_bytes (L : List UInt8) (k : Nat) (p : List UInt8) (la : Bool) (h : ∀ j u, p[j]? = some u → L[k + j]? = some u) (out : List UInt8) :
    ∀ j, j ≤ p.length → Rn (bitsB L) (cfs (8 * k) out 1 la p.length) (cfs (8 * (k + j)) (out ++ p.take j) 1 la (p.length - j)) := by
  intro j
  induction j with
  | zero => intro _; simp; exact .refl _
  | succ j ih =>
    intro hj
    have hu : p[j]? = some p[j] := List.getElem?_eq_getElem (by omega)
    have h8 := nd_byte (h j _ hu)
    refine .step (ih (by omega)) ?_
    rw [stC_b1 (c := cfs (8 * (k + j)) (out ++ p.take j) 1 la (p.length - j)) rfl (show ¬ p.length - j = 0 by omega) h8]
    unfold cfs
    simp only
    rw [List.take_succ_eq_append_getElem (by omega : j < p.length), ← List.append_assoc]
    have e1 : UInt8.ofNat p[j].toNat = p[j] := by simp
    have e2 : p.length - j - 1 = p.length - (j + 1) := by omega
    rw [e1, e2]
    rfl
/-- All blocks: N are they, k stand ahead. -/
def stT (N : Nat) : Nat → List (List UInt8) → List UInt8
  | _, [] => []
  | k, p :: r => blkH (decide (k + 1 = N)) p.length ++ (p ++ stT N (k + 1) r)
theorem stT_snoc (N : Nat) (p : List UInt8) : ∀ (l : List (List UInt8)) (k : Nat), stT N k (l ++ [p]) = (stT N k l ++ blkH (decide (k + l.length + 1 = N)) p.length) ++ p
  | [], k => by simp [stT]
  | q :: r, k => by
    have ih := stT_snoc N p r (k + 1)
    simp only [List.cons_append, stT, ih, List.length_cons, List.append_assoc]
    rw [show k + 1 + r.length + 1 = k + (r.length + 1) + 1 by omega]
theorem rn_blk (L pre p post : List UInt8) (la : Bool) (hL : L = pre ++ (blkH la p.length ++ (p ++ post))) (hp : p.length ≤ 500) (out : List UInt8) :
    Rn (bitsB L) (cfs (8 * pre.length) out 0 false 0) (cfs (8 * (pre.length + 5 + p.length)) (out ++ p) 0 la 0) := by
  have g1 : ∀ j u, (blkH la p.length)[j]? = some u → L[pre.length + j]? = some u := by
    intro j u hu
    rw [hL, List.getElem?_append_right (by omega), Nat.add_sub_cancel_left, List.getElem?_append_left (List.getElem?_eq_some_iff.1 hu).1]
    exact hu
  have g2 : ∀ j u, p[j]? = some u → L[pre.length + 5 + j]? = some u := by
    intro j u hu
    rw [hL, List.getElem?_append_right (by omega), List.getElem?_append_right (by rw [blkH_len]; omega), blkH_len, show pre.length + 5 + j - pre.length - 5 = j by omega, List.getElem?_append_left (List.getElem?_eq_some_iff.1 hu).1]
    exact hu
  have hh := blk_hd L pre.length la p.length hp g1 (by rw [hL]; simp [blkH_len])
  have s1 := stC_hs (c := cfs (8 * pre.length) out 0 false 0) rfl (show ¬ false = true by simp) hh
  have r1 : Rn (bitsB L) (cfs (8 * pre.length) out 0 false 0) (cfs (8 * (pre.length + 5)) out 1 la p.length) := .step (.refl _) s1
  have r2 := rn_bytes L (pre.length + 5) p la g2 out p.length (Nat.le_refl _)
  rw [List.take_length, Nat.sub_self] at r2
  exact (r1.trans r2).trans (.step (.refl _) (stC_z1 (c := cfs (8 * (pre.length + 5 + p.length)) (out ++ p) 1 la 0) rfl rfl))
theorem rn_all (N : Nat) (L : List UInt8) : ∀ (r : List (List UInt8)) (k : Nat) (pre out : List UInt8), r ≠ [] → k + r.length = N → (∀ p ∈ r, p.length ≤ 500) → L = pre ++ stT N k r →
    Rn (bitsB L) (cfs (8 * pre.length) out 0 false 0) (cfs (8 * L.length) (out ++ r.flatten) 4 true 0)
  | [], _, _, _, h, _, _, _ => absurd rfl h
  | [p], k, pre, out, _, hk, hp, hL => by
    simp only [stT, List.append_nil] at hL
    simp only [List.length_cons, List.length_nil] at hk
    have hd : decide (k + 1 = N) = true := decide_eq_true (by omega)
    rw [hd] at hL
    have h1 := rn_blk L pre p [] true (by rw [hL, List.append_nil]) (hp p (by simp)) out
    have hl : L.length = pre.length + 5 + p.length := by rw [hL]; simp [blkH_len]; omega
    rw [hl]
    simp only [List.flatten_cons, List.flatten_nil, List.append_nil]
    exact h1.trans (.step (.refl _) (stC_end (c := cfs (8 * (pre.length + 5 + p.length)) (out ++ p) 0 true 0) rfl rfl))
  | p :: q :: r, k, pre, out, _, hk, hp, hL => by
    have hL' := hL
    rw [stT] at hL'
    simp only [List.length_cons] at hk
    have hd : decide (k + 1 = N) = false := decide_eq_false (by omega)
    rw [hd] at hL'
    have h1 := rn_blk L pre p (stT N (k + 1) (q :: r)) false hL' (hp p (by simp)) out
    have h2 := rn_all N L (q :: r) (k + 1) (pre ++ (blkH false p.length ++ p)) (out ++ p) (by simp) (by simp only [List.length_cons]; omega) (fun x hx => hp x (List.mem_cons_of_mem _ hx)) (by rw [hL']; simp only [List.append_assoc])
    have e : (pre ++ (blkH false p.length ++ p)).length = pre.length + 5 + p.length := by simp [blkH_len]; omega
    rw [e, List.append_assoc] at h2
    rw [List.flatten_cons]
    exact h1.trans h2
theorem st_oc (l : List (List UInt8)) (h0 : l ≠ []) (hp : ∀ p ∈ l, p.length ≤ 500) {r : Option (List UInt8 × Nat)} {f : Bool} (h : Oc (bitsB (stT l.length 0 l)) l.flatten.length r f) : r = some (l.flatten, (stT l.length 0 l).length) ∧ f = false := by
  have h1 := rn_all l.length (stT l.length 0 l) l 0 [] [] h0 (by omega) hp rfl
  rw [List.nil_append] at h1
  have := Oc.one (B' := bitsB (stT l.length 0 l)) (c := cfs (8 * (stT l.length 0 l).length) l.flatten 4 true 0) h1 rfl (by rw [bitsB_len]; exact Nat.le_refl _) rfl (most := l.flatten.length) (Nat.le_refl _) h
  have e : (8 * (stT l.length 0 l).length + 7) / 8 = (stT l.length 0 l).length := by omega
  simp only [cfs] at this
  rw [e] at this
  exact this
theorem stT_len (N : Nat) : ∀ (l : List (List UInt8)) (k : Nat), (stT N k l).length = 5 * l.length + l.flatten.length
  | [], _ => rfl
  | p :: r, k => by
    have := stT_len N r (k + 1)
    simp only [stT, List.length_append, blkH_len, List.flatten_cons, List.length_cons]
    omega
theorem flat_le : ∀ (l : List (List UInt8)), (∀ p ∈ l, p.length ≤ 500) → l.flatten.length ≤ 500 * l.length
  | [], _ => by simp
  | p :: r, h => by
    have := flat_le r (fun q hq => h q (List.mem_cons_of_mem _ hq))
    have := h p (by simp)
    simp only [List.length_append, List.flatten_cons, List.length_cons]
    omega
end Go.Proofs.Ytnedboomhbdecaa
