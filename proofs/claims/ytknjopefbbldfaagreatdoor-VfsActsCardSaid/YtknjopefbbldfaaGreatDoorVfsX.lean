/- Files that are made and written at once, in plain words; calls with blocks apart. -/
import Derived.Test.YtknjopefbbldfaaGreatDoorVfsWk
namespace Go.Proofs.YtknjopefbbldfaaGreatDoor
open Go.RowKit

/-- A store that is up, with no fuse. -/
structure Up (S : FsP) : Prop where
  d : S.down = false
  f : S.fuse = -1
theorem Up.burn {S : FsP} (h : Up S) : burnP S = true ∧ burntP S = S := by
  have h1 := h.f
  unfold burnP burntP
  rw [h1]
  exact ⟨rfl, by rw [if_neg (by decide), if_neg (by decide)]⟩
theorem up_new (n : Int) : Up (newP n) := ⟨rfl, rfl⟩
theorem create0 {S : FsP} {n : List UInt8} (h : Up S) (hr : rightP n = true) (hf : findP S n = none) :
    createP S n = (0, madeF S n) ∧ Up (madeF S n) ∧ useP (madeF S n).fs = useP S.fs ∧ (madeF S n).most = S.most ∧ (madeF S n).stamp = S.stamp + 1 := by
  obtain ⟨h1, h2⟩ := h.burn
  refine ⟨?_, ⟨?_, ?_⟩, ?_, ?_, rfl⟩
  · unfold createP
    rw [h.d, hr, hf, h1]; rfl
  · unfold madeF; rw [h2]; exact h.d
  · unfold madeF; rw [h2]; exact h.f
  · unfold madeF; simp only [use_ins, List.length_nil, Nat.add_zero]
  · unfold madeF; rw [h2]
theorem needN_zero : needN 0 = 0 := rfl
theorem write0 {S : FsP} {n : List UInt8} {x : FlP} (l : List UInt8) (h : Up S) (hw : S.WF) (hf : findP S n = some x) (hx : x.B = []) (hroom : useP S.fs + needN l.length ≤ S.most) :
    ∃ S' y, writeP S n ((0 : Nat) : Int) l = (0, S') ∧ Up S' ∧ S'.most = S.most ∧ S'.stamp ≤ S.stamp + 1 ∧ useP S'.fs = useP S.fs + needN l.length ∧ y.B = l ∧ (∀ s, findP S' s = if s = n then some y else findP S s) := by
  obtain ⟨h1, h2⟩ := h.burn
  have hwx : x.WF := hw.files _ (lookup_mem hf)
  have hW0 : x.W.length = 0 := by rw [hwx.w, hx]; rfl
  have hB0 : x.B.length = 0 := by rw [hx]; rfl
  have e := writeP_some l h.d hf (p := 0) (Nat.zero_le _)
  rw [hB0, hW0, Nat.zero_add, Nat.max_eq_right (Nat.zero_le _), Nat.sub_zero, if_neg (by omega)] at e
  by_cases hl : l = []
  · rw [if_pos hl] at e
    refine ⟨S, x, e, h, rfl, Nat.le_succ _, by rw [hl]; rfl, by rw [hx, hl], fun s => ?_⟩
    by_cases e2 : s = n
    · rw [e2, if_pos rfl, hf]
    · rw [if_neg e2]
  · rw [if_neg hl, h1] at e
    have hg := growP_len hwx (show x.B.length ≤ l.length by omega)
    have hwl : (putP (growP x l.length) 0 l).W.length = needN l.length := by rw [putP_wlen]; exact hg.1
    refine ⟨_, { putP (growP x l.length) 0 l with stamp := S.stamp + 1 }, e, ⟨?_, ?_⟩, ?_, Nat.le_refl _, ?_, ?_, fun s => find_stamp _ hf s⟩
    · unfold stampF; rw [h2]; exact h.d
    · unfold stampF; rw [h2]; exact h.f
    · unfold stampF; rw [h2]
    · have := use_set (x := { putP (growP x l.length) 0 l with stamp := S.stamp + 1 }) hw.order hf
      unfold stampF
      simp only at this ⊢
      rw [hwl, hW0] at this
      omega
    · unfold putP growP
      simp only [hx, List.take_zero, List.nil_append, List.length_nil, Nat.sub_zero, Nat.zero_add]
      rw [List.drop_of_length_le (by rw [List.length_replicate]; exact Nat.le_refl _), List.append_nil]
theorem writeP_wf {S : FsP} {n : List UInt8} {x : FlP} {p : Nat} {b : List UInt8} (hw : S.WF) (hd : S.down = false) (hf : findP S n = some x) (hp : p ≤ x.B.length) : (writeP S n (p : Int) b).2.WF := by
  have hwx : x.WF := hw.files _ (lookup_mem hf)
  rw [writeP_some b hd hf hp]
  split
  · exact hw
  · split
    · exact hw
    · split
      · exact burntP_wf hw
      · have hg := growP_len hwx (show x.B.length ≤ max x.B.length (p + b.length) by omega)
        refine stampF_wf hw hf (putP_wf (growP_wf hwx (by omega)) (by rw [hg.2]; omega)) ?_
        rw [putP_wlen, hg.1]
        omega
theorem read_of {S : FsP} {n : List UInt8} {y : FlP} (p k : Int) (hd : S.down = false) (hf : findP S n = some y) :
    readP S n p k = if p < 0 ∨ k < 0 then (1, []) else if (y.B.length : Int) < p ∨ (y.B.length : Int) - p < k then (3, []) else (0, (y.B.drop p.toNat).take k.toNat) := by
  unfold readP
  rw [hd, hf]; rfl
theorem read_no {S : FsP} {n : List UInt8} (p k : Int) (hd : S.down = false) (hf : findP S n = none) : readP S n p k = (6, []) := by
  unfold readP
  rw [hd, hf]; rfl
section
variable (f : Nat) (O : Nat → Prop) (S : FsP) (w : World) (hO : ∀ i, w.heap.size ≤ i → O i) (h : FsA w O f S)
include h
include hO in
theorem create_at (s : ByteArray) (hs : s.size ≤ 1000000) (hst : S.stamp ≤ 1000000) :
    Calls Tryz.prog 11 #[.pointer (some ⟨f, 0, none⟩), .string s] w fun e w' => e = .returned (.int .i64 ((createP S s.data.toList).1 : Int)) ∧ FsA w' O f (createP S s.data.toList).2 ∧ Ch O w w' := by
  refine (create_any f O S s w h hs hst).mono ?_
  rintro e w' ⟨rfl, h1, h2⟩
  exact ⟨rfl, h1.mono (fun i hi _ => by rcases hi with hi | hi; exact hi; exact hO i hi), h2⟩
include hO in
theorem write_at (s : ByteArray) (p n c b0 : Nat) (bs : List UInt8) (A : Option Addr) (x : FlP) (hs : s.size ≤ 1000000) (hst : S.stamp ≤ 1000000) (hn : n = bs.length) (hnm : n ≤ 100000) (hnc : n ≤ c) (hc : c ≤ maxLen) (hr : Rs w b0 A bs) (hb0 : 0 < n → ¬ O b0) (hb1 : 0 < n → b0 < w.heap.size)
    (hd : S.down = false) (hf : findP S s.data.toList = some x) (hp : p ≤ x.B.length) :
    Calls Tryz.prog 12 #[.pointer (some ⟨f, 0, none⟩), .string s, .int .i64 (p : Int), .slice A n c] w fun e w' => e = .returned (.int .i64 ((writeP S s.data.toList (p : Int) bs).1 : Int)) ∧ FsA w' O f (writeP S s.data.toList (p : Int) bs).2 ∧ Ch O w w' := by
  refine (write_some f O S s p n c b0 bs A w x h hs hst hn hnm hnc hc hr hb0 hb1 hd hf hp).mono ?_
  rintro e w' ⟨rfl, h1, h2⟩
  exact ⟨rfl, h1.mono (fun i hi _ => by rcases hi with hi | hi; exact hi; exact hO i hi), h2⟩
theorem read_at (s : ByteArray) (p k : Int) (hs : s.size ≤ 1000000) (hp : -9223372036854775808 ≤ p ∧ p ≤ 9223372036854775807) :
    Calls Tryz.prog 14 #[.pointer (some ⟨f, 0, none⟩), .string s, .int .i64 p, .int .i64 k] w fun e w' =>
      ∃ A n c, e = .returned (.tuple #[.slice A n c, .int .i64 ((readP S s.data.toList p k).1 : Int)]) ∧ n = (readP S s.data.toList p k).2.length ∧ n ≤ c ∧ c ≤ maxLen ∧ w'.ownsRow w.heap.size 5 1 (.slice A n c) n (bys (readP S s.data.toList p k).2) ∧ Below w.heap.size w w' := by
  obtain ⟨m, bl, gl, sv, hM, _⟩ := h
  refine (read_any f m bl gl sv S s p k w hM (Nat.le_trans hs (by unfold maxLen; decide)) hp).mono ?_
  rintro e w' ⟨v, rfl, h1, h2⟩
  obtain ⟨A, c, rfl, h3, h4⟩ := own_form h1
  exact ⟨A, _, c, rfl, rfl, h3, h4, h1, h2⟩
end
/-- The block of a row of one's own. -/
theorem own_rs {w : World} {base n c : Nat} {e : TypeId} {A : Option Addr} {l : List UInt8} (h : w.ownsRow base e 1 (.slice A n c) n (bys l)) :
    ∃ g, (0 < n → A = some ⟨g, 0, none⟩ ∧ base ≤ g ∧ g < w.heap.size) ∧ Rs w g A l := by
  have hl : l.length = n := by have := h.1; rw [bys_len] at this; omega
  rcases Nat.eq_zero_or_pos n with h0 | h0
  · exact ⟨0, fun h1 => by omega, fun h1 => by omega⟩
  · obtain ⟨g, c', hv, h1, h2, _⟩ := own_pos h h0
    injection hv with hv _ _
    subst hv
    refine ⟨g, fun _ => ⟨rfl, h1, h2⟩, fun _ => ⟨0, rfl, fun j u hu => ?_⟩⟩
    have := h.cells (g := g) rfl j (.int .u8 (u.toNat : Int)) (by unfold bys; rw [List.getElem?_map, hu]; rfl)
    rwa [addLit] at this
theorem u8_next (u : UInt8) : IntKind.u8.wrap ((u.toNat : Int) + 1) = ((u + 1).toNat : Int) := by
  have h : ∀ n, n < 256 → IntKind.u8.wrap (((UInt8.ofNat n).toNat : Int) + 1) = ((UInt8.ofNat n + 1).toNat : Int) := by decide +kernel
  have := h u.toNat (UInt8.toNat_lt u)
  rwa [UInt8.ofNat_toNat] at this
end Go.Proofs.YtknjopefbbldfaaGreatDoor
