/- The calls of a store, in the shape that the laws use. -/
import Derived.Test.YtknjopefbbldfaaGreatDoorVfsK
namespace Go.Proofs.YtknjopefbbldfaaGreatDoor
open Go.RowKit
attribute [local go_sem ↓] Go.wp_at_zero Go.wp_at_succ

/-- A store whose blocks all lie from base on. -/
def Fs (base : Nat) (W : World) (f : Nat) (S : FsP) : Prop := FsA W (fun i => base ≤ i ∧ i < W.heap.size) f S
section
variable {base f : Nat} {W W' : World} {S : FsP} {O : Nat → Prop}
theorem Fs.of (h : FsA W O f S) (hO : ∀ i, O i → base ≤ i) : Fs base W f S := h.mono fun i ho hi => ⟨hO i ho, hi⟩
theorem FsA.f_in (h : FsA W O f S) : O f ∧ f < W.heap.size := by
  obtain ⟨m, bl, gl, sv, h1, h2⟩ := h
  exact ⟨h2 f (.inl rfl), h1.hd.lt⟩
theorem Fs.base_le (h : Fs base W f S) : base ≤ W.heap.size := by
  have := (FsA.f_in h).1; omega
theorem Fs.below (h : Fs base W f S) (hb : Below W.heap.size W W') : Fs base W' f S := Fs.of (FsA.below h hb) (fun i hi => hi.1)
theorem Fs.wf (h : Fs base W f S) : S.WF := FsA.wf h
theorem Fs.open_ (h : Fs base W f S) : ∃ m bl gl sv, FsM W f m bl gl sv S := by
  obtain ⟨m, bl, gl, sv, h1, _⟩ := h
  exact ⟨m, bl, gl, sv, h1⟩
end
theorem rs_of_rd {w : World} {B n : Nat} {A : Option Addr} {l : List UInt8} (h : Rd w B 1 A n (bys l)) : ∃ b0, (0 < n → b0 < B) ∧ Rs w b0 A l := by
  rcases Nat.eq_zero_or_pos n with h0 | h0
  · refine ⟨0, fun h1 => by omega, fun h1 => ?_⟩
    have := h.blen; omega
  · obtain ⟨b, o, rfl, hb, hc⟩ := h.2 h0
    refine ⟨b, fun _ => hb, fun _ => ⟨o, rfl, fun j u hu => hc j _ ?_⟩⟩
    unfold bys; rw [List.getElem?_map, hu]; rfl
section
variable (base f : Nat) (S : FsP) (w : World) (h : Fs base w f S)
include h
theorem create_fs (s : ByteArray) (hs : s.size ≤ 1000000) (hst : S.stamp ≤ 1000000) :
    Calls Tryz.prog 11 #[.pointer (some ⟨f, 0, none⟩), .string s] w fun e w' => e = .returned (.int .i64 ((createP S s.data.toList).1 : Int)) ∧ Fs base w' f (createP S s.data.toList).2 ∧ Below base w w' := by
  have hb := h.base_le
  refine (create_any f _ S s w h hs hst).mono ?_
  rintro e w' ⟨rfl, h1, h2⟩
  exact ⟨rfl, Fs.of h1 (fun i hi => by rcases hi with hi | hi; exact hi.1; omega), h2.below hb (fun i hi => hi.1)⟩
/-- Write, where there is such a file and the place is right; what is written lies in no block of the store's. -/
theorem write_fs (s : ByteArray) (p n c : Nat) (bs : List UInt8) (A : Option Addr) (x : FlP) (hs : s.size ≤ 1000000) (hst : S.stamp ≤ 1000000) (hnm : n ≤ 100000) (hnc : n ≤ c) (hc : c ≤ maxLen) (hr : Rd w base 1 A n (bys bs))
    (hd : S.down = false) (hf : findP S s.data.toList = some x) (hp : p ≤ x.B.length) :
    Calls Tryz.prog 12 #[.pointer (some ⟨f, 0, none⟩), .string s, .int .i64 (p : Int), .slice A n c] w fun e w' => e = .returned (.int .i64 ((writeP S s.data.toList (p : Int) bs).1 : Int)) ∧ Fs base w' f (writeP S s.data.toList (p : Int) bs).2 ∧ Below base w w' := by
  have hb := h.base_le
  obtain ⟨b0, h0, hrs⟩ := rs_of_rd hr
  refine (write_some f _ S s p n c b0 bs A w x h hs hst hr.blen.symm hnm hnc hc hrs (fun hn => by have := h0 hn; omega) (fun hn => by have := h0 hn; omega) hd hf hp).mono ?_
  rintro e w' ⟨rfl, h1, h2⟩
  exact ⟨rfl, Fs.of h1 (fun i hi => by rcases hi with hi | hi; exact hi.1; omega), h2.below hb (fun i hi => hi.1)⟩
/-- .. and where it lies in a block of its own. -/
theorem write_own (s : ByteArray) (p n c b0 B0 : Nat) (bs : List UInt8) (A : Option Addr) (x : FlP) (hs : s.size ≤ 1000000) (hst : S.stamp ≤ 1000000) (hn : n = bs.length) (hnm : n ≤ 100000) (hnc : n ≤ c) (hc : c ≤ maxLen) (W : World) (hW : Below w.heap.size w W) (hr : Rs W b0 A bs) (hb0 : 0 < n → w.heap.size ≤ b0 ∧ b0 < W.heap.size)
    (hd : S.down = false) (hf : findP S s.data.toList = some x) (hp : p ≤ x.B.length) (hB : base ≤ B0) (hB0 : B0 ≤ w.heap.size) :
    Calls Tryz.prog 12 #[.pointer (some ⟨f, 0, none⟩), .string s, .int .i64 (p : Int), .slice A n c] W fun e w' => e = .returned (.int .i64 ((writeP S s.data.toList (p : Int) bs).1 : Int)) ∧ Fs base w' f (writeP S s.data.toList (p : Int) bs).2 ∧ Ch (fun i => base ≤ i ∧ i < w.heap.size) W w' := by
  have hs2 := hW.size
  refine (write_some f _ S s p n c b0 bs A W x (FsA.below h hW) hs hst hn hnm hnc hc hr (fun hn => by have := hb0 hn; omega) (fun hn => (hb0 hn).2) hd hf hp).mono ?_
  rintro e w' ⟨rfl, h1, h2⟩
  exact ⟨rfl, Fs.of h1 (fun i hi => by rcases hi with hi | hi; exact hi.1; omega), h2⟩
theorem crash_fs (keep : UInt64) (hst : S.stamp ≤ 1000000) :
    Calls Tryz.prog 13 #[.pointer (some ⟨f, 0, none⟩), .int .u64 (keep.toNat : Int)] w fun e w' => e = .returned (.tuple #[]) ∧ Fs base w' f (crashP S keep) ∧ Below base w w' := by
  have hb := h.base_le
  refine (crash_any f _ S keep w h hst).mono ?_
  rintro e w' ⟨rfl, h1, h2⟩
  exact ⟨rfl, Fs.of h1 (fun i hi => hi.1), h2.below hb (fun i hi => hi.1)⟩
theorem sync_fs (s : ByteArray) (hs : s.size ≤ 1000000) (hst : S.stamp ≤ 1000000) :
    Calls Tryz.prog 18 #[.pointer (some ⟨f, 0, none⟩), .string s] w fun e w' => e = .returned (.int .i64 ((syncF S s.data.toList).1 : Int)) ∧ Fs base w' f (syncF S s.data.toList).2 ∧ Below base w w' := by
  have hb := h.base_le
  refine (sync_any f _ S s w h hs hst).mono ?_
  rintro e w' ⟨rfl, h1, h2⟩
  exact ⟨rfl, Fs.of h1 (fun i hi => hi.1), h2.below hb (fun i hi => hi.1)⟩
theorem rename_fs (s k : ByteArray) (hs : s.size ≤ 1000000) (hst : S.stamp ≤ 1000000) (hk : k.size ≤ 1000000) :
    Calls Tryz.prog 16 #[.pointer (some ⟨f, 0, none⟩), .string s, .string k] w fun e w' => e = .returned (.int .i64 ((renameP S s.data.toList k.data.toList).1 : Int)) ∧ Fs base w' f (renameP S s.data.toList k.data.toList).2 ∧ Below base w w' := by
  have hb := h.base_le
  refine (rename_any f _ S s k w h hs hst hk).mono ?_
  rintro e w' ⟨rfl, h1, h2⟩
  exact ⟨rfl, Fs.of h1 (fun i hi => hi.1), h2.below hb (fun i hi => hi.1)⟩
theorem read_fs (s : ByteArray) (p k : Int) (hs : s.size ≤ 1000000) (hp : -9223372036854775808 ≤ p ∧ p ≤ 9223372036854775807) :
    Calls Tryz.prog 14 #[.pointer (some ⟨f, 0, none⟩), .string s, .int .i64 p, .int .i64 k] w fun e w' =>
      ∃ A n c, e = .returned (.tuple #[.slice A n c, .int .i64 ((readP S s.data.toList p k).1 : Int)]) ∧ n = (readP S s.data.toList p k).2.length ∧ n ≤ c ∧ c ≤ maxLen ∧ w'.ownsRow w.heap.size 5 1 (.slice A n c) n (bys (readP S s.data.toList p k).2) ∧ Below w.heap.size w w' := by
  obtain ⟨m, bl, gl, sv, hM⟩ := h.open_
  refine (read_any f m bl gl sv S s p k w hM (Nat.le_trans hs (by unfold maxLen; decide)) hp).mono ?_
  rintro e w' ⟨v, rfl, h1, h2⟩
  obtain ⟨A, c, rfl, h3, h4⟩ := own_form h1
  exact ⟨A, _, c, rfl, rfl, h3, h4, h1, h2⟩
theorem len_fs (s : ByteArray) (hs : s.size ≤ 1000000) : Calls Tryz.prog 31 #[.pointer (some ⟨f, 0, none⟩), .string s] w fun e w' => e = .returned (lenV S s.data.toList) ∧ w' = w := by
  obtain ⟨m, bl, gl, sv, hM⟩ := h.open_
  exact len_any f m bl gl sv S s w hM (Nat.le_trans hs (by unfold maxLen; decide))
theorem room_fs : Calls Tryz.prog 29 #[.pointer (some ⟨f, 0, none⟩)] w fun e w' => e = .returned (.int .i64 (if S.down then 0 else ((S.most - useP S.fs : Nat) : Int))) ∧ Below w.heap.size w w' := by
  obtain ⟨m, bl, gl, sv, hM⟩ := h.open_
  exact room_any f m bl gl sv S w hM
theorem waits_fs : Calls Tryz.prog 30 #[.pointer (some ⟨f, 0, none⟩)] w fun e w' => e = .returned (.int .i64 (if S.down then 0 else (waitsP S.fs : Int))) ∧ Below w.heap.size w w' := by
  obtain ⟨m, bl, gl, sv, hM⟩ := h.open_
  exact waits_any f m bl gl sv S w hM
end
theorem new_fs (n : Int) (w : World) :
    Calls Tryz.prog 6 #[.int .i64 n] w fun e w' => ∃ f, e = .returned (.pointer (some ⟨f, 0, none⟩)) ∧ Fs w.heap.size w' f (newP n) ∧ Below w.heap.size w w' := by
  refine (new_any n w).mono ?_
  rintro e w' ⟨f, rfl, h1, h2⟩
  exact ⟨f, rfl, Fs.of h1 (fun i hi => hi), h2⟩
end Go.Proofs.YtknjopefbbldfaaGreatDoor
