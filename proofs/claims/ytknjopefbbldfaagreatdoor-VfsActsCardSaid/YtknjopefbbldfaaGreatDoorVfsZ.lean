/- The document's store in memory: a list of pointers to files, each with three rows of its own. -/
import Derived.Test.YtknjopefbbldfaaGreatDoorVfsY
import Derived.Test.YtknjopefbbldfaaGreatDoorVfsL
namespace Go.Proofs.YtknjopefbbldfaaGreatDoor
open Go.RowKit
attribute [local go_sem ↓] Go.wp_at_zero Go.wp_at_succ

def blsV (l : List Bool) : List Value := l.map Value.bool
theorem blsV_len (l : List Bool) : (blsV l).length = l.length := by simp [blsV]
/-- Where a file lies: its block, its three rows. -/
structure RfR where
  b : Nat
  vB : Value
  vO : Value
  vW : Value
/-- Its blocks. -/
def RfR.has (R : RfR) (i : Nat) : Prop := i = R.b ∨ R.vB.ownBlock = some i ∨ R.vO.ownBlock = some i ∨ R.vW.ownBlock = some i
structure RfF (W : World) (R : RfR) (n : List UInt8) (x : FlP) : Prop where
  hd : Bk W R.b 62 #[.string ⟨n.toArray⟩, R.vB, R.vO, R.vW, .int .i64 (x.stamp : Int)]
  b : W.ownsRow 0 5 1 R.vB x.B.length (bys x.B)
  o : W.ownsRow 0 5 1 R.vO x.O.length (bys x.O)
  w : W.ownsRow 0 4 1 R.vW x.W.length (blsV x.W)
  ne : ∀ i, R.vB.ownBlock = some i → R.vO.ownBlock ≠ some i
section
variable {W W' : World} {R : RfR} {n : List UInt8} {x : FlP}
theorem own_heap' {w w' : World} {base s n : Nat} {e : TypeId} {v : Value} {xs : List Value} (h : w.ownsRow base e s v n xs) (hk : ∀ i, v.ownBlock = some i → w'.heap[i]? = w.heap[i]?) : w'.ownsRow base e s v n xs := by
  refine ⟨h.1, ?_⟩
  rcases h.2 with h2 | ⟨g, cap, cur, rfl, hg, hh, r⟩
  · exact .inl h2
  · exact .inr ⟨g, cap, cur, rfl, hg, (hk g rfl).trans hh, r⟩
theorem RfF.heap (h : RfF W R n x) (hk : ∀ i, R.has i → W'.heap[i]? = W.heap[i]?) : RfF W' R n x :=
  ⟨(hk _ (.inl rfl)).trans h.hd, own_heap' h.b (fun i hi => hk i (.inr (.inl hi))), own_heap' h.o (fun i hi => hk i (.inr (.inr (.inl hi)))), own_heap' h.w (fun i hi => hk i (.inr (.inr (.inr hi)))), h.ne⟩
theorem RfF.lt (h : RfF W R n x) : ∀ i, R.has i → i < W.heap.size := by
  rintro i (rfl | hi | hi | hi)
  · exact h.hd.lt
  · exact (h.b.lt i hi).2
  · exact (h.o.lt i hi).2
  · exact (h.w.lt i hi).2
end
/-- The store: its block, the row of pointers, the files in their order. -/
structure RfM (W : World) (r : Nat) (vL : Value) (Rs : List RfR) (S : FsP) : Prop where
  hd : Bk W r 48 #[vL, .int .i64 (S.most : Int), .int .i64 (S.stamp : Int), .int .i64 S.fuse, .bool S.down]
  row : W.ownsRow 0 59 1 vL Rs.length (Rs.map fun R => Value.pointer (some ⟨R.b, 0, none⟩))
  len : Rs.length = S.fs.length
  fl : ∀ (i : Nat) (R : RfR) (p : List UInt8 × FlP), Rs[i]? = some R → S.fs[i]? = some p → RfF W R p.1 p.2
  ap : Rs.Pairwise fun R R' => ∀ i : Nat, R.has i → ¬ R'.has i
  wf : S.WF
/-- The blocks of a store. -/
def RfO (r : Nat) (vL : Value) (Rs : List RfR) (i : Nat) : Prop := i = r ∨ vL.ownBlock = some i ∨ ∃ R ∈ Rs, R.has i
def RfA (W : World) (O : Nat → Prop) (r : Nat) (S : FsP) : Prop := ∃ vL Rs, RfM W r vL Rs S ∧ ∀ i, RfO r vL Rs i → O i
section
variable {W W' : World} {r : Nat} {vL : Value} {Rs : List RfR} {S : FsP} {O O' : Nat → Prop}
theorem RfM.at_ (h : RfM W r vL Rs S) {i : Nat} {R : RfR} (hR : Rs[i]? = some R) : ∃ n x, S.fs[i]? = some (n, x) ∧ RfF W R n x := by
  have hi : i < Rs.length := (List.getElem?_eq_some_iff.1 hR).1
  have hi2 : i < S.fs.length := by rw [← h.len]; exact hi
  have e : S.fs[i]? = some (S.fs[i].1, S.fs[i].2) := by rw [List.getElem?_eq_getElem hi2]
  exact ⟨_, _, e, h.fl i R _ hR e⟩
theorem RfM.lt (h : RfM W r vL Rs S) : ∀ i, RfO r vL Rs i → i < W.heap.size := by
  rintro i (rfl | hi | ⟨R, hR, hi⟩)
  · exact h.hd.lt
  · exact (h.row.lt i hi).2
  · obtain ⟨j, hj, e⟩ := List.mem_iff_getElem.1 hR
    obtain ⟨n, x, _, hf⟩ := h.at_ (show Rs[j]? = some R by rw [List.getElem?_eq_getElem hj, e])
    exact hf.lt i hi
theorem RfM.heap (h : RfM W r vL Rs S) (hk : ∀ i, RfO r vL Rs i → W'.heap[i]? = W.heap[i]?) : RfM W' r vL Rs S :=
  ⟨(hk r (.inl rfl)).trans h.hd, own_heap' h.row (fun i hi => hk i (.inr (.inl hi))), h.len, fun i R p hR hp => (h.fl i R p hR hp).heap (fun k hk2 => hk k (.inr (.inr ⟨R, List.mem_of_getElem? hR, hk2⟩))), h.ap, h.wf⟩
theorem RfA.mono (h : RfA W O r S) (hs : ∀ i, O i → i < W.heap.size → O' i) : RfA W O' r S := by
  obtain ⟨vL, Rs, h1, h2⟩ := h
  exact ⟨vL, Rs, h1, fun i hi => hs i (h2 i hi) (h1.lt i hi)⟩
theorem RfA.heap (h : RfA W O r S) (hk : ∀ i, O i → i < W.heap.size → W'.heap[i]? = W.heap[i]?) : RfA W' O r S := by
  obtain ⟨vL, Rs, h1, h2⟩ := h
  exact ⟨vL, Rs, h1.heap (fun i hi => hk i (h2 i hi) (h1.lt i hi)), h2⟩
theorem RfA.below (h : RfA W O r S) (hb : Below W.heap.size W W') : RfA W' O r S := h.heap fun i _ hi => hb.block i hi
theorem RfA.wf (h : RfA W O r S) : S.WF := by obtain ⟨vL, Rs, h1, _⟩ := h; exact h1.wf
/-- The pointer at a place. -/
theorem RfM.ptr (h : RfM W r vL Rs S) {i : Nat} {R : RfR} (hR : Rs[i]? = some R) : ∃ g c, vL = .slice (some ⟨g, 0, none⟩) Rs.length c ∧ W.cell? ⟨g, i, none⟩ = some (.pointer (some ⟨R.b, 0, none⟩)) := by
  have hi : i < Rs.length := (List.getElem?_eq_some_iff.1 hR).1
  obtain ⟨g, c, hv, _⟩ := own_pos h.row (by omega)
  refine ⟨g, c, hv, ?_⟩
  have := h.row.cells (g := g) (by rw [hv]; rfl) i (.pointer (some ⟨R.b, 0, none⟩)) (by rw [List.getElem?_map, hR]; rfl)
  rwa [addLit, Nat.zero_add] at this
end
theorem rnew_any (n : Int) (w : World) :
    Calls Tryz.prog 7 #[.int .i64 n] w fun e w' => ∃ r, e = .returned (.pointer (some ⟨r, 0, none⟩)) ∧ RfA w' (fun i => w.heap.size ≤ i) r (newP n) ∧ Below w.heap.size w w' := by
  have hP : (newP n).most = (if 65536 < (if n < 1 then (1 : Int) else n) then 65536 else (if n < 1 then 1 else n)).toNat := by
    unfold newP
    simp only
    congr 1
    split <;> split <;> omega
  have hz : Hid (∀ r W, Bk W r 48 #[.slice none 0 0, .int .i64 ((newP n).most : Int), .int .i64 0, .int .i64 (-1), .bool false] → RfM W r (.slice none 0 0) [] (newP n)) := Lib.hid (fun r W h => ⟨h, World.ownsRow_nil _ _ _ _, rfl, fun i R p hR => by simp at hR, List.Pairwise.nil, newP_wf n⟩)
  have HP := Lib.hid hP
  by_cases h1 : n < 1
  · have hm : ((newP n).most : Int) = 1 := by rw [hP, if_pos h1]; decide
    rw [hm] at hz
    clear hP hm
    go_enter Tryz.func7, Tryz.ntmps7
    go_wp2
    go_ret
    exact ⟨w.heap.size, rfl, ⟨_, _, hz.out _ _ (Bk.new w _ _), fun i hi => by rcases hi with rfl | hi | ⟨R, hR, _⟩; exact Nat.le_refl _; cases hi; cases hR⟩, (Below.refl _ _).alloc (Nat.le_refl _) _⟩
  · by_cases h2 : 65536 < n
    · have hm : ((newP n).most : Int) = 65536 := by rw [hP, if_neg h1, if_pos h2]; decide
      rw [hm] at hz
      clear hP hm
      go_enter Tryz.func7, Tryz.ntmps7
      go_wp2
      go_ret
      exact ⟨w.heap.size, rfl, ⟨_, _, hz.out _ _ (Bk.new w _ _), fun i hi => by rcases hi with rfl | hi | ⟨R, hR, _⟩; exact Nat.le_refl _; cases hi; cases hR⟩, (Below.refl _ _).alloc (Nat.le_refl _) _⟩
    · have hm : ((newP n).most : Int) = n := by rw [hP, if_neg h1, if_neg h2]; omega
      rw [hm] at hz
      clear hP hm
      go_enter Tryz.func7, Tryz.ntmps7
      go_wp2
      go_ret
      exact ⟨w.heap.size, rfl, ⟨_, _, hz.out _ _ (Bk.new w _ _), fun i hi => by rcases hi with rfl | hi | ⟨R, hR, _⟩; exact Nat.le_refl _; cases hi; cases hR⟩, (Below.refl _ _).alloc (Nat.le_refl _) _⟩
end Go.Proofs.YtknjopefbbldfaaGreatDoor
/- The document's store: Right, Find, Room, burn, stamped. -/
namespace Go.Proofs.YtknjopefbbldfaaGreatDoor
open Go.RowKit
attribute [local go_sem ↓] Go.wp_at_zero Go.wp_at_succ

/-- Where a file of this name stands. -/
def idxP (S : FsP) (n : List UInt8) : Option Nat := S.fs.findIdx? fun p => p.1 == n
def idxV (S : FsP) (n : List UInt8) : Int := match idxP S n with | none => -1 | some i => (i : Int)
theorem find_idx {S : FsP} (h : S.WF) (n : List UInt8) : (idxP S n = none ∧ findP S n = none) ∨ ∃ i x, idxP S n = some i ∧ S.fs[i]? = some (n, x) ∧ findP S n = some x := by
  cases hi : idxP S n with
  | none =>
    refine .inl ⟨rfl, ?_⟩
    unfold idxP at hi
    rw [List.findIdx?_eq_none_iff] at hi
    exact lookup_ne (fun p hp => by simpa using hi p hp)
  | some i =>
    unfold idxP at hi
    rw [List.findIdx?_eq_some_iff_getElem] at hi
    obtain ⟨hlt, hp, _⟩ := hi
    have e : S.fs[i].1 = n := by simpa using hp
    have e2 : S.fs[i]? = some (n, S.fs[i].2) := by rw [List.getElem?_eq_getElem hlt, ← e]
    exact .inr ⟨i, _, rfl, e2, find_mem h (List.mem_of_getElem? e2)⟩
theorem idxP_ne {S : FsP} {n : List UInt8} {i : Nat} (h : idxP S n = some i) : ∀ (j : Nat) (p : List UInt8 × FlP), j < i → S.fs[j]? = some p → p.1 ≠ n := by
  intro j p hj hp
  unfold idxP at h
  rw [List.findIdx?_eq_some_iff_getElem] at h
  obtain ⟨hlt, _, hno⟩ := h
  have := hno j hj
  obtain ⟨hj2, e⟩ := List.getElem?_eq_some_iff.1 hp
  rw [e] at this
  simpa using this
theorem idx_none {S : FsP} {n : List UInt8} (h : idxP S n = none) : ∀ (j : Nat) (p : List UInt8 × FlP), S.fs[j]? = some p → p.1 ≠ n := by
  intro j p hp
  unfold idxP at h
  rw [List.findIdx?_eq_none_iff] at h
  simpa using h p (List.mem_of_getElem? hp)
set_option maxHeartbeats 4000000 in
set_option maxRecDepth 100000 in
theorem find_any (r : Nat) (vL : Value) (Rs : List RfR) (S : FsP) (s : ByteArray) (w : World) (h : RfM w r vL Rs S) :
    Calls Tryz.prog 46 #[.pointer (some ⟨r, 0, none⟩), .string s] w fun e w' => e = .returned (.int .i64 (idxV S s.data.toList)) ∧ w' = w := by
  obtain ⟨A, c, hvL, hc1, hc2⟩ := own_form h.row
  have H := Lib.hid h
  have d0 : w.cell? ⟨r, 0, none⟩ = some (.slice A Rs.length c) := by rw [← hvL]; exact h.hd.cell 0
  have hlen := h.len
  have hb : Rs.length ≤ 9223372036854775807 := by unfold maxLen at hc2; omega
  obtain ⟨N, hN⟩ : ∃ N, N = Rs.length := ⟨_, rfl⟩
  rw [← hN] at d0 hb
  have HN := Lib.hid (And.intro hN (And.intro hlen hvL))
  clear h hvL hc1 hc2 hN hlen
  have key : ∃ K, K ≤ N ∧ (∀ (j : Nat) (p : List UInt8 × FlP), j < K → S.fs[j]? = some p → p.1 ≠ s.data.toList) ∧ ((K = N ∧ idxV S s.data.toList = -1) ∨ (K < N ∧ idxV S s.data.toList = (K : Int) ∧ ∃ x, S.fs[K]? = some (s.data.toList, x))) := by
    rcases find_idx H.out.wf s.data.toList with ⟨h1, _⟩ | ⟨i, x, h1, h2, _⟩
    · exact ⟨N, Nat.le_refl _, fun j p _ hp => idx_none h1 j p hp, .inl ⟨rfl, by unfold idxV; rw [h1]⟩⟩
    · have hi : i < S.fs.length := (List.getElem?_eq_some_iff.1 h2).1
      exact ⟨i, by have := HN.out.1; have := HN.out.2.1; omega, fun j p hj hp => idxP_ne h1 j p hj hp, .inr ⟨by have := HN.out.1; have := HN.out.2.1; omega, by unfold idxV; rw [h1], x, h2⟩⟩
  obtain ⟨K, hK1, hK2, hK3⟩ := key
  have HK := Lib.hid (And.intro hK2 hK3)
  clear hK2 hK3
  go_enter Tryz.func46, Tryz.ntmps46
  go_wp2_with fail
  go_loopw [5] (fun s5 wr => ∃ i : Nat, s5 = .int .i64 (i : Int) ∧ i ≤ K ∧ wr = w) (fun s5 _ => N - (intOf s5).toNat)
  case atStart => exact ⟨0, rfl, Nat.zero_le _, rfl⟩
  case round =>
    obtain ⟨i, rfl, hi, hw⟩ := hrel
    replace hw := hw.symm
    subst hw
    by_cases hlt : i < N
    · have hiR : i < Rs.length := by have := HN.out.1; omega
      obtain ⟨g, c', hv, hcell⟩ := H.out.ptr (List.getElem?_eq_getElem hiR)
      obtain ⟨n, x, hfs, hff⟩ := H.out.at_ (List.getElem?_eq_getElem hiR)
      rw [HN.out.2.2] at hv
      injection hv with hv1 hv2 hv3
      subst hv1
      have dn : w.cell? ⟨Rs[i].b, 0, none⟩ = some (.string ⟨n.toArray⟩) := hff.hd.cell 0
      generalize Rs[i].b = b at *
      by_cases hiK : i = K
      · have hn : n = s.data.toList := by
          rcases HK.out.2 with ⟨h1, _⟩ | ⟨_, _, y, hy⟩
          · omega
          · rw [← hiK, hfs] at hy
            injection hy with hy
            injection hy with hy _
        have hq : idxV S s.data.toList = (i : Int) := by
          rcases HK.out.2 with ⟨h1, _⟩ | ⟨_, h2, _⟩
          · omega
          · rw [h2, hiK]
        have he : (n == s.toList) = true := by rw [ByteArray.toList_eq]; simp [hn]
        have Hq := Lib.hid hq
        clear hiR hfs hff hn hq hiK hv2 hv3
        go_wp2_with fail
        go_ret
        exact ⟨by (show Ending.returned (Value.int .i64 (i : Int)) = _); rw [Hq.out], by first | rfl | trivial⟩
      · have hn : n ≠ s.data.toList := HK.out.1 i _ (by omega) hfs
        have he : (n == s.toList) = false := by rw [ByteArray.toList_eq]; simpa using hn
        have hiK2 : i < K := by omega
        clear hiR hfs hff hn hiK hv2 hv3
        go_wp2_with fail
        go_roundw
        case rel => exact ⟨i + 1, by rfl, by omega, by first | rfl | trivial⟩
        case measure => simp [intOf]; omega
    · have hiN : N = i := by omega
      have hKN : idxV S s.data.toList = -1 := by
        rcases HK.out.2 with ⟨_, h2⟩ | ⟨h1, _⟩
        · exact h2
        · omega
      have Hq := Lib.hid hKN
      clear hKN
      subst hiN
      go_wp2_with fail
      go_ret
      exact ⟨by (show Ending.returned (Value.int .i64 (-1)) = _); rw [Hq.out], by first | rfl | trivial⟩
end Go.Proofs.YtknjopefbbldfaaGreatDoor
/- The document's store: burn, Room, stamped. -/
namespace Go.Proofs.YtknjopefbbldfaaGreatDoor
open Go.RowKit
attribute [local go_sem ↓] Go.wp_at_zero Go.wp_at_succ

set_option maxHeartbeats 4000000 in
theorem rburn_any (r : Nat) (a0 a1 a2 : Value) (fu : Int) (d : Bool) (w : World) (h : Bk w r 48 #[a0, a1, a2, .int .i64 fu, .bool d]) (h1 : -1 ≤ fu) (h2 : fu ≤ 9223372036854775807) :
    Calls Tryz.prog 47 #[.pointer (some ⟨r, 0, none⟩)] w fun e w' => e = .returned (.bool (fu != 0)) ∧ Bk w' r 48 #[a0, a1, a2, .int .i64 (burnt fu d).1, .bool (burnt fu d).2] ∧ Ch (fun i => i = r) w w' := by
  have c3 : w.cell? ⟨r, 3, none⟩ = some (.int .i64 fu) := h.cell 3
  have c4 : w.cell? ⟨r, 4, none⟩ = some (.bool d) := h.cell 4
  have f3 := h.free 3
  have f4 := h.free 4
  have H := Lib.hid h
  clear h
  unfold burnt
  by_cases h0 : fu = 0
  · subst h0
    have H2 := Lib.hid (H.out.set 4 (.bool true))
    have HC := Lib.hid ((Ch.refl (fun i => i = r) w).set (p := ⟨r, 4, none⟩) (.inl rfl) (.bool true))
    clear h1 h2
    go_enter Tryz.func47, Tryz.ntmps47
    go_wp2
    go_ret
    exact ⟨rfl, H2.out, HC.out⟩
  · by_cases hp : 0 < fu
    · have H2 := Lib.hid (H.out.set 3 (.int .i64 (fu - 1)))
      have HC := Lib.hid ((Ch.refl (fun i => i = r) w).set (p := ⟨r, 3, none⟩) (.inl rfl) (.int .i64 (fu - 1)))
      have e1 : (fu == 0) = false := by simpa using h0
      have e3 : (fu != 0) = true := by simpa using h0
      rw [if_neg h0, if_pos hp, e3]
      clear h0 e3
      go_enter Tryz.func47, Tryz.ntmps47
      go_wp2
      go_ret
      exact ⟨rfl, H2.out, HC.out⟩
    · have e1 : (fu == 0) = false := by simpa using h0
      have e3 : (fu != 0) = true := by simpa using h0
      rw [if_neg h0, if_neg hp, e3]
      clear h0 e3 h1 h2
      go_enter Tryz.func47, Tryz.ntmps47
      go_wp2
      go_ret
      exact ⟨rfl, H.out, Ch.refl _ _⟩
/-- The store's own block has turned, and nothing else of it. -/
theorem RfM.upd {W W' : World} {r : Nat} {vL : Value} {Rs : List RfR} {S S' : FsP} (h : RfM W r vL Rs S) (hd : Bk W' r 48 #[vL, .int .i64 (S'.most : Int), .int .i64 (S'.stamp : Int), .int .i64 S'.fuse, .bool S'.down])
    (hk : ∀ i, RfO r vL Rs i → i ≠ r → W'.heap[i]? = W.heap[i]?) (hr : ∀ i, (vL.ownBlock = some i ∨ ∃ R ∈ Rs, R.has i) → i ≠ r) (hfs : S'.fs = S.fs) (hwf : S'.WF) : RfM W' r vL Rs S' :=
  ⟨hd, own_heap' h.row (fun i hi => hk i (.inr (.inl hi)) (hr i (.inl hi))), by rw [hfs]; exact h.len, fun i R p hR hp => by
    rw [hfs] at hp
    exact (h.fl i R p hR hp).heap (fun k hk2 => hk k (.inr (.inr ⟨R, List.mem_of_getElem? hR, hk2⟩)) (hr k (.inr ⟨R, List.mem_of_getElem? hR, hk2⟩))), h.ap, hwf⟩
theorem own_bk_ne {w : World} {base s n : Nat} {e t : TypeId} {v : Value} {xs : List Value} {g : Nat} {cs : Array Value} (h : w.ownsRow base e s v n xs) (hg : Bk w g t cs) (hne : e ≠ t) {i : Nat} (hi : v.ownBlock = some i) : i ≠ g := by
  rintro rfl
  rcases h.2 with ⟨rfl, _⟩ | ⟨g', cap, cur, rfl, _, hh, _⟩
  · cases hi
  · injection hi with hi
    dsimp only at hi
    subst hi
    unfold Bk at hg
    rw [hg] at hh
    injection hh with hh
    injection hh with _ ht
    exact hne ht.symm
/-- What is not the store's own block. -/
theorem RfM.ner {W : World} {r : Nat} {vL : Value} {Rs : List RfR} {S : FsP} (h : RfM W r vL Rs S) : ∀ i, (vL.ownBlock = some i ∨ ∃ R ∈ Rs, R.has i) → i ≠ r := by
  rintro i (hi | ⟨R, hR, hi⟩)
  · exact own_bk_ne h.row h.hd (by decide) hi
  · obtain ⟨j, hj, e⟩ := List.mem_iff_getElem.1 hR
    obtain ⟨n, x, _, hf⟩ := h.at_ (show Rs[j]? = some R by rw [List.getElem?_eq_getElem hj, e])
    rcases hi with rfl | hi | hi | hi
    · exact Bk.ne hf.hd h.hd (by decide)
    · exact own_bk_ne hf.b h.hd (by decide) hi
    · exact own_bk_ne hf.o h.hd (by decide) hi
    · exact own_bk_ne hf.w h.hd (by decide) hi
theorem rburn_fs (r : Nat) (vL : Value) (Rs : List RfR) (S : FsP) (w : World) (h : RfM w r vL Rs S) :
    Calls Tryz.prog 47 #[.pointer (some ⟨r, 0, none⟩)] w fun e w' => e = .returned (.bool (burnP S)) ∧ RfM w' r vL Rs (burntP S) ∧ Ch (fun i => i = r) w w' := by
  refine (rburn_any r _ _ _ S.fuse S.down w h.hd h.wf.fuse1 h.wf.fuse2).mono ?_
  rintro e w' ⟨rfl, h1, h2⟩
  obtain ⟨e1, e2, e3, e4, e5⟩ := burntP_parts S
  refine ⟨rfl, h.upd ?_ (fun i hi hne => h2.block i (h.lt i hi) hne) h.ner e3 (burntP_wf h.wf), h2⟩
  rw [e1, e2, e4, e5]
  exact h1
set_option maxHeartbeats 4000000 in
set_option maxRecDepth 100000 in
theorem rroom_any (r : Nat) (vL : Value) (Rs : List RfR) (S : FsP) (w : World) (h : RfM w r vL Rs S) :
    Calls Tryz.prog 35 #[.pointer (some ⟨r, 0, none⟩)] w fun e w' => e = .returned (.int .i64 ((S.most - useP S.fs : Nat) : Int)) ∧ w' = w := by
  obtain ⟨A, c, hvL, hc1, hc2⟩ := own_form h.row
  have H := Lib.hid h
  have d0 : w.cell? ⟨r, 0, none⟩ = some (.slice A Rs.length c) := by rw [← hvL]; exact h.hd.cell 0
  have d1 : w.cell? ⟨r, 1, none⟩ = some (.int .i64 (S.most : Int)) := h.hd.cell 1
  have hlen := h.len
  have hb : Rs.length ≤ 9223372036854775807 := by unfold maxLen at hc2; omega
  obtain ⟨N, hN⟩ : ∃ N, N = Rs.length := ⟨_, rfl⟩
  rw [← hN] at d0 hb
  have hroom := h.wf.room
  have hmost := h.wf.most2
  have HN := Lib.hid (And.intro hN (And.intro hlen (And.intro hvL hroom)))
  clear h hvL hc1 hc2 hN hlen hroom
  go_enter Tryz.func35, Tryz.ntmps35
  go_wp2_with fail
  go_loopw [3, 4] (fun s3 s4 wr => ∃ i v : Nat, s4 = .int .i64 (i : Int) ∧ i ≤ N ∧ s3 = .int .i64 (v : Int) ∧ v ≤ 65536 ∧ wr = w ∧ Hid (v + useP (S.fs.take i) = S.most)) (fun _ s4 _ => N - (intOf s4).toNat)
  case atStart => exact ⟨0, S.most, rfl, Nat.zero_le _, rfl, hmost, rfl, Lib.hid rfl⟩
  case round =>
    obtain ⟨i, v, rfl, hi, rfl, hv, hw, HV⟩ := hrel
    replace hw := hw.symm
    subst hw
    by_cases hlt : i < N
    · have hiR : i < Rs.length := by have := HN.out.1; omega
      obtain ⟨g, c', hv9, hcell⟩ := H.out.ptr (List.getElem?_eq_getElem hiR)
      obtain ⟨n, x, hfs, hff⟩ := H.out.at_ (List.getElem?_eq_getElem hiR)
      rw [HN.out.2.2.1] at hv9
      injection hv9 with hv1 hv2 hv3
      subst hv1
      obtain ⟨A3, c3, hvW, _, _⟩ := own_form hff.w
      have dn : w.cell? ⟨Rs[i].b, 3, none⟩ = some (.slice A3 x.W.length c3) := by rw [← hvW]; exact hff.hd.cell 3
      have ht : useP (S.fs.take (i + 1)) = useP (S.fs.take i) + x.W.length := by rw [take_step hfs, use_app]; simp [useP]
      have hu : useP (S.fs.take (i + 1)) ≤ useP S.fs := by
        have := use_app (S.fs.take (i + 1)) (S.fs.drop (i + 1))
        rw [List.take_append_drop] at this
        omega
      obtain ⟨V, hV⟩ : ∃ V, V = v - x.W.length := ⟨_, rfl⟩
      have hvx : x.W.length ≤ v := by have := HV.out; have := HN.out.2.2.2; omega
      have eV : (v : Int) - (x.W.length : Int) = (V : Int) := by omega
      have hVb : V ≤ 65536 := by omega
      have HV2 := Lib.hid (show V + useP (S.fs.take (i + 1)) = S.most from by have := HV.out; omega)
      generalize Rs[i].b = b at *
      clear hiR hfs hff hv2 hv3 hvW ht hu hV hvx
      go_wp2_with fail
      go_roundw
      case rel => exact ⟨i + 1, V, rfl, by omega, rfl, hVb, by first | rfl | trivial, HV2⟩
      case measure => simp [intOf]; omega
    · have hiN : N = i := by omega
      have hq : (v : Int) = ((S.most - useP S.fs : Nat) : Int) := by
        have h1 := HV.out
        have h2 := HN.out
        rw [List.take_of_length_le (by omega)] at h1
        omega
      have Hq := Lib.hid hq
      clear hq
      subst hiN
      go_wp2_with fail
      go_ret
      exact ⟨by (show Ending.returned (Value.int .i64 (v : Int)) = _); rw [Hq.out], by first | rfl | trivial⟩
end Go.Proofs.YtknjopefbbldfaaGreatDoor
