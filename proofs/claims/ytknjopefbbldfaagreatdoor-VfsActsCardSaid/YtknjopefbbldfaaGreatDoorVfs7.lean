/- Contracts of package vfs: New, right, Create. -/
import Derived.Test.YtknjopefbbldfaaGreatDoorVfs6
import Derived.Test.YtknjopefbbldfaaGreatDoorShelfV
namespace Go.Proofs.YtknjopefbbldfaaGreatDoor
open Go.RowKit
attribute [local go_sem ↓] Go.wp_at_zero Go.wp_at_succ

def okL : List UInt8 := [97, 98, 99, 100, 101, 102, 103, 104, 105, 106, 107, 108, 109, 110, 111, 112, 113, 114, 115, 116, 117, 118, 119, 120, 121, 122, 48, 49, 50, 51, 52, 53, 54, 55, 56, 57, 46, 45, 47]
theorem okB_okL (c : UInt8) : okL.contains c = okB c := by
  have h : ∀ n, n < 256 → okL.contains (UInt8.ofNat n) = okB (UInt8.ofNat n) := by decide +kernel
  have := h c.toNat (UInt8.toNat_lt c)
  rwa [UInt8.ofNat_toNat] at this
theorem mem_tw (p : UInt8 → Bool) : ∀ (l : List UInt8) (c : UInt8), c ∈ l.takeWhile p → p c = true
  | [], c, h => by cases h
  | a :: r, c, h => by
    rw [List.takeWhile_cons] at h
    cases ha : p a with
    | true =>
      rw [ha] at h
      rcases List.mem_cons.1 h with rfl | h
      · exact ha
      · exact mem_tw p r c h
    | false => rw [ha] at h; cases h
theorem trimS_nil (l cs : List UInt8) : (Lib.trimS l cs = []) ↔ ∀ c ∈ l, cs.contains c = true := by
  unfold Lib.trimS Lib.trimLeftS Lib.trimRightS
  have dw : ∀ (p : UInt8 → Bool) (l : List UInt8), l.dropWhile p = [] ↔ ∀ c ∈ l, p c = true := by
    intro p l
    induction l with
    | nil => simp
    | cons a r ih =>
      rw [List.dropWhile_cons]
      cases h : p a with
      | true => simp [h, ih]
      | false => simp [h]
  rw [dw]
  constructor
  · intro h c hc
    have h2 : ∀ c ∈ l.reverse.dropWhile (cs.contains ·), cs.contains c = true := fun c hc => h c (List.mem_reverse.2 hc)
    have h3 : ∀ c ∈ l.reverse, cs.contains c = true := by
      intro c hc
      rw [← List.takeWhile_append_dropWhile (p := (cs.contains ·)) (l := l.reverse)] at hc
      rcases List.mem_append.1 hc with hc | hc
      · exact mem_tw (cs.contains ·) _ _ hc
      · exact h2 c hc
    exact h3 c (List.mem_reverse.2 hc)
  · intro h c hc
    rw [List.mem_reverse] at hc
    exact h c (List.mem_reverse.1 ((List.dropWhile_sublist _).subset hc))
theorem infoAs : (Tryz.prog.info? 95).map (fun i => (i.zero, i.size)) = some (some (.agg (Array.replicate 256 (.bool false))), 256) := by kernel_rfl
theorem trim_any (s : ByteArray) (w : World) (hs : s.size ≤ 1000000) :
    Calls Tryz.prog 56 #[.string s, .string ⟨okL.toArray⟩] w fun e w' => e = .returned (.string ⟨(Lib.trimS s.data.toList okL).toArray⟩) ∧ Below w.heap.size w w' :=
  Any.strings_Trim_laid Tryz.trimL infoAs s ⟨okL.toArray⟩ w (by omega) (by decide) (ascii_of_all (by decide))
theorem trim_all (l : List UInt8) : (Lib.trimS l okL).isEmpty = l.all okB := by
  rw [Bool.eq_iff_iff, List.isEmpty_iff, trimS_nil, List.all_eq_true]
  simp only [okB_okL]
theorem rightP_eq (s : ByteArray) : rightP s.data.toList = (!s.toList.isEmpty && (decide (s.size ≤ 24) && (Lib.trimS s.data.toList okL).isEmpty)) := by
  rw [trim_all, ByteArray.toList_eq, Lib.size_eq]
  unfold rightP
  cases h : s.data.toList with
  | nil => rfl
  | cons a r => simp
set_option maxHeartbeats 4000000 in
set_option maxRecDepth 100000 in
theorem right_any (s : ByteArray) (w : World) (hs : s.size ≤ 1000000) :
    Calls Tryz.prog 38 #[.string s] w fun e w' => e = .returned (.bool (rightP s.data.toList)) ∧ Below w.heap.size w w' := by
  have HT := Lib.hid (fun w => trim_any s w hs)
  go_enter Tryz.func38, Tryz.ntmps38
  go_wp2_with ((go_at_call 56; refine (HT.out _).mono ?_; rintro e w1 ⟨rfl, b1⟩; replace b1 := Lib.hid b1))
  · rename_i h0
    go_ret
    refine ⟨ret_bool ?_, Below.refl _ _⟩
    rw [rightP_eq, h0]; rfl
  · rename_i h0
    have h1 : (s.size : Int) ≤ 24 := by omega
    go_ret
    refine ⟨ret_bool ?_, b1.out⟩
    rw [rightP_eq, show decide (s.size ≤ 24) = true by rw [decide_eq_true_eq]; omega, Bool.true_and]
  · rename_i h0
    have h1 : ¬ (s.size : Int) ≤ 24 := by omega
    go_ret
    refine ⟨ret_bool ?_, Below.refl _ _⟩
    rw [rightP_eq, show decide (s.size ≤ 24) = false by rw [decide_eq_false_iff_not]; omega, Bool.false_and, Bool.and_false]
theorem newP_wf (n : Int) : (newP n).WF := by
  refine ⟨?_, ?_, by simp [newP], by simp [newP], fun p hp => by simp [newP] at hp, by simp [newP], by simp [newP, useP], fun p hp => by simp [newP] at hp⟩
  · unfold newP; simp only; omega
  · unfold newP; simp only; omega
set_option maxHeartbeats 4000000 in
set_option maxRecDepth 100000 in
theorem new_any (n : Int) (w : World) :
    Calls Tryz.prog 6 #[.int .i64 n] w fun e w' => ∃ f, e = .returned (.pointer (some ⟨f, 0, none⟩)) ∧ FsA w' (fun i => w.heap.size ≤ i) f (newP n) ∧ Below w.heap.size w w' := by
  obtain ⟨M1, hM1⟩ : ∃ M1, M1 = max n 1 := ⟨_, rfl⟩
  obtain ⟨M, hM⟩ : ∃ M : Nat, M = (newP n).most := ⟨_, rfl⟩
  have e1 := fun ats ty => run_max ats ty n 1 M1 (by rw [hM1]; split <;> omega)
  have e2 := fun ats ty => run_min ats ty M1 65536 (M : Int) (by rw [hM]; unfold newP; simp only; rw [← hM1]; split <;> omega)
  have HM := Lib.hid hM
  have hmm := @run_makeMap Tryz.prog
  clear hM1 hM
  go_enter Tryz.func6, Tryz.ntmps6
  go_wp2_with fail
  go_ret
  have hS : ∀ s, findP (newP n) s = none := fun s => rfl
  refine ⟨w.heap.size + 1, rfl, ⟨w.heap.size, fun _ => 0, fun _ => 0, fun _ => .slice none 0 0, ⟨?_, ?_, fun s x h => ?_, fun s x s' x' h => ?_, fun s x s' x' h => ?_, newP_wf n⟩, ?_⟩, ((Below.refl _ _).alloc (Nat.le_refl _) _).alloc (by simp) _⟩
  · rw [← HM.out]
    exact Bk.new' (w.alloc (.map #[] 0)) _ _ (by simp)
  · refine ((MapS.new w).mono (Nat.zero_le _)).heap (Below.heap_alloc _ _ _ (by simp)) |>.congr (fun s => ?_)
    rw [hS]; rfl
  · rw [hS] at h; cases h
  · rw [hS] at h; cases h
  · rw [hS] at h; cases h
  · rintro i (rfl | rfl | ⟨s, x, h, _⟩)
    · omega
    · omega
    · rw [hS] at h; cases h
section
variable {W W' : World} {f m : Nat} {bl gl : List UInt8 → Nat} {sv : List UInt8 → Value} {S S' : FsP}
theorem FsM.nef (h : FsM W f m bl gl sv S) {n : List UInt8} {x : FlP} (hx : findP S n = some x) : bl n ≠ f ∧ (0 < x.W.length → gl n ≠ f) ∧ m ≠ f :=
  ⟨Bk.ne (h.fl n x hx).hd h.hd (by decide), fun h0 => (h.fl n x hx).sl.ne h0 h.hd (by decide), h.mp.ne h.hd⟩
/-- The store's own block has turned, and nothing else of it. -/
theorem FsM.upd (h : FsM W f m bl gl sv S) (hd : Bk W' f 45 #[.int .i64 (S'.most : Int), .int .i64 (S'.stamp : Int), .int .i64 S'.fuse, .bool S'.down, .map (some m)])
    (hk : ∀ i, FsO f m bl gl S i → i ≠ f → W'.heap[i]? = W.heap[i]?) (hfs : S'.fs = S.fs) (hst : S.stamp ≤ S'.stamp) (hwf : S'.WF) : FsM W' f m bl gl sv S' := by
  have hf : ∀ n, findP S' n = findP S n := fun n => by unfold findP; rw [hfs]
  refine ⟨hd, ?_, fun n x hx => ?_, fun n x n' x' hx hx' => ?_, fun n x n' x' hx hx' => ?_, hwf⟩
  · refine ((h.mp.heap (hk m (.inr (.inl rfl)) (h.mp.ne h.hd))).mono hst).congr (fun n => by rw [hf])
  · rw [hf] at hx
    obtain ⟨h1, h2, _⟩ := h.nef hx
    exact (h.fl n x hx).heap (hk _ (.inr (.inr ⟨n, x, hx, .inl rfl⟩)) h1) (fun h0 => hk _ (.inr (.inr ⟨n, x, hx, .inr ⟨h0, rfl⟩⟩)) (h2 h0))
  · rw [hf] at hx hx'; exact h.bi n x n' x' hx hx'
  · rw [hf] at hx hx'; exact h.si n x n' x' hx hx'
theorem FsO_fs (hfs : S'.fs = S.fs) (i : Nat) : FsO f m bl gl S' i ↔ FsO f m bl gl S i := by
  have hf : ∀ n, findP S' n = findP S n := fun n => by unfold findP; rw [hfs]
  unfold FsO
  simp only [hf]
end
theorem burntP_parts (S : FsP) : (burntP S).most = S.most ∧ (burntP S).stamp = S.stamp ∧ (burntP S).fs = S.fs ∧ (burntP S).fuse = (burnt S.fuse S.down).1 ∧ (burntP S).down = (burnt S.fuse S.down).2 := by
  unfold burntP burnt
  by_cases h0 : S.fuse = 0
  · simp [h0]
  · by_cases h1 : 0 < S.fuse
    · simp [h0, h1]
    · simp [h0, h1]
theorem burntP_wf {S : FsP} (h : S.WF) : (burntP S).WF := by
  obtain ⟨e1, e2, e3, e4, _⟩ := burntP_parts S
  have h1 := h.fuse1
  have h2 := h.fuse2
  refine ⟨by rw [e1]; exact h.most1, by rw [e1]; exact h.most2, ?_, ?_, by rw [e3]; exact h.files, by rw [e3]; exact h.order, by rw [e3, e1]; exact h.room, by rw [e3]; exact h.names⟩
  · rw [e4]; unfold burnt; split
    · simp
    · split <;> simp only <;> omega
  · rw [e4]; unfold burnt; split
    · simp
    · split <;> simp only <;> omega
/-- burn, of a store. -/
theorem burn_fs (f m : Nat) (bl gl : List UInt8 → Nat) (sv : List UInt8 → Value) (S : FsP) (w : World) (h : FsM w f m bl gl sv S) :
    Calls Tryz.prog 39 #[.pointer (some ⟨f, 0, none⟩)] w fun e w' => e = .returned (.bool (burnP S)) ∧ FsM w' f m bl gl sv (burntP S) ∧ Ch (fun i => i = f) w w' := by
  refine (burn_any f _ _ _ S.fuse S.down w h.hd h.wf.fuse1 h.wf.fuse2).mono ?_
  rintro e w' ⟨rfl, h1, h2⟩
  obtain ⟨e1, e2, e3, e4, e5⟩ := burntP_parts S
  refine ⟨rfl, h.upd ?_ (fun i hi hne => h2.block i (h.lt i hi) hne) e3 (by rw [e2]; exact Nat.le_refl _) (burntP_wf h.wf), h2⟩
  rw [e1, e2, e4, e5]
  exact h1
end Go.Proofs.YtknjopefbbldfaaGreatDoor
