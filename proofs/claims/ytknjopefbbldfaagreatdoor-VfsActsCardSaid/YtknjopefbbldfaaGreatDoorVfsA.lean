/- Contracts of package vfs: names. -/
import Derived.Test.YtknjopefbbldfaaGreatDoorVfs9
namespace Go.Proofs.YtknjopefbbldfaaGreatDoor
open Go.RowKit Go.Maps Go.Sort Go.Shelf
attribute [local go_sem ↓] Go.wp_at_zero Go.wp_at_succ

theorem sorts_fn (m : Nat) : AnyZ.SortsIn Tryz.prog Tryz.sortedV_ren Fence.wide m :=
  ⟨fun blk off cap ss W hH hblk hsz => callsIn_wide.2 (AnyM.slices_Sort_string Tryz.sortV blk off cap ss W hH hblk hsz),
   fun p cap W => callsIn_wide.2 (AnyM.slices_Sort_string_none Tryz.sortV p cap W)⟩

theorem keys_fn (mb : Option Nat) (W : World) : CallsIn Fence.wide 5 Tryz.prog 58 #[.map mb] W fun e w' => e = .returned (.func (.func 71) #[] #[.pointer (some ⟨W.heap.size, 0, none⟩)]) ∧ w' = W.alloc (.cells #[.map mb] 43) :=
  AnyZ.keys_in Tryz.keysV Fence.wide 5 trivial rfl mb W

set_option maxHeartbeats 1000000 in
theorem sortedKeys_any {H : Type} (b nn : Nat) (D0 : DataW H) (R : Value → Option (DataW H × List MemPlace)) (w : World) (hown : w.ownsMap Tryz.prog 9 R b nn D0) (hmax : Maps.size D0 ≤ maxLen) (hbytes : Maps.size D0 * 16 ≤ 140737488355328) :
    CallsIn Fence.wide 5 Tryz.prog 57 #[.func (.func 71) #[] #[.pointer (some ⟨w.heap.size, 0, none⟩)]] (w.alloc (.cells #[.map (some b)] 43)) fun e w' => ∃ (v : Value) (ss : List (List UInt8)), e = .returned v ∧ ss.Perm (strKeys D0) ∧
      w'.ownsRow (w.alloc (.cells #[.map (some b)] 43)).heap.size 9 1 v ss.length ((ss.mergeSort (fun x y => decide (x ≤ y))).map encStr) ∧ (v = .slice none 0 0 ↔ ss = []) ∧ Below (w.alloc (.cells #[.map (some b)] 43)).heap.size (w.alloc (.cells #[.map (some b)] 43)) w' := by
  have hbl := hown.lt
  have hseq : SeqGives Fence.wide 2 Tryz.prog 71 #[.pointer (some ⟨w.heap.size, 0, none⟩)] encStr (fun ss => ss.Perm (strKeys D0)) (Maps.size D0) (w.alloc (.cells #[.map (some b)] 43)) :=
    AnyZ.keys_gives (ρ := Tryz.keysV_ren) { Tryz.keysV with } Fence.wide _ trivial rfl (by omega) w.heap.size b nn D0 _ (by simp) (by simp) (by
      obtain ⟨es, clock, hb, Ft, hs, hD⟩ := hown
      exact ⟨es, clock, (Below.heap_alloc _ _ b hbl).trans hb, Ft, hs, hD⟩)
  exact AnyZ.sorted_in Tryz.sortedV Fence.wide 5 trivial trivial trivial trivial rfl (by omega) (sorts_fn _) (enters_of Tryz.func70 (by kernel_rfl) rfl) 71 #[.pointer (some ⟨w.heap.size, 0, none⟩)] trivial (enters_of Tryz.func71 (by kernel_rfl) rfl) _ _ hmax hbytes _ hseq


/-- The names, as cells. -/
def nms (l : List (List UInt8)) : List Value := l.map encStr
theorem keys_perm {W : World} {f m : Nat} {bl gl : List UInt8 → Nat} {sv : List UInt8 → Value} {S : FsP} (h : FsM W f m bl gl sv S) :
    ∃ D : DataW Unit, W.ownsMap Tryz.prog 9 fileR m S.stamp D ∧ (S.fs.map (·.1)).Perm (strKeys D) := by
  obtain ⟨D, h1, h2, h3⟩ := h.mp
  refine ⟨D, h1, Collected.perm (left := fun _ => false) ⟨?_, fun x => ?_⟩ h1 lawS Tryz.underlying9 (fun _ => rfl)⟩
  · have := sorted_names.1 h.wf.order
    exact this.imp (fun h => lt_ne h)
  · rw [h2]
    constructor
    · intro hx
      obtain ⟨p, hp, rfl⟩ := List.mem_map.1 hx
      refine ⟨?_, rfl⟩
      show ((findP S p.1).map _).isSome = true
      rw [find_mem h.wf hp]; rfl
    · rintro ⟨hx, _⟩
      cases hf : findP S x with
      | none =>
        have hx' : ((findP S x).map fun _ => bl x).isSome = true := hx
        rw [hf] at hx'; cases hx'
      | some y => exact List.mem_map.2 ⟨(x, y), lookup_mem hf, rfl⟩
theorem names_sorted {S : FsP} (h : S.WF) {ss : List (List UInt8)} (hp : ss.Perm (S.fs.map (·.1))) : ss.mergeSort (fun x y => decide (x ≤ y)) = S.fs.map (·.1) := by
  have e : ss.mergeSort leB = (S.fs.map (·.1)).mergeSort leB := mergeSort_of_perm hp
  have e2 : (S.fs.map (·.1)).mergeSort leB = S.fs.map (·.1) := List.mergeSort_of_pairwise ((sorted_names.1 h.order).imp (fun hlt => by
    show decide _ = true
    rw [decide_eq_true_eq]
    exact List.le_of_lt hlt))
  exact e.trans e2
set_option maxHeartbeats 4000000 in
set_option maxRecDepth 100000 in
theorem names_any (f m : Nat) (bl gl : List UInt8 → Nat) (sv : List UInt8 → Value) (S : FsP) (w : World) (h : FsM w f m bl gl sv S) (hst : S.stamp ≤ 1000000) :
    Calls Tryz.prog 44 #[.pointer (some ⟨f, 0, none⟩)] w fun e w' => ∃ A c, e = .returned (.slice A S.fs.length c) ∧ w'.ownsRow w.heap.size 9 1 (.slice A S.fs.length c) S.fs.length (nms (S.fs.map (·.1))) ∧ S.fs.length ≤ c ∧ c ≤ maxLen ∧ Below w.heap.size w w' ∧ (S.fs = [] → A = none ∧ c = 0) := by
  have c4 : w.cell? ⟨f, 4, none⟩ = some (.map (some m)) := h.hd.cell 4
  obtain ⟨D, hown, hperm⟩ := keys_perm h
  have hsz := hown.size_le
  have HK := Lib.hid (fun W => (callsIn_wide.1 (keys_fn (some m) W) : Calls Tryz.prog _ _ W _))
  have HS := Lib.hid (callsIn_wide.1 (sortedKeys_any m S.stamp D fileR w hown (Nat.le_trans hsz (Nat.le_trans hst (by unfold maxLen; decide))) (by omega)))
  have HP := Lib.hid (And.intro h.wf hperm)
  clear h hown hperm hsz hst
  go_enter Tryz.func44, Tryz.ntmps44
  go_wp2_with fail
  with_reducible refine (HK.out _).mono ?_
  rintro e w1 ⟨rfl, hw1⟩; subst hw1
  go_wp2_with fail
  with_reducible refine HS.out.mono ?_
  rintro e w2 ⟨v, ss, rfl, hpp, hown, hnil, hb⟩
  have hn := names_sorted HP.out.1 (hpp.trans HP.out.2.symm)
  have hl : ss.length = S.fs.length := by
    have := hpp.length_eq
    have h2 := HP.out.2.length_eq
    simp at h2
    omega
  rw [hn, hl] at hown
  have hnil2 : S.fs = [] → v = .slice none 0 0 := fun h0 => hnil.2 (List.eq_nil_of_length_eq_zero (by rw [hl, h0]; rfl))
  obtain ⟨A, c, rfl, hc1, hc2⟩ := own_form hown
  have HX := Lib.hid (And.intro (own_base (base' := w.heap.size) hown (by simp)) (And.intro hc1 (And.intro hc2 (And.intro hb hnil2))))
  clear hpp hown hnil hb hn hl hc1 hc2 hnil2
  go_wp2_with fail
  go_ret
  obtain ⟨h1, h2, h3, h4, h5⟩ := HX.out
  exact ⟨A, c, rfl, h1, h2, h3, ((Below.refl _ _).alloc (Nat.le_refl _) _).trans (h4.mono (by simp)), fun h0 => by have := h5 h0; injection this with e1 e2 e3; exact ⟨e1, e3⟩⟩
end Go.Proofs.YtknjopefbbldfaaGreatDoor
