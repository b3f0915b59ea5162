/- Contracts of package vfs: Room. -/
import Derived.Test.YtknjopefbbldfaaGreatDoorVfs5
namespace Go.Proofs.YtknjopefbbldfaaGreatDoor
open Go.RowKit
attribute [local go_sem ↓] Go.wp_at_zero Go.wp_at_succ

/-- A range over the files under way: L says which are still to come. -/
def RngS (W : World) (m r n : Nat) (f : List UInt8 → Option Nat) (L : List UInt8 → Bool) (cnt : Nat) : Prop :=
  ∃ (D : DataW Unit) (left : Lit → Bool), W.ranges Tryz.prog 9 fileR m r n D left cnt ∧ (∀ s, Maps.has D (.string s) = (f s).isSome) ∧ (∀ s v, f s = some v → ∀ z, D.atKey (.string s) z = .lit (.int .i64 (v : Int))) ∧ (∀ s, L s = left (.string s)) ∧ ∀ s, L s = true → (f s).isSome = true
section
variable {w w' : World} {m r n cnt : Nat} {f : List UInt8 → Option Nat} {L : List UInt8 → Bool}
theorem RngS.kept {row : Option Nat} (h : RngS w m r n f L cnt) (hg : w.grownBy w' row) (h1 : some m ≠ row) (h2 : some r ≠ row) : RngS w' m r n f L cnt := by
  obtain ⟨D, left, a, b⟩ := h; exact ⟨D, left, a.kept hg h1 h2, b⟩
theorem RngS.below {B : Nat} (h : RngS w m r n f L cnt) (hb : Below B w w') (hB : w.heap.size ≤ B) : RngS w' m r n f L cnt := h.kept (row := none) ⟨hb.os, hb.tape, hb.output, hb.size, fun k hk _ => hb.block k (by omega)⟩ (by simp) (by simp)
theorem RngS.lt (h : RngS w m r n f L cnt) : r < w.heap.size := by obtain ⟨D, left, a, _⟩ := h; exact a.lt
theorem RngS.left (h : RngS w m r n f L cnt) : w.rangeLeft m r = cnt := by obtain ⟨D, left, a, _⟩ := h; exact a.left_eq
/-- range m -/
theorem range_files {ops : Array Oper} {rest : List Oper} {o : Oper} {a : Act} {Q : Exit → Act → World → Prop} (hg : o.guard = none) (x : Operand) (hop : o.op = Op.range 43 x)
    (h : MapS w m n f) (hm : a.eval x = .map (some m))
    (hK : ∀ w' cnt, RngS w' m w.heap.size n f (fun s => (f s).isSome) cnt → w.grownBy w' none → w'.heap.size = w.heap.size + 1 → wpList Tryz.prog ops Q rest (a.put o.dst (.pointer (some ⟨w.heap.size, 0, none⟩))) w') : wpList Tryz.prog ops Q (o :: rest) a w := by
  obtain ⟨D, h1, h2, h3⟩ := h
  exact wpList_range_own w hg x _ hop 9 _ lawS Tryz.underlying43 fileR m n D hm h1 (fun w' a1 a2 a3 => hK w' _ ⟨D, _, a1, h2, h3, fun s => (h2 s).symm, fun _ e => e⟩ a2 a3)
theorem fileR_ptr (v : Value) (y : DataW Unit × List MemPlace) (h : fileR v = some y) : ∃ c : Option Addr, v = .pointer c := by
  rcases fileR_inv (d := y.1) (ps := y.2) h with ⟨rfl, _⟩ | ⟨b, rfl, _⟩
  · exact ⟨_, rfl⟩
  · exact ⟨_, rfl⟩
/-- for s, x := range m: the step. -/
theorem next_files {ops : Array Oper} {rest : List Oper} {o : Oper} {a : Act} {Q : Exit → Act → World → Prop} (hg : o.guard = none) (it : Operand) (hop : o.op = Op.next it false)
    (hit : a.eval it = .pointer (some ⟨r, 0, none⟩)) (h : RngS w m r n f L cnt)
    (hDone : (∀ s, L s = false) → wpList Tryz.prog ops Q rest (a.put o.dst (.tuple #[.bool false])) w)
    (hMore : ∀ (s : ByteArray) (b : Nat) (w' : World) (cnt' : Nat), L s.data.toList = true → f s.data.toList = some b → RngS w' m r n f (fun t => L t && !(t == s.data.toList)) cnt' → cnt' < cnt → w.grownBy w' (some r) → w'.heap.size = w.heap.size →
      (Instr.entry (.pointer (some ⟨r, 0, none⟩))).run Tryz.prog w' = .ok (.tuple #[.string s, .pointer (some ⟨b, 0, none⟩)]) w' → wpList Tryz.prog ops Q rest (a.put o.dst (.tuple #[.bool true, .string s, .pointer (some ⟨b, 0, none⟩)])) w') :
    wpList Tryz.prog ops Q (o :: rest) a w := by
  obtain ⟨D, left, h1, h2, h3, h4, h5⟩ := h
  refine wpList_next_ranges w hg it hop 9 lawS fileR Value.string Value.pointer (fun key kl hk => by obtain ⟨s, hs, _⟩ := Go.WideMaps.string_of_keyOf Tryz.underlying9 hk; exact ⟨s, hs⟩) fileR_ptr m r n D left cnt hit h1 (fun _ hl => hDone (fun s => by rw [h4]; exact hl _)) ?_
  intro s c kl y w' cnt' hk hl hv hat hr hc hgr hz hen
  obtain ⟨s', e, rfl, hsz⟩ := Go.WideMaps.string_of_keyOf Tryz.underlying9 hk
  injection e with e
  subst e
  have hL : L s.data.toList = true := by rw [h4]; exact hl
  have hfs := h5 _ hL
  obtain ⟨b, hb⟩ := Option.isSome_iff_exists.1 hfs
  have hy := h3 _ b hb (.lit (.int .i64 0))
  rw [hat] at hy
  have hc2 : Value.pointer c = .pointer (some ⟨b, 0, none⟩) := fileR_at (ps := y.2) (by rw [hv, ← hy])
  injection hc2 with hc2
  subst hc2
  refine hMore s b w' cnt' hL hb ⟨D, _, hr, h2, h3, fun t => ?_, fun t ht => ?_⟩ hc hgr hz hen
  · dsimp only
    rw [h4 t]
    rfl
  · simp only [Bool.and_eq_true] at ht
    exact h5 t ht.1
end
/-- What the files that are still to come have of something. -/
def sumF (q : FlP → Nat) (fs : List (List UInt8 × FlP)) (L : List UInt8 → Bool) : Nat := ((fs.filter fun p => L p.1).map fun p => q p.2).sum
theorem sumF_all (q : FlP → Nat) (fs : List (List UInt8 × FlP)) (L : List UInt8 → Bool) (h : ∀ p ∈ fs, L p.1 = true) : sumF q fs L = (fs.map fun p => q p.2).sum := by
  unfold sumF; rw [List.filter_eq_self.2 h]
theorem sumF_none (q : FlP → Nat) (fs : List (List UInt8 × FlP)) (L : List UInt8 → Bool) (h : ∀ s, L s = false) : sumF q fs L = 0 := by
  unfold sumF; rw [List.filter_eq_nil_iff.2 (fun p _ => by simp [h])]; rfl
theorem sumF_le (q : FlP → Nat) (fs : List (List UInt8 × FlP)) (L : List UInt8 → Bool) : sumF q fs L ≤ (fs.map fun p => q p.2).sum := by
  unfold sumF
  induction fs with
  | nil => exact Nat.le_refl _
  | cons p r ih =>
    cases hL : L p.1 with
    | true => rw [List.filter_cons_of_pos (by simpa using hL)]; simp only [List.map_cons, List.sum_cons]; omega
    | false => rw [List.filter_cons_of_neg (by simp [hL])]; simp only [List.map_cons, List.sum_cons]; omega
theorem sumF_out (q : FlP → Nat) (fs : List (List UInt8 × FlP)) (L : List UInt8 → Bool) (n : List UInt8) (h : ∀ p ∈ fs, p.1 ≠ n) : sumF q fs (fun t => L t && !(t == n)) = sumF q fs L := by
  unfold sumF
  congr 2
  refine List.filter_congr fun p hp => ?_
  have : (p.1 == n) = false := by simpa using h p hp
  simp [this]
theorem sumF_strike (q : FlP → Nat) (L : List UInt8 → Bool) : ∀ (fs : List (List UInt8 × FlP)) (n : List UInt8) (x : FlP), fs.Pairwise (fun p q => p.1 ≠ q.1) → (n, x) ∈ fs → L n = true → sumF q fs L = sumF q fs (fun t => L t && !(t == n)) + q x
  | [], _, _, _, h, _ => by cases h
  | p :: r, n, x, hp, h, hL => by
    obtain ⟨h1, h2⟩ := List.pairwise_cons.1 hp
    rcases List.mem_cons.1 h with rfl | h'
    · have e := sumF_out q r L n (fun p hp => Ne.symm (h1 p hp))
      unfold sumF at e ⊢
      dsimp only at e ⊢
      rw [List.filter_cons_of_pos (by simpa using hL), List.filter_cons_of_neg (by simp)]
      simp only [List.map_cons, List.sum_cons]
      omega
    · have hne : p.1 ≠ n := h1 _ h'
      have e := sumF_strike q L r n x h2 h' hL
      have e2 : (p.1 == n) = false := by simpa using hne
      unfold sumF at e ⊢
      dsimp only at e ⊢
      cases hLp : L p.1 with
      | true =>
        rw [List.filter_cons_of_pos (by simpa using hLp), List.filter_cons_of_pos (by simp [hLp, e2])]
        simp only [List.map_cons, List.sum_cons]
        omega
      | false =>
        rw [List.filter_cons_of_neg (by simp [hLp]), List.filter_cons_of_neg (by simp [hLp])]
        exact e
theorem lt_ne {a b : List UInt8} (h : a < b) : a ≠ b := by rintro rfl; exact List.lt_irrefl a h
theorem FsP.WF.apart {S : FsP} (h : S.WF) : S.fs.Pairwise (fun p q => p.1 ≠ q.1) := h.order.imp (fun h => lt_ne h)
theorem room_nil (w : World) : Calls Tryz.prog 29 #[.pointer none] w fun e w' => e = .returned (.int .i64 0) ∧ w' = w := by
  go_enter Tryz.func29, Tryz.ntmps29
  go_wp2
  go_ret
  exact ⟨rfl, by first | rfl | trivial⟩
set_option maxHeartbeats 4000000 in
set_option maxRecDepth 100000 in
theorem room_any (f m : Nat) (bl gl : List UInt8 → Nat) (sv : List UInt8 → Value) (S : FsP) (w : World) (h : FsM w f m bl gl sv S) :
    Calls Tryz.prog 29 #[.pointer (some ⟨f, 0, none⟩)] w fun e w' => e = .returned (.int .i64 (if S.down then 0 else ((S.most - useP S.fs : Nat) : Int))) ∧ Below w.heap.size w w' := by
  have c0 : w.cell? ⟨f, 0, none⟩ = some (.int .i64 (S.most : Int)) := h.hd.cell 0
  have c3 : w.cell? ⟨f, 3, none⟩ = some (.bool S.down) := h.hd.cell 3
  have c4 : w.cell? ⟨f, 4, none⟩ = some (.map (some m)) := h.hd.cell 4
  have H := Lib.hid h
  clear h
  cases hd : S.down with
  | true =>
    rw [hd] at c3
    clear hd
    go_enter Tryz.func29, Tryz.ntmps29
    go_wp2
    go_ret
    exact ⟨rfl, Below.refl _ _⟩
  | false =>
    rw [hd] at c3
    clear hd
    go_enter Tryz.func29, Tryz.ntmps29
    go_wp2_with ((at_range; refine range_files rfl _ rfl H.out.mp (by kernel_rfl) ?_; intro w0 cnt0 hrg0 hg0 hs0; replace hrg0 := Lib.hid hrg0; replace hg0 := Lib.hid hg0; replace hs0 := Lib.hid hs0))
    go_frame
    go_loopw [3] (fun s3 wr => ∃ (L : List UInt8 → Bool) (cnt v : Nat), s3 = .int .i64 (v : Int) ∧ Hid (RngS wr m w.heap.size S.stamp (fun n => (findP S n).map fun _ => bl n) L cnt ∧ v + useP S.fs = S.most + sumF (fun x => x.W.length) S.fs L ∧ Below w.heap.size w wr)) (fun _ wr => wr.rangeLeft m w.heap.size)
    case atStart =>
      refine ⟨_, _, S.most, rfl, Lib.hid ⟨hrg0.out, ?_, ⟨hg0.out.os, hg0.out.tape, hg0.out.output, hg0.out.size, fun k hk => hg0.out.block k hk (by simp)⟩⟩⟩
      rw [sumF_all _ _ _ (fun p hp => by rw [find_mem H.out.wf hp]; rfl)]
      rfl
    case round =>
      obtain ⟨L, cnt, v, rfl, HR⟩ := hrel
      have hwr := HR.out.2.2.size
      go_wp2_with ((at_next; refine next_files rfl _ rfl (by kernel_rfl) HR.out.1 ?_ ?_))
      · intro hl
        have hs := sumF_none (fun x => x.W.length) S.fs L hl
        have HS := Lib.hid hs
        clear hl hs
        try go_frame
        go_wp2_with fail
        go_ret
        refine ⟨?_, HR.out.2.2⟩
        have e1 := HR.out.2.1
        rw [HS.out] at e1
        have e2 := H.out.wf.room
        have e3 : (v : Int) = ((S.most - useP S.fs : Nat) : Int) := by omega
        show Ending.returned (Value.int .i64 (v : Int)) = _
        rw [e3]
      · intro s b w1 cnt1 hL x hx hb hr hc hg hz hen
        have hB1 : Below w.heap.size w w1 := HR.out.2.2.grown hg hwr (fun k hk => by injection hk with hk; omega)
        have hfl := (H.out.heap (W' := w1) (fun i hi => hB1.block i (H.out.lt i hi))).fl _ x hx
        rw [hb] at hfl
        obtain ⟨A, c, hsv, _, _⟩ := hfl.sl.form
        rw [hsv] at hfl
        have d0 : w1.cell? ⟨b, 0, none⟩ = some (.slice A x.W.length c) := hfl.hd.cell 0
        have hst := sumF_strike (fun x => x.W.length) L S.fs s.data.toList x H.out.wf.apart (lookup_mem hx) hL
        obtain ⟨V, hV⟩ : ∃ V, V = v - x.W.length := ⟨_, rfl⟩
        have hv : v + useP S.fs = S.most + sumF (fun x => x.W.length) S.fs L := HR.out.2.1
        have hrm := H.out.wf.room
        have hm2 := H.out.wf.most2
        have hsu := sumF_le (fun x => x.W.length) S.fs L
        have e1 : (v : Int) - (x.W.length : Int) = (V : Int) := by omega
        have hVB : V < 100000 := by unfold useP at hv; omega
        have HH := Lib.hid (And.intro hr (And.intro hc (And.intro hB1 (show V + useP S.fs = S.most + sumF (fun x => x.W.length) S.fs (fun t => L t && !(t == s.data.toList)) from by omega))))
        clear hr hc hg hz hB1 hfl hst hV hv hrm hm2 hsu hsv hx hb hL
        try go_frame
        go_wp2_with fail
        go_roundw
        case rel => exact ⟨_, cnt1, V, rfl, Lib.hid ⟨HH.out.1, HH.out.2.2.2, HH.out.2.2.1⟩⟩
        case measure => rw [HH.out.1.left, HR.out.1.left]; exact HH.out.2.1
end Go.Proofs.YtknjopefbbldfaaGreatDoor
