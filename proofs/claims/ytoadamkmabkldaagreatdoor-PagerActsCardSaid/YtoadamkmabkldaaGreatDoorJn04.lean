/- Contracts of package vfs: Room. -/
import Derived.Test.YtoadamkmabkldaaGreatDoorJn03
import Derived.Shelf.SlGeneric
import Derived.Shelf.Strings.Prefix
import Derived.Shelf.Strings.SlTrimAscii
import Derived.Shelf.SlicesE.DeleteFunc
import Derived.Shelf.SlIter.Nil
import Derived.Shelf.SortM.Plain
import Derived.Shelf.SortM.SortNone
import Derived.Ground.GgzProg
import Derived.Shelf.SlIterI.Nil
import Derived.Shelf.SlicesE.Clone
import Derived.Ground.SlgnProg
import Derived.Ground.SlgmProg
import Derived.Ground.SlgfProg
import Derived.Test.YtoadamkmabkldaaGreatDoorProg
set_option linter.unusedVariables false
set_option linter.unusedSimpArgs false
namespace Go.Proofs.YtoadamkmabkldaaGreatDoor
open Go.RowKit
attribute [local go_sem ↓] Go.wp_at_zero Go.wp_at_succ

/-- A range over the files under way: L says which are still to come. -/
def RngS (W : World) (m r n : Nat) (f : List UInt8 → Option Nat) (L : List UInt8 → Bool) (cnt : Nat) : Prop :=
  ∃ (D : DataW Unit) (left : Lit → Bool), W.ranges Tryz.prog 9 fileR m r n D left cnt ∧ (∀ s, Maps.has D (.string s) = (f s).isSome) ∧ (∀ s v, f s = some v → ∀ z, D.atKey (.string s) z = .lit (.int .i64 (v : Int))) ∧ (∀ s, L s = left (.string s)) ∧ ∀ s, L s = true → (f s).isSome = true
section
variable {w w' : World} {m r n cnt : Nat} {f : List UInt8 → Option Nat} {L : List UInt8 → Bool}
theorem RngS.kept {row : Option Nat} (h : RngS w m r n f L cnt) (hg : w.grownBy w' row) (h1 : some m ≠ row) (h2 : some r ≠ row) : RngS w' m r n f L cnt := by
  obtain ⟨D, left, a, b⟩ := h; exact ⟨D, left, a.kept hg h1 h2, b⟩
theorem RngS.below {B : Nat} (h : RngS w m r n f L cnt) (hb : Below B w w') (hB : w.heap.size ≤ B) : RngS w' m r n f L cnt := h.kept (row := none) ⟨hb.os, hb.tape, hb.output, hb.size, fun k hk _ => hb.block k (by omega)⟩ (by simp) (by simp)
theorem RngS.lt (h : RngS w m r n f L cnt) : r < w.heap.size := by obtain ⟨D, left, a, _⟩ := h; exact a.lt
theorem RngS.left (h : RngS w m r n f L cnt) : w.rangeLeft m r = cnt := by obtain ⟨D, left, a, _⟩ := h; exact a.left_eq
/-- range m -/
theorem range_files {ops : Array Oper} {rest : List Oper} {o : Oper} {a : Act} {Q : Exit → Act → World → Prop} (hg : o.guard = none) (x : Operand) (hop : o.op = Op.range 59 x)
    (h : MapS w m n f) (hm : a.eval x = .map (some m))
    (hK : ∀ w' cnt, RngS w' m w.heap.size n f (fun s => (f s).isSome) cnt → w.grownBy w' none → w'.heap.size = w.heap.size + 1 → wpList Tryz.prog ops Q rest (a.put o.dst (.pointer (some ⟨w.heap.size, 0, none⟩))) w') : wpList Tryz.prog ops Q (o :: rest) a w := by
  obtain ⟨D, h1, h2, h3⟩ := h
  exact wpList_range_own w hg x _ hop 9 _ lawS Tryz.underlying59 fileR m n D hm h1 (fun w' a1 a2 a3 => hK w' _ ⟨D, _, a1, h2, h3, fun s => (h2 s).symm, fun _ e => e⟩ a2 a3)
theorem fileR_ptr (v : Value) (y : DataW Unit × List MemPlace) (h : fileR v = some y) : ∃ c : Option Addr, v = .pointer c := by
  rcases fileR_inv (d := y.1) (ps := y.2) h with ⟨rfl, _⟩ | ⟨b, rfl, _⟩
  · exact ⟨_, rfl⟩
  · exact ⟨_, rfl⟩
/-- for s, x := range m: the step. -/
theorem next_files {ops : Array Oper} {rest : List Oper} {o : Oper} {a : Act} {Q : Exit → Act → World → Prop} (hg : o.guard = none) (it : Operand) (hop : o.op = Op.next it false)
    (hit : a.eval it = .pointer (some ⟨r, 0, none⟩)) (h : RngS w m r n f L cnt)
    (hDone : (∀ s, L s = false) → wpList Tryz.prog ops Q rest (a.put o.dst (.tuple #[.bool false])) w)
    (hMore : ∀ (s : ByteArray) (b : Nat) (w' : World) (cnt' : Nat), L s.data.toList = true → f s.data.toList = some b → RngS w' m r n f (fun t => L t && !(t == s.data.toList)) cnt' → cnt' < cnt → w.grownBy w' (some r) → w'.heap.size = w.heap.size →
      (Instr.entry (.pointer (some ⟨r, 0, none⟩))).run Tryz.prog w' = .ok (.tuple #[.string s, .pointer (some ⟨b, 0, none⟩)]) w' → wpList Tryz.prog ops Q rest (a.put o.dst (.tuple #[.bool true, .string s, .pointer (some ⟨b, 0, none⟩)])) w') :
    wpList Tryz.prog ops Q (o :: rest) a w := by
  obtain ⟨D, left, h1, h2, h3, h4, h5⟩ := h
  refine wpList_next_ranges w hg it hop 9 lawS fileR Value.string Value.pointer (fun key kl hk => by obtain ⟨s, hs, _⟩ := Go.WideMaps.string_of_keyOf Tryz.underlying9 hk; exact ⟨s, hs⟩) fileR_ptr m r n D left cnt hit h1 (fun _ hl => hDone (fun s => by rw [h4]; exact hl _)) ?_
  intro s c kl y w' cnt' hk hl hv hat hr hc hgr hz hen
  obtain ⟨s', e, rfl, hsz⟩ := Go.WideMaps.string_of_keyOf Tryz.underlying9 hk
  injection e with e
  subst e
  have hL : L s.data.toList = true := by rw [h4]; exact hl
  have hfs := h5 _ hL
  obtain ⟨b, hb⟩ := Option.isSome_iff_exists.1 hfs
  have hy := h3 _ b hb (.lit (.int .i64 0))
  rw [hat] at hy
  have hc2 : Value.pointer c = .pointer (some ⟨b, 0, none⟩) := fileR_at (ps := y.2) (by rw [hv, ← hy])
  injection hc2 with hc2
  subst hc2
  refine hMore s b w' cnt' hL hb ⟨D, _, hr, h2, h3, fun t => ?_, fun t ht => ?_⟩ hc hgr hz hen
  · dsimp only
    rw [h4 t]
    rfl
  · simp only [Bool.and_eq_true] at ht
    exact h5 t ht.1
end
/-- What the files that are still to come have of something. -/
def sumF (q : FlP → Nat) (fs : List (List UInt8 × FlP)) (L : List UInt8 → Bool) : Nat := ((fs.filter fun p => L p.1).map fun p => q p.2).sum
theorem sumF_all (q : FlP → Nat) (fs : List (List UInt8 × FlP)) (L : List UInt8 → Bool) (h : ∀ p ∈ fs, L p.1 = true) : sumF q fs L = (fs.map fun p => q p.2).sum := by
  unfold sumF; rw [List.filter_eq_self.2 h]
theorem sumF_none (q : FlP → Nat) (fs : List (List UInt8 × FlP)) (L : List UInt8 → Bool) (h : ∀ s, L s = false) : sumF q fs L = 0 := by
  unfold sumF; rw [List.filter_eq_nil_iff.2 (fun p _ => by simp [h])]; rfl
theorem sumF_le (q : FlP → Nat) (fs : List (List UInt8 × FlP)) (L : List UInt8 → Bool) : sumF q fs L ≤ (fs.map fun p => q p.2).sum := by
  unfold sumF
  induction fs with
  | nil => exact Nat.le_refl _
  | cons p r ih =>
    cases hL : L p.1 with
    | true => rw [List.filter_cons_of_pos (by simpa using hL)]; simp only [List.map_cons, List.sum_cons]; omega
    | false => rw [List.filter_cons_of_neg (by simp [hL])]; simp only [List.map_cons, List.sum_cons]; omega
theorem sumF_out (q : FlP → Nat) (fs : List (List UInt8 × FlP)) (L : List UInt8 → Bool) (n : List UInt8) (h : ∀ p ∈ fs, p.1 ≠ n) : sumF q fs (fun t => L t && !(t == n)) = sumF q fs L := by
  unfold sumF
  congr 2
  refine List.filter_congr fun p hp => ?_
  have : (p.1 == n) = false := by simpa using h p hp
  simp [this]
theorem sumF_strike (q : FlP → Nat) (L : List UInt8 → Bool) : ∀ (fs : List (List UInt8 × FlP)) (n : List UInt8) (x : FlP), fs.Pairwise (fun p q => p.1 ≠ q.1) → (n, x) ∈ fs → L n = true → sumF q fs L = sumF q fs (fun t => L t && !(t == n)) + q x
  | [], _, _, _, h, _ => by cases h
  | p :: r, n, x, hp, h, hL => by
    obtain ⟨h1, h2⟩ := List.pairwise_cons.1 hp
    rcases List.mem_cons.1 h with rfl | h'
    · have e := sumF_out q r L n (fun p hp => Ne.symm (h1 p hp))
      unfold sumF at e ⊢
      dsimp only at e ⊢
      rw [List.filter_cons_of_pos (by simpa using hL), List.filter_cons_of_neg (by simp)]
      simp only [List.map_cons, List.sum_cons]
      omega
    · have hne : p.1 ≠ n := h1 _ h'
      have e := sumF_strike q L r n x h2 h' hL
      have e2 : (p.1 == n) = false := by simpa using hne
      unfold sumF at e ⊢
      dsimp only at e ⊢
      cases hLp : L p.1 with
      | true =>
        rw [List.filter_cons_of_pos (by simpa using hLp), List.filter_cons_of_pos (by simp [hLp, e2])]
        simp only [List.map_cons, List.sum_cons]
        omega
      | false =>
        rw [List.filter_cons_of_neg (by simp [hLp]), List.filter_cons_of_neg (by simp [hLp])]
        exact e
theorem lt_ne {a b : List UInt8} (h : a < b) : a ≠ b := by rintro rfl; exact List.lt_irrefl a h
theorem FsP.WF.apart {S : FsP} (h : S.WF) : S.fs.Pairwise (fun p q => p.1 ≠ q.1) := h.order.imp (fun h => lt_ne h)
theorem room_nil (w : World) : Calls Tryz.prog 71 #[.pointer none] w fun e w' => e = .returned (.int .i64 0) ∧ w' = w := by
  go_enter Tryz.func71, Tryz.ntmps71
  go_wp2
  go_ret
  exact ⟨rfl, by first | rfl | trivial⟩
set_option maxHeartbeats 4000000 in
set_option maxRecDepth 100000 in
theorem room_any (f m : Nat) (bl gl : List UInt8 → Nat) (sv : List UInt8 → Value) (S : FsP) (w : World) (h : FsM w f m bl gl sv S) :
    Calls Tryz.prog 71 #[.pointer (some ⟨f, 0, none⟩)] w fun e w' => e = .returned (.int .i64 (if S.down then 0 else ((S.most - useP S.fs : Nat) : Int))) ∧ Below w.heap.size w w' := by
  have c0 : w.cell? ⟨f, 0, none⟩ = some (.int .i64 (S.most : Int)) := h.hd.cell 0
  have c3 : w.cell? ⟨f, 3, none⟩ = some (.bool S.down) := h.hd.cell 3
  have c4 : w.cell? ⟨f, 4, none⟩ = some (.map (some m)) := h.hd.cell 4
  have H := Lib.hid h
  clear h
  cases hd : S.down with
  | true =>
    rw [hd] at c3
    clear hd
    go_enter Tryz.func71, Tryz.ntmps71
    go_wp2
    go_ret
    exact ⟨rfl, Below.refl _ _⟩
  | false =>
    rw [hd] at c3
    clear hd
    go_enter Tryz.func71, Tryz.ntmps71
    go_wp2_with ((at_range; refine range_files rfl _ rfl H.out.mp (by kernel_rfl) ?_; intro w0 cnt0 hrg0 hg0 hs0; replace hrg0 := Lib.hid hrg0; replace hg0 := Lib.hid hg0; replace hs0 := Lib.hid hs0))
    go_frame
    go_loopw [3] (fun s3 wr => ∃ (L : List UInt8 → Bool) (cnt v : Nat), s3 = .int .i64 (v : Int) ∧ Hid (RngS wr m w.heap.size S.stamp (fun n => (findP S n).map fun _ => bl n) L cnt ∧ v + useP S.fs = S.most + sumF (fun x => x.W.length) S.fs L ∧ Below w.heap.size w wr)) (fun _ wr => wr.rangeLeft m w.heap.size)
    case atStart =>
      refine ⟨_, _, S.most, rfl, Lib.hid ⟨hrg0.out, ?_, ⟨hg0.out.os, hg0.out.tape, hg0.out.output, hg0.out.size, fun k hk => hg0.out.block k hk (by simp)⟩⟩⟩
      rw [sumF_all _ _ _ (fun p hp => by rw [find_mem H.out.wf hp]; rfl)]
      rfl
    case round =>
      obtain ⟨L, cnt, v, rfl, HR⟩ := hrel
      have hwr := HR.out.2.2.size
      go_wp2_with ((at_next; refine next_files rfl _ rfl (by kernel_rfl) HR.out.1 ?_ ?_))
      · intro hl
        have hs := sumF_none (fun x => x.W.length) S.fs L hl
        have HS := Lib.hid hs
        clear hl hs
        try go_frame
        go_wp2_with fail
        go_ret
        refine ⟨?_, HR.out.2.2⟩
        have e1 := HR.out.2.1
        rw [HS.out] at e1
        have e2 := H.out.wf.room
        have e3 : (v : Int) = ((S.most - useP S.fs : Nat) : Int) := by omega
        show Ending.returned (Value.int .i64 (v : Int)) = _
        rw [e3]
      · intro s b w1 cnt1 hL x hx hb hr hc hg hz hen
        have hB1 : Below w.heap.size w w1 := HR.out.2.2.grown hg hwr (fun k hk => by injection hk with hk; omega)
        have hfl := (H.out.heap (W' := w1) (fun i hi => hB1.block i (H.out.lt i hi))).fl _ x hx
        rw [hb] at hfl
        obtain ⟨A, c, hsv, _, _⟩ := hfl.sl.form
        rw [hsv] at hfl
        have d0 : w1.cell? ⟨b, 0, none⟩ = some (.slice A x.W.length c) := hfl.hd.cell 0
        have hst := sumF_strike (fun x => x.W.length) L S.fs s.data.toList x H.out.wf.apart (lookup_mem hx) hL
        obtain ⟨V, hV⟩ : ∃ V, V = v - x.W.length := ⟨_, rfl⟩
        have hv : v + useP S.fs = S.most + sumF (fun x => x.W.length) S.fs L := HR.out.2.1
        have hrm := H.out.wf.room
        have hm2 := H.out.wf.most2
        have hsu := sumF_le (fun x => x.W.length) S.fs L
        have e1 : (v : Int) - (x.W.length : Int) = (V : Int) := by omega
        have hVB : V < 100000 := by unfold useP at hv; omega
        have HH := Lib.hid (And.intro hr (And.intro hc (And.intro hB1 (show V + useP S.fs = S.most + sumF (fun x => x.W.length) S.fs (fun t => L t && !(t == s.data.toList)) from by omega))))
        clear hr hc hg hz hB1 hfl hst hV hv hrm hm2 hsu hsv hx hb hL
        try go_frame
        go_wp2_with fail
        go_roundw
        case rel => exact ⟨_, cnt1, V, rfl, Lib.hid ⟨HH.out.1, HH.out.2.2.2, HH.out.2.2.1⟩⟩
        case measure => rw [HH.out.1.left, HR.out.1.left]; exact HH.out.2.1
end Go.Proofs.YtoadamkmabkldaaGreatDoor
/- The library's contracts that package vfs leans on, laid at this seat (written by the kit's lay-plain.mjs). -/
namespace Go.Proofs
open Go.Shelf
def Tryz.trimL_ren : Go.Shelf.Ren := ⟨fun | 160 => 104 | 232 => 115 | 231 => 114 | 227 => 116 | 234 => 118 | 233 => 117 | 236 => 120 | 235 => 119 | 228 => 135 | 271 => 138 | 151 => 137 | 197 => 136 | 120 => 156 | 152 => 155 | 260 => 154 | 137 => 162 | 119 => 163 | 224 => 164 | 225 => 165 | 217 => 167 | 266 => 168 | n => n, fun | 9 => 9 | 4 => 4 | 3 => 3 | 5 => 5 | 117 => 146 | 116 => 145 | 0 => 0 | 124 => 149 | 21 => 21 | 105 => 168 | 46 => 106 | 119 => 188 | 139 => 191 | 138 => 190 | n => n, fun | 3 => 0 | 4 => 1 | n => n⟩
theorem Tryz.trimL : Go.Proofs.Lays.n160 Tryz.prog Tryz.trimL_ren := {
  mixed := by kernel_rfl
  f119 := Tryz.func163.trans (congrArg some (by kernel_rfl))
  f120 := Tryz.func156.trans (congrArg some (by kernel_rfl))
  f137 := Tryz.func162.trans (congrArg some (by kernel_rfl))
  f151 := Tryz.func137.trans (congrArg some (by kernel_rfl))
  f152 := Tryz.func155.trans (congrArg some (by kernel_rfl))
  f160 := Tryz.func104.trans (congrArg some (by kernel_rfl))
  f197 := Tryz.func136.trans (congrArg some (by kernel_rfl))
  f217 := Tryz.func167.trans (congrArg some (by kernel_rfl))
  f224 := Tryz.func164.trans (congrArg some (by kernel_rfl))
  f225 := Tryz.func165.trans (congrArg some (by kernel_rfl))
  f227 := Tryz.func116.trans (congrArg some (by kernel_rfl))
  f228 := Tryz.func135.trans (congrArg some (by kernel_rfl))
  f231 := Tryz.func114.trans (congrArg some (by kernel_rfl))
  f232 := Tryz.func115.trans (congrArg some (by kernel_rfl))
  f233 := Tryz.func117.trans (congrArg some (by kernel_rfl))
  f234 := Tryz.func118.trans (congrArg some (by kernel_rfl))
  f235 := Tryz.func119.trans (congrArg some (by kernel_rfl))
  f236 := Tryz.func120.trans (congrArg some (by kernel_rfl))
  f260 := Tryz.func154.trans (congrArg some (by kernel_rfl))
  f266 := Tryz.func168.trans (congrArg some (by kernel_rfl))
  f271 := Tryz.func138.trans (congrArg some (by kernel_rfl))
  t0 := Tryz.underlying0
  a0 := Tryz.isAgg0
  z0 := Tryz.sizeOf0
  v0 := Tryz.zeroValue0
  t3 := Tryz.underlying3
  a3 := Tryz.isAgg3
  z3 := Tryz.sizeOf3
  v3 := Tryz.zeroValue3
  t4 := Tryz.underlying4
  a4 := Tryz.isAgg4
  z4 := Tryz.sizeOf4
  v4 := Tryz.zeroValue4
  t5 := Tryz.underlying5
  a5 := Tryz.isAgg5
  z5 := Tryz.sizeOf5
  v5 := Tryz.zeroValue5
  t9 := Tryz.underlying9
  a9 := Tryz.isAgg9
  z9 := Tryz.sizeOf9
  v9 := Tryz.zeroValue9
  t21 := Tryz.underlying21
  a21 := Tryz.isAgg21
  z21 := Tryz.sizeOf21
  v21 := Tryz.zeroValue21
  t46 := Tryz.underlying106
  a46 := Tryz.isAgg106
  z46 := Tryz.sizeOf106
  v46 := Tryz.zeroValue106
  t105 := Tryz.underlying168
  a105 := Tryz.isAgg168
  z105 := Tryz.sizeOf168
  v105 := Tryz.zeroValue168
  t116 := Tryz.underlying145
  a116 := Tryz.isAgg145
  z116 := Tryz.sizeOf145
  t117 := Tryz.underlying146
  a117 := Tryz.isAgg146
  z117 := Tryz.sizeOf146
  v117 := Tryz.zeroValue146
  t119 := Tryz.underlying188
  a119 := Tryz.isAgg188
  z119 := Tryz.sizeOf188
  t124 := Tryz.underlying149
  a124 := Tryz.isAgg149
  z124 := Tryz.sizeOf149
  v124 := Tryz.zeroValue149
  t138 := Tryz.underlying190
  a138 := Tryz.isAgg190
  z138 := Tryz.sizeOf190
  v138 := Tryz.zeroValue190
  t139 := Tryz.underlying191
  a139 := Tryz.isAgg191
  z139 := Tryz.sizeOf191
  v139 := Tryz.zeroValue191
  g3 := by kernel_rfl
  g4 := by kernel_rfl }
def Tryz.keysV_ren : Go.Shelf.Ren := ⟨fun | 7 => 84 | 10 => 103 | n => n, fun | 23 => 59 | 26 => 9 | 3 => 88 | 28 => 114 | 0 => 0 | 27 => 113 | 33 => 50 | 4 => 4 | n => n, fun | n => n⟩
theorem Tryz.keysV : Go.Proofs.SlLaysZ.n7 Tryz.prog Tryz.keysV_ren := {
  mixed := by kernel_rfl
  f7 := ⟨Tryz.f84.name, by decide, Tryz.func84.trans (congrArg some (by kernel_rfl))⟩
  f10 := ⟨Tryz.f103.name, by decide, Tryz.func103.trans (congrArg some (by kernel_rfl))⟩
  t0 := Tryz.underlying0
  a0 := Tryz.isAgg0
  z0 := Tryz.sizeOf0
  v0 := Tryz.zeroValue0
  t4 := Tryz.underlying4
  a4 := Tryz.isAgg4
  z4 := Tryz.sizeOf4
  v4 := Tryz.zeroValue4
  t23 := Tryz.underlying59
  a23 := Tryz.isAgg59
  z23 := Tryz.sizeOf59
  v23 := Tryz.zeroValue59
  t26 := Tryz.underlying9
  a26 := Tryz.isAgg9
  z26 := Tryz.sizeOf9
  v26 := Tryz.zeroValue9
  t27 := Tryz.underlying113
  a27 := Tryz.isAgg113
  z27 := Tryz.sizeOf113
  v27 := Tryz.zeroValue113
  t28 := Tryz.underlying114
  a28 := Tryz.isAgg114
  z28 := Tryz.sizeOf114
  v28 := Tryz.zeroValue114
  t33 := Tryz.underlying50
  a33 := Tryz.isAgg50
  z33 := Tryz.sizeOf50
  v33 := Tryz.zeroValue50 }
def Tryz.sortedV_ren : Go.Shelf.Ren := ⟨fun | 6 => 83 | 8 => 101 | 9 => 102 | 11 => 111 | 13 => 113 | 12 => 112 | 23 => 133 | 24 => 134 | 14 => 124 | 15 => 125 | 16 => 126 | 17 => 127 | 18 => 128 | 19 => 129 | 20 => 130 | 21 => 131 | 22 => 132 | 25 => 148 | 26 => 149 | 27 => 150 | 28 => 151 | 29 => 152 | 30 => 153 | 31 => 161 | n => n, fun | 26 => 9 | 28 => 114 | 24 => 83 | 0 => 0 | 3 => 3 | 37 => 106 | 48 => 119 | 50 => 52 | 4 => 4 | 40 => 159 | 39 => 158 | 45 => 93 | 5 => 5 | 9 => 9 | 51 => 176 | 55 => 180 | 57 => 185 | 58 => 186 | 33 => 50 | n => n, fun | n => n⟩
theorem Tryz.sortedV : Go.Proofs.SlLaysZ.n6 Tryz.prog Tryz.sortedV_ren := {
  mixed := by kernel_rfl
  f6 := ⟨Tryz.f83.name, by decide, Tryz.func83.trans (congrArg some (by kernel_rfl))⟩
  f8 := ⟨Tryz.f101.name, by decide, Tryz.func101.trans (congrArg some (by kernel_rfl))⟩
  f11 := ⟨Tryz.f111.name, by decide, Tryz.func111.trans (congrArg some (by kernel_rfl))⟩
  t0 := Tryz.underlying0
  a0 := Tryz.isAgg0
  z0 := Tryz.sizeOf0
  v0 := Tryz.zeroValue0
  t24 := Tryz.underlying83
  a24 := Tryz.isAgg83
  z24 := Tryz.sizeOf83
  v24 := Tryz.zeroValue83
  t26 := Tryz.underlying9
  a26 := Tryz.isAgg9
  z26 := Tryz.sizeOf9
  v26 := Tryz.zeroValue9
  t28 := Tryz.underlying114
  a28 := Tryz.isAgg114
  z28 := Tryz.sizeOf114
  v28 := Tryz.zeroValue114
  i26 := by kernel_rfl }
def Tryz.sortV_ren : Go.Shelf.Ren := ⟨fun | 6 => 102 | 8 => 113 | 9 => 112 | 19 => 133 | 20 => 134 | 21 => 124 | 22 => 125 | 23 => 126 | 24 => 127 | 25 => 128 | 26 => 129 | 27 => 130 | 28 => 131 | 29 => 132 | 36 => 148 | 31 => 149 | 32 => 150 | 37 => 151 | 38 => 152 | 39 => 153 | 41 => 161 | n => n, fun | 27 => 83 | 29 => 9 | 3 => 3 | 32 => 106 | 26 => 83 | 0 => 0 | 44 => 119 | 46 => 52 | 4 => 4 | 36 => 159 | 35 => 158 | 41 => 93 | 5 => 5 | 9 => 9 | 53 => 176 | 57 => 180 | 63 => 185 | 64 => 186 | n => n, fun | n => n⟩
theorem Tryz.sortV : Go.Proofs.SlLaysM.n6 Tryz.prog Tryz.sortV_ren := {
  mixed := by kernel_rfl
  f6 := ⟨Tryz.f102.name, by decide, Tryz.func102.trans (congrArg some (by kernel_rfl))⟩
  f8 := Tryz.func113.trans (congrArg some (by kernel_rfl))
  f9 := ⟨Tryz.f112.name, by decide, Tryz.func112.trans (congrArg some (by kernel_rfl))⟩
  f19 := Tryz.func133.trans (congrArg some (by kernel_rfl))
  f20 := Tryz.func134.trans (congrArg some (by kernel_rfl))
  f21 := ⟨Tryz.f124.name, by decide, Tryz.func124.trans (congrArg some (by kernel_rfl))⟩
  f22 := ⟨Tryz.f125.name, by decide, Tryz.func125.trans (congrArg some (by kernel_rfl))⟩
  f23 := ⟨Tryz.f126.name, by decide, Tryz.func126.trans (congrArg some (by kernel_rfl))⟩
  f24 := ⟨Tryz.f127.name, by decide, Tryz.func127.trans (congrArg some (by kernel_rfl))⟩
  f25 := ⟨Tryz.f128.name, by decide, Tryz.func128.trans (congrArg some (by kernel_rfl))⟩
  f26 := ⟨Tryz.f129.name, by decide, Tryz.func129.trans (congrArg some (by kernel_rfl))⟩
  f27 := ⟨Tryz.f130.name, by decide, Tryz.func130.trans (congrArg some (by kernel_rfl))⟩
  f28 := ⟨Tryz.f131.name, by decide, Tryz.func131.trans (congrArg some (by kernel_rfl))⟩
  f29 := ⟨Tryz.f132.name, by decide, Tryz.func132.trans (congrArg some (by kernel_rfl))⟩
  f31 := Tryz.func149.trans (congrArg some (by kernel_rfl))
  f32 := Tryz.func150.trans (congrArg some (by kernel_rfl))
  f36 := ⟨Tryz.f148.name, by decide, Tryz.func148.trans (congrArg some (by kernel_rfl))⟩
  f37 := ⟨Tryz.f151.name, by decide, Tryz.func151.trans (congrArg some (by kernel_rfl))⟩
  f38 := ⟨Tryz.f152.name, by decide, Tryz.func152.trans (congrArg some (by kernel_rfl))⟩
  f39 := ⟨Tryz.f153.name, by decide, Tryz.func153.trans (congrArg some (by kernel_rfl))⟩
  f41 := ⟨Tryz.f161.name, by decide, Tryz.func161.trans (congrArg some (by kernel_rfl))⟩
  t0 := Tryz.underlying0
  a0 := Tryz.isAgg0
  z0 := Tryz.sizeOf0
  v0 := Tryz.zeroValue0
  t3 := Tryz.underlying3
  a3 := Tryz.isAgg3
  z3 := Tryz.sizeOf3
  v3 := Tryz.zeroValue3
  t4 := Tryz.underlying4
  a4 := Tryz.isAgg4
  z4 := Tryz.sizeOf4
  v4 := Tryz.zeroValue4
  t5 := Tryz.underlying5
  a5 := Tryz.isAgg5
  z5 := Tryz.sizeOf5
  v5 := Tryz.zeroValue5
  t9 := Tryz.underlying9
  a9 := Tryz.isAgg9
  z9 := Tryz.sizeOf9
  v9 := Tryz.zeroValue9
  t26 := Tryz.underlying83
  a26 := Tryz.isAgg83
  z26 := Tryz.sizeOf83
  v26 := Tryz.zeroValue83
  t27 := Tryz.underlying83
  a27 := Tryz.isAgg83
  z27 := Tryz.sizeOf83
  v27 := Tryz.zeroValue83
  t29 := Tryz.underlying9
  a29 := Tryz.isAgg9
  z29 := Tryz.sizeOf9
  v29 := Tryz.zeroValue9
  t32 := Tryz.underlying106
  a32 := Tryz.isAgg106
  z32 := Tryz.sizeOf106
  v32 := Tryz.zeroValue106
  t35 := Tryz.underlying158
  a35 := Tryz.isAgg158
  z35 := Tryz.sizeOf158
  v35 := Tryz.zeroValue158
  t36 := Tryz.underlying159
  a36 := Tryz.isAgg159
  z36 := Tryz.sizeOf159
  v36 := Tryz.zeroValue159
  t41 := Tryz.underlying93
  a41 := Tryz.isAgg93
  z41 := Tryz.sizeOf93
  v41 := Tryz.zeroValue93
  t44 := Tryz.underlying119
  a44 := Tryz.isAgg119
  z44 := Tryz.sizeOf119
  v44 := Tryz.zeroValue119
  t46 := Tryz.underlying52
  a46 := Tryz.isAgg52
  z46 := Tryz.sizeOf52
  v46 := Tryz.zeroValue52
  t53 := Tryz.underlying176
  a53 := Tryz.isAgg176
  z53 := Tryz.sizeOf176
  v53 := Tryz.zeroValue176
  t57 := Tryz.underlying180
  a57 := Tryz.isAgg180
  z57 := Tryz.sizeOf180
  v57 := Tryz.zeroValue180
  t63 := Tryz.underlying185
  a63 := Tryz.isAgg185
  z63 := Tryz.sizeOf185
  v63 := Tryz.zeroValue185
  t64 := Tryz.underlying186
  a64 := Tryz.isAgg186
  z64 := Tryz.sizeOf186
  v64 := Tryz.zeroValue186 }
def Tryz.keysI_ren : Go.Shelf.Ren := ⟨fun | 7 => 96 | 10 => 110 | n => n, fun | 23 => 62 | 26 => 3 | 3 => 22 | 28 => 129 | 0 => 0 | 27 => 128 | 33 => 80 | 4 => 4 | n => n, fun | n => n⟩
theorem Tryz.keysI : Go.Proofs.SlLaysZI.n7 Tryz.prog Tryz.keysI_ren := {
  mixed := by kernel_rfl
  f7 := ⟨Tryz.f96.name, by decide, Tryz.func96.trans (congrArg some (by kernel_rfl))⟩
  f10 := ⟨Tryz.f110.name, by decide, Tryz.func110.trans (congrArg some (by kernel_rfl))⟩
  t0 := Tryz.underlying0
  a0 := Tryz.isAgg0
  z0 := Tryz.sizeOf0
  v0 := Tryz.zeroValue0
  t4 := Tryz.underlying4
  a4 := Tryz.isAgg4
  z4 := Tryz.sizeOf4
  v4 := Tryz.zeroValue4
  t23 := Tryz.underlying62
  a23 := Tryz.isAgg62
  z23 := Tryz.sizeOf62
  v23 := Tryz.zeroValue62
  t26 := Tryz.underlying3
  a26 := Tryz.isAgg3
  z26 := Tryz.sizeOf3
  v26 := Tryz.zeroValue3
  t27 := Tryz.underlying128
  a27 := Tryz.isAgg128
  z27 := Tryz.sizeOf128
  v27 := Tryz.zeroValue128
  t28 := Tryz.underlying129
  a28 := Tryz.isAgg129
  z28 := Tryz.sizeOf129
  v28 := Tryz.zeroValue129
  t33 := Tryz.underlying80
  a33 := Tryz.isAgg80
  z33 := Tryz.sizeOf80
  v33 := Tryz.zeroValue80 }
def Tryz.sortedI_ren : Go.Shelf.Ren := ⟨fun | 6 => 95 | 8 => 108 | 9 => 109 | 11 => 122 | 13 => 113 | 12 => 123 | 23 => 133 | 24 => 134 | 14 => 139 | 15 => 140 | 16 => 141 | 17 => 142 | 18 => 143 | 19 => 144 | 20 => 145 | 21 => 146 | 22 => 147 | 25 => 157 | 26 => 149 | 27 => 150 | 28 => 158 | 29 => 159 | 30 => 160 | 31 => 166 | n => n, fun | 26 => 3 | 28 => 129 | 24 => 39 | 0 => 0 | 3 => 3 | 37 => 106 | 48 => 119 | 50 => 52 | 4 => 4 | 40 => 159 | 39 => 158 | 45 => 93 | 5 => 5 | 9 => 9 | 51 => 176 | 55 => 180 | 57 => 185 | 58 => 186 | 33 => 80 | n => n, fun | n => n⟩
theorem Tryz.sortedI : Go.Proofs.SlLaysZI.n6 Tryz.prog Tryz.sortedI_ren := {
  mixed := by kernel_rfl
  f6 := ⟨Tryz.f95.name, by decide, Tryz.func95.trans (congrArg some (by kernel_rfl))⟩
  f8 := ⟨Tryz.f108.name, by decide, Tryz.func108.trans (congrArg some (by kernel_rfl))⟩
  f11 := ⟨Tryz.f122.name, by decide, Tryz.func122.trans (congrArg some (by kernel_rfl))⟩
  t0 := Tryz.underlying0
  a0 := Tryz.isAgg0
  z0 := Tryz.sizeOf0
  v0 := Tryz.zeroValue0
  t24 := Tryz.underlying39
  a24 := Tryz.isAgg39
  z24 := Tryz.sizeOf39
  v24 := Tryz.zeroValue39
  t26 := Tryz.underlying3
  a26 := Tryz.isAgg3
  z26 := Tryz.sizeOf3
  v26 := Tryz.zeroValue3
  t28 := Tryz.underlying129
  a28 := Tryz.isAgg129
  z28 := Tryz.sizeOf129
  v28 := Tryz.zeroValue129
  i26 := by kernel_rfl }
def Tryz.sortI_ren : Go.Shelf.Ren := ⟨fun | 5 => 109 | 8 => 113 | 7 => 123 | 19 => 133 | 20 => 134 | 10 => 139 | 11 => 140 | 12 => 141 | 13 => 142 | 14 => 143 | 15 => 144 | 16 => 145 | 17 => 146 | 18 => 147 | 30 => 157 | 31 => 149 | 32 => 150 | 33 => 158 | 34 => 159 | 35 => 160 | 40 => 166 | n => n, fun | 23 => 39 | 25 => 3 | 3 => 3 | 32 => 106 | 22 => 39 | 0 => 0 | 44 => 119 | 46 => 52 | 4 => 4 | 36 => 159 | 35 => 158 | 41 => 93 | 5 => 5 | 9 => 9 | 53 => 176 | 57 => 180 | 63 => 185 | 64 => 186 | n => n, fun | n => n⟩
theorem Tryz.sortI : Go.Proofs.SlLaysM.n5 Tryz.prog Tryz.sortI_ren := {
  mixed := by kernel_rfl
  f5 := ⟨Tryz.f109.name, by decide, Tryz.func109.trans (congrArg some (by kernel_rfl))⟩
  f7 := ⟨Tryz.f123.name, by decide, Tryz.func123.trans (congrArg some (by kernel_rfl))⟩
  f8 := Tryz.func113.trans (congrArg some (by kernel_rfl))
  f10 := ⟨Tryz.f139.name, by decide, Tryz.func139.trans (congrArg some (by kernel_rfl))⟩
  f11 := ⟨Tryz.f140.name, by decide, Tryz.func140.trans (congrArg some (by kernel_rfl))⟩
  f12 := ⟨Tryz.f141.name, by decide, Tryz.func141.trans (congrArg some (by kernel_rfl))⟩
  f13 := ⟨Tryz.f142.name, by decide, Tryz.func142.trans (congrArg some (by kernel_rfl))⟩
  f14 := ⟨Tryz.f143.name, by decide, Tryz.func143.trans (congrArg some (by kernel_rfl))⟩
  f15 := ⟨Tryz.f144.name, by decide, Tryz.func144.trans (congrArg some (by kernel_rfl))⟩
  f16 := ⟨Tryz.f145.name, by decide, Tryz.func145.trans (congrArg some (by kernel_rfl))⟩
  f17 := ⟨Tryz.f146.name, by decide, Tryz.func146.trans (congrArg some (by kernel_rfl))⟩
  f18 := ⟨Tryz.f147.name, by decide, Tryz.func147.trans (congrArg some (by kernel_rfl))⟩
  f19 := Tryz.func133.trans (congrArg some (by kernel_rfl))
  f20 := Tryz.func134.trans (congrArg some (by kernel_rfl))
  f30 := ⟨Tryz.f157.name, by decide, Tryz.func157.trans (congrArg some (by kernel_rfl))⟩
  f31 := Tryz.func149.trans (congrArg some (by kernel_rfl))
  f32 := Tryz.func150.trans (congrArg some (by kernel_rfl))
  f33 := ⟨Tryz.f158.name, by decide, Tryz.func158.trans (congrArg some (by kernel_rfl))⟩
  f34 := ⟨Tryz.f159.name, by decide, Tryz.func159.trans (congrArg some (by kernel_rfl))⟩
  f35 := ⟨Tryz.f160.name, by decide, Tryz.func160.trans (congrArg some (by kernel_rfl))⟩
  f40 := ⟨Tryz.f166.name, by decide, Tryz.func166.trans (congrArg some (by kernel_rfl))⟩
  t0 := Tryz.underlying0
  a0 := Tryz.isAgg0
  z0 := Tryz.sizeOf0
  v0 := Tryz.zeroValue0
  t3 := Tryz.underlying3
  a3 := Tryz.isAgg3
  z3 := Tryz.sizeOf3
  v3 := Tryz.zeroValue3
  t4 := Tryz.underlying4
  a4 := Tryz.isAgg4
  z4 := Tryz.sizeOf4
  v4 := Tryz.zeroValue4
  t5 := Tryz.underlying5
  a5 := Tryz.isAgg5
  z5 := Tryz.sizeOf5
  v5 := Tryz.zeroValue5
  t9 := Tryz.underlying9
  a9 := Tryz.isAgg9
  z9 := Tryz.sizeOf9
  v9 := Tryz.zeroValue9
  t22 := Tryz.underlying39
  a22 := Tryz.isAgg39
  z22 := Tryz.sizeOf39
  v22 := Tryz.zeroValue39
  t23 := Tryz.underlying39
  a23 := Tryz.isAgg39
  z23 := Tryz.sizeOf39
  v23 := Tryz.zeroValue39
  t25 := Tryz.underlying3
  a25 := Tryz.isAgg3
  z25 := Tryz.sizeOf3
  v25 := Tryz.zeroValue3
  t32 := Tryz.underlying106
  a32 := Tryz.isAgg106
  z32 := Tryz.sizeOf106
  v32 := Tryz.zeroValue106
  t35 := Tryz.underlying158
  a35 := Tryz.isAgg158
  z35 := Tryz.sizeOf158
  v35 := Tryz.zeroValue158
  t36 := Tryz.underlying159
  a36 := Tryz.isAgg159
  z36 := Tryz.sizeOf159
  v36 := Tryz.zeroValue159
  t41 := Tryz.underlying93
  a41 := Tryz.isAgg93
  z41 := Tryz.sizeOf93
  v41 := Tryz.zeroValue93
  t44 := Tryz.underlying119
  a44 := Tryz.isAgg119
  z44 := Tryz.sizeOf119
  v44 := Tryz.zeroValue119
  t46 := Tryz.underlying52
  a46 := Tryz.isAgg52
  z46 := Tryz.sizeOf52
  v46 := Tryz.zeroValue52
  t53 := Tryz.underlying176
  a53 := Tryz.isAgg176
  z53 := Tryz.sizeOf176
  v53 := Tryz.zeroValue176
  t57 := Tryz.underlying180
  a57 := Tryz.isAgg180
  z57 := Tryz.sizeOf180
  v57 := Tryz.zeroValue180
  t63 := Tryz.underlying185
  a63 := Tryz.isAgg185
  z63 := Tryz.sizeOf185
  v63 := Tryz.zeroValue185
  t64 := Tryz.underlying186
  a64 := Tryz.isAgg186
  z64 := Tryz.sizeOf186
  v64 := Tryz.zeroValue186 }
def Tryz.delI_ren : Go.Shelf.Ren := ⟨fun | 10 => 80 | 6 => 100 | n => n, fun | 22 => 39 | 23 => 3 | 25 => 80 | 3 => 3 | 4 => 4 | 0 => 0 | n => n, fun | n => n⟩
theorem Tryz.delI : Go.Proofs.SlLaysH.n10 Tryz.prog Tryz.delI_ren := {
  mixed := by kernel_rfl
  f6 := ⟨Tryz.f100.name, by decide, Tryz.func100.trans (congrArg some (by kernel_rfl))⟩
  f10 := ⟨Tryz.f80.name, by decide, Tryz.func80.trans (congrArg some (by kernel_rfl))⟩
  t0 := Tryz.underlying0
  a0 := Tryz.isAgg0
  z0 := Tryz.sizeOf0
  v0 := Tryz.zeroValue0
  t3 := Tryz.underlying3
  a3 := Tryz.isAgg3
  z3 := Tryz.sizeOf3
  v3 := Tryz.zeroValue3
  t4 := Tryz.underlying4
  a4 := Tryz.isAgg4
  z4 := Tryz.sizeOf4
  v4 := Tryz.zeroValue4
  t22 := Tryz.underlying39
  a22 := Tryz.isAgg39
  z22 := Tryz.sizeOf39
  v22 := Tryz.zeroValue39
  a23 := Tryz.isAgg3
  z23 := Tryz.sizeOf3
  t25 := Tryz.underlying80
  a25 := Tryz.isAgg80
  z25 := Tryz.sizeOf80
  v25 := Tryz.zeroValue80 }
def Tryz.cloneB_ren : Go.Shelf.Ren := ⟨fun | 41 => 43 | n => n, fun | 22 => 22 | 23 => 5 | 4 => 4 | n => n, fun | n => n⟩
theorem Tryz.cloneB : Go.Proofs.SlLaysE0.n41 Tryz.prog Tryz.cloneB_ren := {
  mixed := by kernel_rfl
  f41 := ⟨Tryz.f43.name, by decide, Tryz.func43.trans (congrArg some (by kernel_rfl))⟩
  t4 := Tryz.underlying4
  a4 := Tryz.isAgg4
  z4 := Tryz.sizeOf4
  v4 := Tryz.zeroValue4
  t22 := Tryz.underlying22
  a22 := Tryz.isAgg22
  z22 := Tryz.sizeOf22
  v22 := Tryz.zeroValue22 }
end Go.Proofs
/- Contracts of package vfs: New, right, Create. -/
namespace Go.Proofs.YtoadamkmabkldaaGreatDoor
open Go.RowKit
attribute [local go_sem ↓] Go.wp_at_zero Go.wp_at_succ

def okL : List UInt8 := [97, 98, 99, 100, 101, 102, 103, 104, 105, 106, 107, 108, 109, 110, 111, 112, 113, 114, 115, 116, 117, 118, 119, 120, 121, 122, 48, 49, 50, 51, 52, 53, 54, 55, 56, 57, 46, 45, 47]
theorem okB_okL (c : UInt8) : okL.contains c = okB c := by
  have h : ∀ n, n < 256 → okL.contains (UInt8.ofNat n) = okB (UInt8.ofNat n) := by decide +kernel
  have := h c.toNat (UInt8.toNat_lt c)
  rwa [UInt8.ofNat_toNat] at this
theorem mem_tw (p : UInt8 → Bool) : ∀ (l : List UInt8) (c : UInt8), c ∈ l.takeWhile p → p c = true
  | [], c, h => by cases h
  | a :: r, c, h => by
    rw [List.takeWhile_cons] at h
    cases ha : p a with
    | true =>
      rw [ha] at h
      rcases List.mem_cons.1 h with rfl | h
      · exact ha
      · exact mem_tw p r c h
    | false => rw [ha] at h; cases h
theorem trimS_nil (l cs : List UInt8) : (Lib.trimS l cs = []) ↔ ∀ c ∈ l, cs.contains c = true := by
  unfold Lib.trimS Lib.trimLeftS Lib.trimRightS
  have dw : ∀ (p : UInt8 → Bool) (l : List UInt8), l.dropWhile p = [] ↔ ∀ c ∈ l, p c = true := by
    intro p l
    induction l with
    | nil => simp
    | cons a r ih =>
      rw [List.dropWhile_cons]
      cases h : p a with
      | true => simp [h, ih]
      | false => simp [h]
  rw [dw]
  constructor
  · intro h c hc
    have h2 : ∀ c ∈ l.reverse.dropWhile (cs.contains ·), cs.contains c = true := fun c hc => h c (List.mem_reverse.2 hc)
    have h3 : ∀ c ∈ l.reverse, cs.contains c = true := by
      intro c hc
      rw [← List.takeWhile_append_dropWhile (p := (cs.contains ·)) (l := l.reverse)] at hc
      rcases List.mem_append.1 hc with hc | hc
      · exact mem_tw (cs.contains ·) _ _ hc
      · exact h2 c hc
    exact h3 c (List.mem_reverse.2 hc)
  · intro h c hc
    rw [List.mem_reverse] at hc
    exact h c (List.mem_reverse.1 ((List.dropWhile_sublist _).subset hc))
theorem infoAs : (Tryz.prog.info? 145).map (fun i => (i.zero, i.size)) = some (some (.agg (Array.replicate 256 (.bool false))), 256) := by kernel_rfl
theorem trim_any (s : ByteArray) (w : World) (hs : s.size ≤ 1000000) :
    Calls Tryz.prog 104 #[.string s, .string ⟨okL.toArray⟩] w fun e w' => e = .returned (.string ⟨(Lib.trimS s.data.toList okL).toArray⟩) ∧ Below w.heap.size w w' :=
  Any.strings_Trim_laid Tryz.trimL infoAs s ⟨okL.toArray⟩ w (by omega) (by decide) (ascii_of_all (by decide))
theorem trim_all (l : List UInt8) : (Lib.trimS l okL).isEmpty = l.all okB := by
  rw [Bool.eq_iff_iff, List.isEmpty_iff, trimS_nil, List.all_eq_true]
  simp only [okB_okL]
theorem rightP_eq (s : ByteArray) : rightP s.data.toList = (!s.toList.isEmpty && (decide (s.size ≤ 24) && (Lib.trimS s.data.toList okL).isEmpty)) := by
  rw [trim_all, ByteArray.toList_eq, Lib.size_eq]
  unfold rightP
  cases h : s.data.toList with
  | nil => rfl
  | cons a r => simp
set_option maxHeartbeats 4000000 in
set_option maxRecDepth 100000 in
theorem right_any (s : ByteArray) (w : World) (hs : s.size ≤ 1000000) :
    Calls Tryz.prog 86 #[.string s] w fun e w' => e = .returned (.bool (rightP s.data.toList)) ∧ Below w.heap.size w w' := by
  have HT := Lib.hid (fun w => trim_any s w hs)
  go_enter Tryz.func86, Tryz.ntmps86
  go_wp2_with ((go_at_call 104; refine (HT.out _).mono ?_; rintro e w1 ⟨rfl, b1⟩; replace b1 := Lib.hid b1))
  · rename_i h0
    go_ret
    refine ⟨ret_bool ?_, Below.refl _ _⟩
    rw [rightP_eq, h0]; rfl
  · rename_i h0
    have h1 : (s.size : Int) ≤ 24 := by omega
    go_ret
    refine ⟨ret_bool ?_, b1.out⟩
    rw [rightP_eq, show decide (s.size ≤ 24) = true by rw [decide_eq_true_eq]; omega, Bool.true_and]
  · rename_i h0
    have h1 : ¬ (s.size : Int) ≤ 24 := by omega
    go_ret
    refine ⟨ret_bool ?_, Below.refl _ _⟩
    rw [rightP_eq, show decide (s.size ≤ 24) = false by rw [decide_eq_false_iff_not]; omega, Bool.false_and, Bool.and_false]
theorem newP_wf (n : Int) : (newP n).WF := by
  refine ⟨?_, ?_, by simp [newP], by simp [newP], fun p hp => by simp [newP] at hp, by simp [newP], by simp [newP, useP], fun p hp => by simp [newP] at hp⟩
  · unfold newP; simp only; omega
  · unfold newP; simp only; omega
set_option maxHeartbeats 4000000 in
set_option maxRecDepth 100000 in
theorem vnew_any (n : Int) (w : World) :
    Calls Tryz.prog 10 #[.int .i64 n] w fun e w' => ∃ f, e = .returned (.pointer (some ⟨f, 0, none⟩)) ∧ FsA w' (fun i => w.heap.size ≤ i) f (newP n) ∧ Below w.heap.size w w' := by
  obtain ⟨M1, hM1⟩ : ∃ M1, M1 = max n 1 := ⟨_, rfl⟩
  obtain ⟨M, hM⟩ : ∃ M : Nat, M = (newP n).most := ⟨_, rfl⟩
  have e1 := fun ats ty => run_max ats ty n 1 M1 (by rw [hM1]; split <;> omega)
  have e2 := fun ats ty => run_min ats ty M1 65536 (M : Int) (by rw [hM]; unfold newP; simp only; rw [← hM1]; split <;> omega)
  have HM := Lib.hid hM
  have hmm := @run_makeMap Tryz.prog
  clear hM1 hM
  go_enter Tryz.func10, Tryz.ntmps10
  go_wp2_with fail
  go_ret
  have hS : ∀ s, findP (newP n) s = none := fun s => rfl
  refine ⟨w.heap.size + 1, rfl, ⟨w.heap.size, fun _ => 0, fun _ => 0, fun _ => .slice none 0 0, ⟨?_, ?_, fun s x h => ?_, fun s x s' x' h => ?_, fun s x s' x' h => ?_, newP_wf n⟩, ?_⟩, ((Below.refl _ _).alloc (Nat.le_refl _) _).alloc (by simp) _⟩
  · rw [← HM.out]
    exact Bk.new' (w.alloc (.map #[] 0)) _ _ (by simp)
  · refine ((MapS.new w).mono (Nat.zero_le _)).heap (Below.heap_alloc _ _ _ (by simp)) |>.congr (fun s => ?_)
    rw [hS]; rfl
  · rw [hS] at h; cases h
  · rw [hS] at h; cases h
  · rw [hS] at h; cases h
  · rintro i (rfl | rfl | ⟨s, x, h, _⟩)
    · omega
    · omega
    · rw [hS] at h; cases h
section
variable {W W' : World} {f m : Nat} {bl gl : List UInt8 → Nat} {sv : List UInt8 → Value} {S S' : FsP}
theorem FsM.nef (h : FsM W f m bl gl sv S) {n : List UInt8} {x : FlP} (hx : findP S n = some x) : bl n ≠ f ∧ (0 < x.W.length → gl n ≠ f) ∧ m ≠ f :=
  ⟨Bk.ne (h.fl n x hx).hd h.hd (by decide), fun h0 => (h.fl n x hx).sl.ne h0 h.hd (by decide), h.mp.ne h.hd⟩
/-- The store's own block has turned, and nothing else of it. -/
theorem FsM.upd (h : FsM W f m bl gl sv S) (hd : Bk W' f 61 #[.int .i64 (S'.most : Int), .int .i64 (S'.stamp : Int), .int .i64 S'.fuse, .bool S'.down, .map (some m)])
    (hk : ∀ i, FsO f m bl gl S i → i ≠ f → W'.heap[i]? = W.heap[i]?) (hfs : S'.fs = S.fs) (hst : S.stamp ≤ S'.stamp) (hwf : S'.WF) : FsM W' f m bl gl sv S' := by
  have hf : ∀ n, findP S' n = findP S n := fun n => by unfold findP; rw [hfs]
  refine ⟨hd, ?_, fun n x hx => ?_, fun n x n' x' hx hx' => ?_, fun n x n' x' hx hx' => ?_, hwf⟩
  · refine ((h.mp.heap (hk m (.inr (.inl rfl)) (h.mp.ne h.hd))).mono hst).congr (fun n => by rw [hf])
  · rw [hf] at hx
    obtain ⟨h1, h2, _⟩ := h.nef hx
    exact (h.fl n x hx).heap (hk _ (.inr (.inr ⟨n, x, hx, .inl rfl⟩)) h1) (fun h0 => hk _ (.inr (.inr ⟨n, x, hx, .inr ⟨h0, rfl⟩⟩)) (h2 h0))
  · rw [hf] at hx hx'; exact h.bi n x n' x' hx hx'
  · rw [hf] at hx hx'; exact h.si n x n' x' hx hx'
theorem FsO_fs (hfs : S'.fs = S.fs) (i : Nat) : FsO f m bl gl S' i ↔ FsO f m bl gl S i := by
  have hf : ∀ n, findP S' n = findP S n := fun n => by unfold findP; rw [hfs]
  unfold FsO
  simp only [hf]
end
theorem burntP_parts (S : FsP) : (burntP S).most = S.most ∧ (burntP S).stamp = S.stamp ∧ (burntP S).fs = S.fs ∧ (burntP S).fuse = (burnt S.fuse S.down).1 ∧ (burntP S).down = (burnt S.fuse S.down).2 := by
  unfold burntP burnt
  by_cases h0 : S.fuse = 0
  · simp [h0]
  · by_cases h1 : 0 < S.fuse
    · simp [h0, h1]
    · simp [h0, h1]
theorem burntP_wf {S : FsP} (h : S.WF) : (burntP S).WF := by
  obtain ⟨e1, e2, e3, e4, _⟩ := burntP_parts S
  have h1 := h.fuse1
  have h2 := h.fuse2
  refine ⟨by rw [e1]; exact h.most1, by rw [e1]; exact h.most2, ?_, ?_, by rw [e3]; exact h.files, by rw [e3]; exact h.order, by rw [e3, e1]; exact h.room, by rw [e3]; exact h.names⟩
  · rw [e4]; unfold burnt; split
    · simp
    · split <;> simp only <;> omega
  · rw [e4]; unfold burnt; split
    · simp
    · split <;> simp only <;> omega
/-- burn, of a store. -/
theorem burn_fs (f m : Nat) (bl gl : List UInt8 → Nat) (sv : List UInt8 → Value) (S : FsP) (w : World) (h : FsM w f m bl gl sv S) :
    Calls Tryz.prog 87 #[.pointer (some ⟨f, 0, none⟩)] w fun e w' => e = .returned (.bool (burnP S)) ∧ FsM w' f m bl gl sv (burntP S) ∧ Ch (fun i => i = f) w w' := by
  refine (burn_any f _ _ _ S.fuse S.down w h.hd h.wf.fuse1 h.wf.fuse2).mono ?_
  rintro e w' ⟨rfl, h1, h2⟩
  obtain ⟨e1, e2, e3, e4, e5⟩ := burntP_parts S
  refine ⟨rfl, h.upd ?_ (fun i hi hne => h2.block i (h.lt i hi) hne) e3 (by rw [e2]; exact Nat.le_refl _) (burntP_wf h.wf), h2⟩
  rw [e1, e2, e4, e5]
  exact h1
end Go.Proofs.YtoadamkmabkldaaGreatDoor
