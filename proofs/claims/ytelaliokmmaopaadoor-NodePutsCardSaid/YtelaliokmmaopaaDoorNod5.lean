/- Contracts of package node: pack. -/
import Derived.Test.YtelaliokmmaopaaDoorNod4
import Derived.Test.YtelaliokmmaopaaDoorWord2
import Derived.Test.YtelaliokmmaopaaDoorCopy
import Derived.Deep.RegionLaw
import Derived.Deep.Cut
import Derived.Deep.CutBlock
import Derived.Deep.DeepCutAuto
namespace Go.Proofs.YtelaliokmmaopaaDoor
open Go.RowKit
attribute [local go_sem ↓] Go.wp_at_zero Go.wp_at_succ

/-- A cell's bytes. -/
def packC (leaf : Bool) (k : Int) (c : CellP) : List UInt8 :=
  (UInt8.ofNat c.key.length :: c.key) ++ if leaf = false then leB k 3 else if c.over = 0 then leB (c.val.length : Int) 2 ++ c.val else leB c.long 2 ++ leB c.over 3
/-- What stands ahead of the cells. -/
def packH (N : NodP) : List UInt8 := ((if N.leaf = true then (1 : UInt8) else 2) :: leB (N.cells.length : Int) 2) ++ if N.leaf = true then [] else leB (N.kids[0]?.getD 0) 3
/-- The first cells' bytes. -/
def packTo (N : NodP) : Nat → List UInt8
  | 0 => packH N
  | j + 1 => packTo N j ++ packC N.leaf (N.kids[j + 1]?.getD 0) (N.cells[j]?.getD ⟨[], [], 0, 0⟩)
def packN (N : NodP) : List UInt8 := packTo N N.cells.length
theorem leB_length (z : Int) (w : Nat) : (leB z w).length = w := by
  have := putB_len [] w [z]
  rw [putB_one] at this
  simpa using this
theorem packC_len {leaf : Bool} {k : Int} {c : CellP} (h : okC leaf c) : (packC leaf k c).length ≤ 200 := by
  obtain ⟨h1, h2⟩ := h
  unfold packC
  cases leaf
  · simp [leB_length]; omega
  · simp only [if_true] at h2
    unfold cellP at h2
    by_cases h0 : c.over = 0
    · rw [if_pos h0] at h2
      simp [h0, leB_length]; omega
    · simp [h0, leB_length]; omega
theorem packTo_len {N : NodP} (h : RightP N) : ∀ j, j ≤ N.cells.length → (packTo N j).length ≤ 6 + 200 * j
  | 0, _ => by
    unfold packTo packH
    cases N.leaf <;> simp [leB_length]
  | j + 1, hj => by
    have ih := packTo_len h j (by omega)
    have hc : N.cells[j]? = some N.cells[j] := List.getElem?_eq_getElem (by omega)
    have := packC_len (k := N.kids[j + 1]?.getD 0) (h.2.1.1 j _ (by omega) hc)
    rw [packTo, List.length_append, hc]
    simp only [Option.getD_some]
    omega
theorem Bk.ne {w : World} {g g' : Nat} {t t' : TypeId} {cs cs' : Array Value} (h : Bk w g t cs) (h' : Bk w g' t' cs') (hne : t ≠ t') : g ≠ g' := by
  rintro rfl
  unfold Bk at h h'
  rw [h] at h'
  injection h' with h'
  injection h' with _ ht
  exact hne ht
theorem own_ne {w : World} {base s n : Nat} {e t : TypeId} {v : Value} {xs : List Value} {g : Nat} {cs : Array Value} (h : w.ownsRow base e s v n xs) (hg : Bk w g t cs) (hne : e ≠ t) : v.ownBlock ≠ some g := by
  rcases h.2 with ⟨rfl, _⟩ | ⟨g', cap, cur, rfl, _, hh, _⟩
  · simp [Value.ownBlock]
  · intro he
    have : g' = g := by simpa [Value.ownBlock] using he
    subst this
    exact Bk.ne (t := e) hh hg hne rfl
/-- A block of another type stays, where a row grows. -/
theorem Bk.grow {w w' : World} {base n : Nat} {v : Value} {l : List UInt8} {g : Nat} {T : TypeId} {cs : Array Value} (hg : Bk w g T cs) (ho : w.ownsRow base 5 1 v n (bys l)) (hw : w.grownBy w' v.ownBlock) (hne : 5 ≠ T) : Bk w' g T cs :=
  hg.grown hw (fun e => own_ne ho hg hne e.symm)
/-- The bytes so far, a cell's copy, the node. -/
def PkM (w : World) (g5 : Nat) (cl nd : Array Value) (l : List UInt8) (v : Value) (wx : World) : Prop :=
  wx.ownsRow w.heap.size 5 1 v l.length (bys l) ∧ Below w.heap.size w wx ∧ Bk wx g5 42 cl ∧ Bk wx w.heap.size 27 nd
theorem PkM.alloc {w W : World} {g5 : Nat} {cl nd : Array Value} {l : List UInt8} {v : Value} (h : PkM w g5 cl nd l v W) (o : Obj) : PkM w g5 cl nd l v (W.alloc o) := ⟨h.1.alloc o, h.2.1.alloc h.2.1.size o, h.2.2.1.alloc o, h.2.2.2.alloc o⟩
theorem PkM.drew {w W : World} {g5 : Nat} {cl nd : Array Value} {l : List UInt8} {v : Value} (h : PkM w g5 cl nd l v W) : PkM w g5 cl nd l v W.drew := ⟨own_drewN h.1 1, h.2.1.drew, h.2.2.1.drew, h.2.2.2.drew⟩
/-- The two numbers of a cell that lies elsewhere: whatever order they are made in. -/
theorem PkM.put {w W : World} {g5 n x : Nat} {cl nd : Array Value} {l : List UInt8} {A A2 : Option Addr} {c c2 : Nat} {z : Int} (h : PkM w g5 cl nd l (.slice A n c) W) (hn : n = l.length) (hl : l.length ≤ 100000000) (hx : (wid (x : Int)).toNat = x) (h2 : Rd W W.heap.size 1 A2 1 (its [z])) :
    Calls Tryd.prog 52 #[.slice A n c, .int .i64 x, .slice A2 1 c2] W fun e w' => ∃ v, e = .returned v ∧ PkM w g5 cl nd (l ++ leB z x) v w' ∧ Below W.heap.size W w' := by
  obtain ⟨h1, hb, hc, hd⟩ := h
  subst hn
  refine (put_any A A2 l.length c 1 c2 x l [z] W (Rd.of_own h1) h2 (by omega) (by omega)).mono ?_
  rintro e w' ⟨v, he, ho, hb'⟩
  rw [hx] at ho
  have e1 : putB l x [z] = l ++ leB z x := by simp [putB]
  have e2 : l.length + 1 * x = (l ++ leB z x).length := by rw [List.length_append, leB_length]; omega
  rw [e1, e2] at ho
  exact ⟨v, he, ⟨own_base ho hb.size, hb.trans (hb'.mono hb.size), Bk.below hc hb' hc.lt, Bk.below hd hb' hd.lt⟩, hb'⟩
set_option maxHeartbeats 4000000 in
set_option maxRecDepth 100000 in
theorem pack_leaf (M : NdM) (N : NodP) (w : World) (hr : RdN w w.heap.size M N) (hR : RightP N) (hl : N.leaf = true) :
    Calls Tryd.prog 29 #[.agg (ndC true M)] w fun e w' => ∃ v, e = .returned v ∧ w'.ownsRow w.heap.size 5 1 v (packN N).length (bys (packN N)) ∧ Below w.heap.size w w' := by
  obtain ⟨hcl, _⟩ := hr.len
  have Hr := Lib.hid hr
  have Hcl := Lib.hid hcl
  have HR := Lib.hid hR
  have Hl := Lib.hid hl
  have hn6 : M.n ≤ 100000 := by have := hR.1.2.2; omega
  unfold ndC
  clear hr hcl hR hl
  obtain ⟨A, n, c, K, m, d⟩ := M
  simp only at hn6 ⊢
  go_enter Tryd.func29, Tryd.ntmps29
  go_wp2_with fail
  have r1 : Rd (((w.alloc (.cells #[.bool true, .slice A n c, .slice K m d] 27)).alloc (.cells #[.int .u8 1] 5)).alloc (.cells #[.int .i64 (n : Int)] 3)) (((w.alloc (.cells #[.bool true, .slice A n c, .slice K m d] 27)).alloc (.cells #[.int .u8 1] 5)).alloc (.cells #[.int .i64 (n : Int)] 3)).heap.size 1 (some ⟨w.heap.size + 1, 0, none⟩) 1 (bys [1]) := by
    have := Rd.oneB (w.alloc (.cells #[.bool true, .slice A n c, .slice K m d] 27)) 5 (x := 1) (u := 1) rfl
    simp only [World.size_alloc] at this
    exact (this.alloc (by simp) _).more (by simp)
  have r2 : Rd (((w.alloc (.cells #[.bool true, .slice A n c, .slice K m d] 27)).alloc (.cells #[.int .u8 1] 5)).alloc (.cells #[.int .i64 (n : Int)] 3)) (((w.alloc (.cells #[.bool true, .slice A n c, .slice K m d] 27)).alloc (.cells #[.int .u8 1] 5)).alloc (.cells #[.int .i64 (n : Int)] 3)).heap.size 1 (some ⟨w.heap.size + 1 + 1, 0, none⟩) 1 (its [(n : Int)]) := by
    have := Rd.oneI ((w.alloc (.cells #[.bool true, .slice A n c, .slice K m d] 27)).alloc (.cells #[.int .u8 1] 5)) 3 (n : Int)
    simp only [World.size_alloc] at this
    exact this.more (by simp)
  have hb3 : Below w.heap.size w (((w.alloc (.cells #[.bool true, .slice A n c, .slice K m d] 27)).alloc (.cells #[.int .u8 1] 5)).alloc (.cells #[.int .i64 (n : Int)] 3)) := (((Below.refl _ _).alloc (Nat.le_refl _) _).alloc (by simp) _).alloc (by simp <;> omega) _
  have hg3 : Bk (((w.alloc (.cells #[.bool true, .slice A n c, .slice K m d] 27)).alloc (.cells #[.int .u8 1] 5)).alloc (.cells #[.int .i64 (n : Int)] 3)) w.heap.size 27 #[.bool true, .slice A n c, .slice K m d] := Bk.alloc (Bk.alloc (Bk.new _ _ _) _) _
  have hp := put_any _ _ 1 1 1 1 2 [1] [(n : Int)] _ r1 r2 (by omega) (by omega)
  have Hp := Lib.hid hp
  have Hb3 := Lib.hid hb3
  have Hg3 := Lib.hid hg3
  clear r1 r2 hp hb3 hg3
  refine Hp.out.mono ?_
  rintro e w4 ⟨v4, rfl, hown4, hb4⟩
  rw [show (wid 2).toNat = 2 by decide] at hown4
  have hz3 := Hb3.out.size
  have ho4 : w4.ownsRow w.heap.size 5 1 v4 (packTo N 0).length (bys (packTo N 0)) := by
    have e : putB [1] 2 [(n : Int)] = packTo N 0 := by
      unfold packTo packH putB
      rw [Hl.out, Hcl.out]; simp
    rw [e] at hown4
    have e2 : 1 + 1 * 2 = (packTo N 0).length := by rw [← e, putB_len]; rfl
    rw [← e2]
    exact own_base hown4 hz3
  have H4 := Lib.hid (And.intro ho4 (And.intro (Hb3.out.trans (hb4.mono hz3)) (Bk.below Hg3.out hb4 (by simp <;> omega))))
  have f0 : w4.cell? ⟨w.heap.size, 0, none⟩ = some (.bool true) := H4.out.2.2.cell 0
  have f1 : w4.cell? ⟨w.heap.size, 1, none⟩ = some (.slice A n c) := H4.out.2.2.cell 1
  clear ho4 hown4 hb4 Hp Hb3 Hg3
  go_wp2_with fail
  go_loopw [3, 30] (fun v idx wr => ∃ j : Nat, idx = .int .i64 j ∧ j ≤ n ∧ Hid (wr.ownsRow w.heap.size 5 1 v (packTo N j).length (bys (packTo N j)) ∧ Below w.heap.size w wr ∧ Bk wr w.heap.size 27 #[.bool true, .slice A n c, .slice K m d])) (fun _ idx _ => n - (intOf idx).toNat)
  case atStart => exact ⟨0, rfl, Nat.zero_le _, H4⟩
  case round =>
    obtain ⟨j, rfl, hj, HI⟩ := hrel
    obtain ⟨hown, hbw, hbk⟩ := HI.out
    clear H4 HI f0 f1
    by_cases hlt : j < n
    · obtain ⟨b, o, cc, Ak, nk, ck, Av, nv, cv, rfl, hb, hcj, k0, hrk, hnck, k1, hrv, hncv, k2, k3⟩ := Hr.out.cs.at_ hlt
      have e0 := (hbw.cell (p := ⟨b, o + j * 4, none⟩) (by show b < _; omega)).trans k0
      have e1 := (hbw.cell (p := ⟨b, o + j * 4 + 1, none⟩) (by show b < _; omega)).trans k1
      have e2 := (hbw.cell (p := ⟨b, o + j * 4 + 2, none⟩) (by show b < _; omega)).trans k2
      have e3 := (hbw.cell (p := ⟨b, o + j * 4 + 3, none⟩) (by show b < _; omega)).trans k3
      have t0 : wr.cell? ⟨w.heap.size, 0, none⟩ = some (.bool true) := hbk.cell 0
      have hok := HR.out.2.1.1 j cc (by have := Hcl.out; omega) hcj
      have hkl := hrk.blen
      have hvl := hrv.blen
      have hlen := packTo_len HR.out j (by have := Hcl.out; omega)
      have hL : (packTo N j).length ≤ 30000000 := by omega
      obtain ⟨Ab, cb, rfl, hcb, _⟩ := own_form hown
      have hsz := hbw.size
      have hkk : 1 ≤ nk ∧ nk ≤ 120 := by have := hok.1; omega
      have hck : cc.over = 0 ∧ cc.long = 0 ∧ nv ≤ 64 ∨ ¬ cc.over = 0 ∧ 1 ≤ cc.over ∧ cc.over < 16777216 ∧ 64 < cc.long ∧ cc.long ≤ 20000 ∧ nv = 0 := by
        have h2 := hok.2
        rw [Hl.out] at h2
        simp only [if_true] at h2
        unfold cellP childP at h2
        by_cases h0 : cc.over = 0
        · rw [if_pos h0] at h2; left; omega
        · rw [if_neg h0] at h2; right; omega
      have Hpc := Lib.hid (show packTo N (j + 1) = packTo N j ++ packC true (N.kids[j + 1]?.getD 0) cc by rw [packTo, Hl.out, hcj]; rfl)
      have hzl := hbk.lt
      have Hrk := Lib.hid hrk
      have Hrv := Lib.hid hrv
      have Hown := Lib.hid hown
      have Hbw := Lib.hid hbw
      have Hbk := Lib.hid hbk
      have Hck := Lib.hid hck
      clear k0 k1 k2 k3 hok hlen hrk hrv hown hbw hbk hck hcj
      have o5 := Lib.hid (Hown.out.alloc (.cells #[.slice Ak nk ck, .slice Av nv cv, .int .i64 cc.over, .int .i64 cc.long] 42))
      have c5 := Lib.hid (Bk.new wr 42 #[.slice Ak nk ck, .slice Av nv cv, .int .i64 cc.over, .int .i64 cc.long])
      have n5 := Lib.hid (Hbk.out.alloc (.cells #[.slice Ak nk ck, .slice Av nv cv, .int .i64 cc.over, .int .i64 cc.long] 42))
      have b5 := Lib.hid (Hbw.out.alloc hsz (.cells #[.slice Ak nk ck, .slice Av nv cv, .int .i64 cc.over, .int .i64 cc.long] 42))
      have z5 : wr.heap.size < (wr.alloc (.cells #[.slice Ak nk ck, .slice Av nv cv, .int .i64 cc.over, .int .i64 cc.long] 42)).heap.size := by simp
      clear Hown Hbw Hbk
      go_upto_region 10 with (fail)
      generalize wr.alloc (.cells #[.slice Ak nk ck, .slice Av nv cv, .int .i64 cc.over, .int .i64 cc.long] 42) = w5 at *
      generalize wr.heap.size = g5 at *
      clear e0 e1 e2 e3 t0
      have s0 : w5.cell? ⟨g5, 0, none⟩ = some (.slice Ak nk ck) := c5.out.cell 0
      have q1 : IntKind.u8.wrap (nk : Int) = (nk : Int) := by rw [IntKind.wrap_u8]; omega
      have HA := Lib.hid (show ∀ W, W = (w5.alloc (.cells #[.int .u8 (nk : Int)] 5)).drew → W.ownsRow w.heap.size 5 1 (.slice Ab (packTo N j).length cb) (packTo N j).length (bys (packTo N j)) ∧ Rd W (w5.heap.size + 1) 1 (some ⟨w5.heap.size, 0, none⟩) 1 (bys [UInt8.ofNat nk]) ∧ Below w.heap.size w W from by
        intro W hW
        subst hW
        exact ⟨own_drewN (o5.out.alloc _) 1, (Rd.oneB w5 5 (by simp; omega)).drew, (b5.out.alloc b5.out.size _).drew⟩)
      have HF := Lib.hid (show ∀ W w8, W = (w5.alloc (.cells #[.int .u8 (nk : Int)] 5)).drew → W.grownBy w8 (Value.slice Ab (packTo N j).length cb).ownBlock → Bk w8 g5 42 #[.slice Ak nk ck, .slice Av nv cv, .int .i64 cc.over, .int .i64 cc.long] ∧ Bk w8 w.heap.size 27 #[.bool true, .slice (some ⟨b, o, none⟩) n c, .slice K m d] from by
        intro W w8 hW hg
        subst hW
        have ho := own_drewN (o5.out.alloc (.cells #[.int .u8 (nk : Int)] 5)) 1
        exact ⟨Bk.grow (Bk.drew (c5.out.alloc _)) ho hg (by decide), Bk.grow (Bk.drew (n5.out.alloc _)) ho hg (by decide)⟩)
      have hzz : w.heap.size ≤ w5.heap.size := by omega
      go_cut [3] (fun v3 wx => Hid (PkM w g5 #[.slice Ak nk ck, .slice Av nv cv, .int .i64 cc.over, .int .i64 cc.long] #[.bool true, .slice (some ⟨b, o, none⟩) n c, .slice K m d] (packTo N j ++ (UInt8.ofNat nk :: cc.key)) v3 wx))
      case first =>
        go_region_law (first
          | (refine ap_step (v := .slice Ab (packTo N j).length cb) (n := (packTo N j).length) (xs := packTo N j) (news := [UInt8.ofNat nk]) (A := some ⟨w5.heap.size, 0, none⟩) (m := 1) (c := 1) (B := w5.heap.size + 1) (base := w.heap.size) (w0 := w) (by exact (HA.out _ rfl).1) (by exact (HA.out _ rfl).2.1) (by exact (HA.out _ rfl).2.2) (by show w.heap.size ≤ (w5.alloc _).heap.size; simp; omega) (by omega) (by rfl) (by rfl) ?_; intro v8 w8 hown8 hb8 hg8 hv8; obtain ⟨c8, n8⟩ := HF.out _ w8 (by rfl) hg8; have s8 : w8.cell? ⟨g5, 0, none⟩ = some (.slice Ak nk ck) := c8.cell 0; obtain ⟨A8, d8, rfl, _, _⟩ := own_form hown8)
          | (refine ap_step (v := .slice A8 ((packTo N j).length + 1) d8) (n := (packTo N j).length + 1) (xs := packTo N j ++ [UInt8.ofNat nk]) (news := cc.key) (A := Ak) (m := nk) (c := ck) (B := w.heap.size) (base := w.heap.size) (w0 := w) hown8 (Hrk.out.below hb8 (Nat.le_refl _)) hb8 hb8.size (by omega) (by rfl) (by rfl) ?_; intro v9 w9 hown9 hb9 hg9 hv9; have c9 := Bk.grow c8 hown8 hg9 (by decide); have n9 := Bk.grow n8 hown8 hg9 (by decide); obtain ⟨A9, d9, rfl, _, _⟩ := own_form hown9))
        all_goals
          have Hm := Lib.hid (show PkM w g5 #[.slice Ak nk ck, .slice Av nv cv, .int .i64 cc.over, .int .i64 cc.long] #[.bool true, .slice (some ⟨b, o, none⟩) n c, .slice K m d] (packTo N j ++ (UInt8.ofNat nk :: cc.key)) (.slice A9 ((packTo N j).length + 1 + nk) d9) w9 from ⟨by
            have e : packTo N j ++ [UInt8.ofNat nk] ++ cc.key = packTo N j ++ (UInt8.ofNat nk :: cc.key) := by simp
            rw [e] at hown9
            have e2 : (packTo N j ++ (UInt8.ofNat nk :: cc.key)).length = (packTo N j).length + 1 + nk := by simp; omega
            rw [e2]; exact hown9, hb9, c9, n9⟩)
          clear hown9 hb9 c9 n9 hg9 hv9 hown8 hb8 hg8 hv8 c8 n8 s8 s0 q1 HA HF o5 c5 n5 b5
          go_wp2_with fail
          go_meet
          exact Hm
      case rest =>
        have Hm := hcut
        clear s0 q1 HA HF o5 c5 n5 b5
        obtain ⟨A9, d9, rfl, hd9, _⟩ := own_form Hm.out.1
        have hL9 : (packTo N j ++ (UInt8.ofNat nk :: cc.key)).length ≤ 40000000 := by simp; omega
        generalize hl1 : packTo N j ++ (UInt8.ofNat nk :: cc.key) = l1 at *
        have Hl1 := Lib.hid hl1
        clear hl1
        have s1 : wc.cell? ⟨g5, 1, none⟩ = some (.slice Av nv cv) := Hm.out.2.2.1.cell 1
        have s2 : wc.cell? ⟨g5, 2, none⟩ = some (.int .i64 cc.over) := Hm.out.2.2.1.cell 2
        have s3 : wc.cell? ⟨g5, 3, none⟩ = some (.int .i64 cc.long) := Hm.out.2.2.1.cell 3
        have t0 : wc.cell? ⟨w.heap.size, 0, none⟩ = some (.bool true) := Hm.out.2.2.2.cell 0
        by_cases h0 : cc.over = 0
        · have Hput := Lib.hid (show ∀ W, W = (wc.alloc (.cells #[.int .i64 (nv : Int)] 3)).drew → Calls Tryd.prog 52 #[.slice A9 l1.length d9, .int .i64 2, .slice (some ⟨wc.heap.size, 0, none⟩) 1 1] W fun e w' => ∃ v, e = .returned v ∧ PkM w g5 #[.slice Ak nk ck, .slice Av nv cv, .int .i64 cc.over, .int .i64 cc.long] #[.bool true, .slice (some ⟨b, o, none⟩) n c, .slice K m d] (l1 ++ leB (nv : Int) 2) v w' ∧ Below W.heap.size W w' from by
            intro W hW
            subst hW
            exact PkM.put (x := 2) (Hm.out.alloc (.cells #[.int .i64 (nv : Int)] 3)).drew rfl (by omega) (by decide) (Rd.drew ((Rd.oneI wc 3 (nv : Int)).more (by show _ ≤ (wc.alloc _).heap.size; simp))))
          have hz : (cc.over == 0) = true := by simpa using h0
          have hfin : packTo N (j + 1) = l1 ++ leB (nv : Int) 2 ++ cc.val := by
            rw [Hpc.out, ← Hl1.out]
            unfold packC
            rw [if_neg (by simp), if_pos h0, hkl, hvl]
            simp
          have Hfin := Lib.hid hfin
          have hnv : nv ≤ 64 := by rcases Hck.out with h | h <;> omega
          have hL2 : (l1 ++ leB (nv : Int) 2).length ≤ 50000000 := by rw [List.length_append, leB_length]; omega
          generalize l1 ++ leB (nv : Int) 2 = l2 at *
          have s1' : (wc.alloc (.cells #[.int .i64 (nv : Int)] 3)).cell? ⟨g5, 1, none⟩ = some (.slice Av nv cv) := (Hm.out.alloc _).2.2.1.cell 1
          clear hfin h0 s3
          go_wp2_with fail
          go_region_law (first
            | (go_simp; go_at_call 52; refine (Hput.out _ (by rfl)).mono ?_; rintro e w10 ⟨v10, rfl, hm10, _⟩; obtain ⟨A10, d10, rfl, _, _⟩ := own_form hm10.1; have s10 : w10.cell? ⟨g5, 1, none⟩ = some (.slice Av nv cv) := hm10.2.2.1.cell 1)
            | (refine ap_step (v := .slice A10 l2.length d10) (n := l2.length) (xs := l2) (news := cc.val) (A := Av) (m := nv) (c := cv) (B := w.heap.size) (base := w.heap.size) (w0 := w) hm10.1 (Hrv.out.below hm10.2.1 (Nat.le_refl _)) hm10.2.1 hm10.2.1.size (by omega) (by rfl) (by rfl) ?_; intro v11 w11 hown11 hb11 hg11 hv11; have n11 := Bk.grow hm10.2.2.2 hm10.1 hg11 (by decide); obtain ⟨A11, d11, rfl, _, _⟩ := own_form hown11))
          all_goals
            have Hn := Lib.hid (show w11.ownsRow w.heap.size 5 1 (.slice A11 (l2.length + nv) d11) (packTo N (j + 1)).length (bys (packTo N (j + 1))) ∧ Below w.heap.size w w11 ∧ Bk w11 w.heap.size 27 #[.bool true, .slice (some ⟨b, o, none⟩) n c, .slice K m d] from by
              rw [Hfin.out]
              have e2 : (l2 ++ cc.val).length = l2.length + nv := by rw [List.length_append (bs := cc.val), hvl]
              rw [e2]
              exact ⟨hown11, hb11, n11⟩)
            clear hm10 s10 hown11 hb11 hg11 hv11 n11 Hput
            go_wp2_with fail
            go_roundw
            case rel => exact ⟨j + 1, by go_num, by omega, Hn⟩
            case measure => simp [intOf]; omega
        · have hz : (cc.over == 0) = false := by simpa using h0
          have hfin : packTo N (j + 1) = l1 ++ leB cc.long 2 ++ leB cc.over 3 := by
            rw [Hpc.out, ← Hl1.out]
            unfold packC
            rw [if_neg (by simp), if_neg h0, hkl]
            simp
          have Hfin := Lib.hid hfin
          clear hfin h0 Hpc Hck Hl1
          generalize cc.over = ov at *
          generalize cc.long = lo at *
          obtain ⟨l2, hl2⟩ : ∃ l2, l1 ++ leB lo 2 = l2 := ⟨_, rfl⟩
          have hL2 : l2.length ≤ 50000000 := by rw [← hl2, List.length_append, leB_length]; omega
          rw [hl2] at Hfin
          have Hl2 := Lib.hid hl2
          clear hl2
          have HPa := Lib.hid (show Calls Tryd.prog 52 #[.slice A9 l1.length d9, .int .i64 2, .slice (some ⟨wc.heap.size, 0, none⟩) 1 1] (wc.alloc (.cells #[.int .i64 lo] 3)).drew fun e w' => ∃ v, e = .returned v ∧ PkM w g5 #[.slice Ak nk ck, .slice Av nv cv, .int .i64 ov, .int .i64 lo] #[.bool true, .slice (some ⟨b, o, none⟩) n c, .slice K m d] l2 v w' ∧ Below (wc.alloc (.cells #[.int .i64 lo] 3)).drew.heap.size (wc.alloc (.cells #[.int .i64 lo] 3)).drew w' from by
            rw [← Hl2.out]
            exact PkM.put (x := 2) (Hm.out.alloc (.cells #[.int .i64 lo] 3)).drew rfl (by omega) (by decide) (Rd.drew ((Rd.oneI wc 3 lo).more (by show _ ≤ (wc.alloc _).heap.size; simp))))
          have HPb := Lib.hid (show Calls Tryd.prog 52 #[.slice A9 l1.length d9, .int .i64 2, .slice (some ⟨wc.heap.size, 0, none⟩) 1 1] ((wc.alloc (.cells #[.int .i64 lo] 3)).alloc (.cells #[.int .i64 ov] 3)).drew fun e w' => ∃ v, e = .returned v ∧ PkM w g5 #[.slice Ak nk ck, .slice Av nv cv, .int .i64 ov, .int .i64 lo] #[.bool true, .slice (some ⟨b, o, none⟩) n c, .slice K m d] l2 v w' ∧ Below ((wc.alloc (.cells #[.int .i64 lo] 3)).alloc (.cells #[.int .i64 ov] 3)).drew.heap.size ((wc.alloc (.cells #[.int .i64 lo] 3)).alloc (.cells #[.int .i64 ov] 3)).drew w' from by
            rw [← Hl2.out]
            exact PkM.put (x := 2) ((Hm.out.alloc (.cells #[.int .i64 lo] 3)).alloc (.cells #[.int .i64 ov] 3)).drew rfl (by omega) (by decide) (Rd.drew (((Rd.oneI wc 3 lo).alloc (by simp) _).more (by show _ ≤ ((wc.alloc _).alloc _).heap.size; simp))))
          have HPc := Lib.hid (show Calls Tryd.prog 52 #[.slice A9 l1.length d9, .int .i64 2, .slice (some ⟨wc.heap.size + 1, 0, none⟩) 1 1] ((wc.alloc (.cells #[.int .i64 ov] 3)).alloc (.cells #[.int .i64 lo] 3)).drew fun e w' => ∃ v, e = .returned v ∧ PkM w g5 #[.slice Ak nk ck, .slice Av nv cv, .int .i64 ov, .int .i64 lo] #[.bool true, .slice (some ⟨b, o, none⟩) n c, .slice K m d] l2 v w' ∧ Below ((wc.alloc (.cells #[.int .i64 ov] 3)).alloc (.cells #[.int .i64 lo] 3)).drew.heap.size ((wc.alloc (.cells #[.int .i64 ov] 3)).alloc (.cells #[.int .i64 lo] 3)).drew w' from by
            rw [← Hl2.out]
            exact PkM.put (x := 2) ((Hm.out.alloc (.cells #[.int .i64 ov] 3)).alloc (.cells #[.int .i64 lo] 3)).drew rfl (by omega) (by decide) (Rd.drew ((show Rd ((wc.alloc (.cells #[.int .i64 ov] 3)).alloc (.cells #[.int .i64 lo] 3)) (wc.heap.size + 1 + 1) 1 (some ⟨wc.heap.size + 1, 0, none⟩) 1 (its [lo]) from by have := Rd.oneI (wc.alloc (.cells #[.int .i64 ov] 3)) 3 lo; simpa using this).more (by show _ ≤ ((wc.alloc _).alloc _).heap.size; simp))))
          have HRb := Lib.hid (show ∀ w', Below ((wc.alloc (.cells #[.int .i64 lo] 3)).alloc (.cells #[.int .i64 ov] 3)).drew.heap.size ((wc.alloc (.cells #[.int .i64 lo] 3)).alloc (.cells #[.int .i64 ov] 3)).drew w' → Rd w' w'.heap.size 1 (some ⟨wc.heap.size + 1, 0, none⟩) 1 (its [ov]) from by
            intro w' hb
            have h1 : Rd ((wc.alloc (.cells #[.int .i64 lo] 3)).alloc (.cells #[.int .i64 ov] 3)) (wc.heap.size + 1 + 1) 1 (some ⟨wc.heap.size + 1, 0, none⟩) 1 (its [ov]) := by have := Rd.oneI (wc.alloc (.cells #[.int .i64 lo] 3)) 3 ov; simpa using this
            exact ((Rd.drew h1).below hb (by show _ ≤ ((wc.alloc _).alloc _).heap.size; simp)).more (Nat.le_trans (by show _ ≤ ((wc.alloc _).alloc _).heap.size; simp) hb.size))
          have HRc := Lib.hid (show ∀ w', Below ((wc.alloc (.cells #[.int .i64 ov] 3)).alloc (.cells #[.int .i64 lo] 3)).drew.heap.size ((wc.alloc (.cells #[.int .i64 ov] 3)).alloc (.cells #[.int .i64 lo] 3)).drew w' → Rd w' w'.heap.size 1 (some ⟨wc.heap.size, 0, none⟩) 1 (its [ov]) from by
            intro w' hb
            have h1 : Rd ((wc.alloc (.cells #[.int .i64 ov] 3)).alloc (.cells #[.int .i64 lo] 3)) (wc.heap.size + 1) 1 (some ⟨wc.heap.size, 0, none⟩) 1 (its [ov]) := (Rd.oneI wc 3 ov).alloc (by simp) _
            exact ((Rd.drew h1).below hb (by show _ ≤ ((wc.alloc _).alloc _).heap.size; simp)).more (Nat.le_trans (by show _ ≤ ((wc.alloc _).alloc _).heap.size; simp) hb.size))
          have s2' : (wc.alloc (.cells #[.int .i64 lo] 3)).cell? ⟨g5, 2, none⟩ = some (.int .i64 ov) := (Hm.out.alloc _).2.2.1.cell 2
          have s3' : (wc.alloc (.cells #[.int .i64 ov] 3)).cell? ⟨g5, 3, none⟩ = some (.int .i64 lo) := (Hm.out.alloc _).2.2.1.cell 3
          clear s1
          go_wp2_with fail
          go_region_law (first
            | (go_simp; go_at_call 52; (with_reducible refine HPa.out.mono ?_); rintro e w10 ⟨v10, rfl, hm10, hb10⟩; obtain ⟨A10, d10, rfl, _, _⟩ := own_form hm10.1; have s10 : w10.cell? ⟨g5, 2, none⟩ = some (.int .i64 ov) := hm10.2.2.1.cell 2; have HP2 := Lib.hid (show Calls Tryd.prog 52 #[.slice A10 l2.length d10, .int .i64 3, .slice (some ⟨w10.heap.size, 0, none⟩) 1 1] (w10.alloc (.cells #[.int .i64 ov] 3)) fun e w' => ∃ v, e = .returned v ∧ PkM w g5 #[.slice Ak nk ck, .slice Av nv cv, .int .i64 ov, .int .i64 lo] #[.bool true, .slice (some ⟨b, o, none⟩) n c, .slice K m d] (l2 ++ leB ov 3) v w' ∧ Below (w10.alloc (.cells #[.int .i64 ov] 3)).heap.size (w10.alloc (.cells #[.int .i64 ov] 3)) w' from PkM.put (x := 3) (hm10.alloc (.cells #[.int .i64 ov] 3)) rfl (by omega) (by decide) ((Rd.oneI w10 3 ov).more (by simp))))
            | (go_simp; go_at_call 52; (with_reducible refine HPb.out.mono ?_); rintro e w10 ⟨v10, rfl, hm10, hb10⟩; have r10 := HRb.out w10 hb10; obtain ⟨A10, d10, rfl, _, _⟩ := own_form hm10.1; have HP2 := Lib.hid (show Calls Tryd.prog 52 #[.slice A10 l2.length d10, .int .i64 3, .slice (some ⟨wc.heap.size + 1, 0, none⟩) 1 1] w10 fun e w' => ∃ v, e = .returned v ∧ PkM w g5 #[.slice Ak nk ck, .slice Av nv cv, .int .i64 ov, .int .i64 lo] #[.bool true, .slice (some ⟨b, o, none⟩) n c, .slice K m d] (l2 ++ leB ov 3) v w' ∧ Below w10.heap.size w10 w' from PkM.put (x := 3) hm10 rfl (by omega) (by decide) r10))
            | (go_simp; go_at_call 52; (with_reducible refine HPc.out.mono ?_); rintro e w10 ⟨v10, rfl, hm10, hb10⟩; have r10 := HRc.out w10 hb10; obtain ⟨A10, d10, rfl, _, _⟩ := own_form hm10.1; have HP2 := Lib.hid (show Calls Tryd.prog 52 #[.slice A10 l2.length d10, .int .i64 3, .slice (some ⟨wc.heap.size, 0, none⟩) 1 1] w10 fun e w' => ∃ v, e = .returned v ∧ PkM w g5 #[.slice Ak nk ck, .slice Av nv cv, .int .i64 ov, .int .i64 lo] #[.bool true, .slice (some ⟨b, o, none⟩) n c, .slice K m d] (l2 ++ leB ov 3) v w' ∧ Below w10.heap.size w10 w' from PkM.put (x := 3) hm10 rfl (by omega) (by decide) r10))
            | (go_simp; go_at_call 52; (with_reducible refine HP2.out.mono ?_); rintro e w11 ⟨v11, rfl, hm11, hb11⟩; obtain ⟨A11, d11, rfl, _, _⟩ := own_form hm11.1))
          all_goals
            have Hn := Lib.hid (show w11.ownsRow w.heap.size 5 1 (.slice A11 (l2 ++ leB ov 3).length d11) (packTo N (j + 1)).length (bys (packTo N (j + 1))) ∧ Below w.heap.size w w11 ∧ Bk w11 w.heap.size 27 #[.bool true, .slice (some ⟨b, o, none⟩) n c, .slice K m d] from by
              rw [Hfin.out]
              exact ⟨hm11.1, hm11.2.1, hm11.2.2.2⟩)
            clear hm10 hm11 hb10 hb11 HPa HPb HPc HRb HRc
            go_wp2_with fail
            go_roundw
            case rel => exact ⟨j + 1, by go_num, by omega, by first | exact Hn | (rw [← List.length_append]; exact Hn)⟩
            case measure => simp [intOf]; omega
    · obtain rfl : n = j := by omega
      obtain ⟨Ab, cb, rfl, hcb, _⟩ := own_form hown
      have hown' : wr.ownsRow w.heap.size 5 1 (.slice Ab (packTo N n).length cb) (packN N).length (bys (packN N)) := by unfold packN; rw [Hcl.out]; exact hown
      have Hown := Lib.hid hown'
      have Hbw := Lib.hid hbw
      clear hown hown' hbw hbk
      go_wp2_with fail
      go_ret
      exact ⟨_, rfl, Hown.out, Hbw.out⟩
end Go.Proofs.YtelaliokmmaopaaDoor
