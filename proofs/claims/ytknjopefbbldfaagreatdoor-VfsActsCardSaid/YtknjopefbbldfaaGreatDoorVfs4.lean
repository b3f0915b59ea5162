/- Contracts of package vfs: put. -/
import Derived.Test.YtknjopefbbldfaaGreatDoorVfs3
import Derived.IntWalk
import Derived.Deep.CutBlock
import Derived.Deep.DeepCutAuto
namespace Go.Proofs.YtknjopefbbldfaaGreatDoor
open Go.RowKit
attribute [local go_sem ↓] Go.wp_at_zero Go.wp_at_succ

/-- Bytes that lie in one block. -/
def Rs (W : World) (b0 : Nat) (A : Option Addr) (l : List UInt8) : Prop :=
  0 < l.length → ∃ o, A = some ⟨b0, o, none⟩ ∧ ∀ j u, l[j]? = some u → W.cell? ⟨b0, o + j, none⟩ = some (.int .u8 (u.toNat : Int))
theorem Rs.heap {W W' : World} {b0 : Nat} {A : Option Addr} {l : List UInt8} (h : Rs W b0 A l) (hk : W'.heap[b0]? = W.heap[b0]?) : Rs W' b0 A l := fun h0 => by
  obtain ⟨o, h1, h2⟩ := h h0
  exact ⟨o, h1, fun j u hj => (World.cell?_of_block (w := W) hk).trans (h2 j u hj)⟩
theorem Rs.cut {W : World} {b0 : Nat} {A A' : Option Addr} {l : List UInt8} (h : Rs W b0 A l) {k : Nat} (hA : k < l.length → A' = A.map (·.add k)) : Rs W b0 A' (l.drop k) := fun h0 => by
  rw [List.length_drop] at h0
  obtain ⟨o, h1, h2⟩ := h (by omega)
  subst h1
  refine ⟨o + k, by rw [hA (by omega)]; simp [addLit], fun j u hj => ?_⟩
  rw [List.getElem?_drop] at hj
  rw [Nat.add_assoc]
  exact h2 _ u hj
theorem at_copy {P : Program} {w : World} {ops : Array Oper} {rest : List Oper} {a : Act} {Q : Exit → Act → World → Prop} {d : Option Tmp} {ty : TypeId} {pos : String} {af : Array Edge} {g : Option (Nat × Bool)} {xs : Array Operand} {ts : Array TypeId}
    (h : wpList P ops Q ({ dst := d, op := .call { callee := .builtin .copy, args := xs, argTypes := ts }, type := ty, pos := pos, after := af, guard := g } :: rest) a w) : wpList P ops Q ({ dst := d, op := .call { callee := .builtin .copy, args := xs, argTypes := ts }, type := ty, pos := pos, after := af, guard := g } :: rest) a w := h
/-- copy of bytes into the middle of a block. -/
theorem cp_any {w : World} {ops : Array Oper} {rest : List Oper} {a : Act} {Q : Exit → Act → World → Prop} {d : Option Tmp} {ty : TypeId} {pos : String} {af : Array Edge} {g0 : Option (Nat × Bool)} {s x : Operand}
    {g o m cd b0 c : Nat} {t : TypeId} {cs : Array Value} {A : Option Addr} {l : List UInt8} (hb : Bk w g t cs) (hr : Rs w b0 A l) (k : Nat) (hk : k = Nat.min l.length m) (hfit : o + k ≤ cs.size) (h0 : 0 < k)
    (hs : a.eval s = .slice (some ⟨g, o, none⟩) m cd) (hx : a.eval x = .slice A l.length c)
    (hw : Region.wanted { dst := d, op := .call { callee := .builtin .copy, args := #[s, x], argTypes := #[29, 29] }, type := ty, pos := pos, after := af, guard := g0 } (yielded ops a.tmps) = true)
    (h : wpList Tryz.prog ops Q rest (a.put d (.int .i64 (k : Int))) (w.setCells g o (bys (l.take k)))) :
    wpList Tryz.prog ops Q ({ dst := d, op := .call { callee := .builtin .copy, args := #[s, x], argTypes := #[29, 29] }, type := ty, pos := pos, after := af, guard := g0 } :: rest) a w :=
  BigFrame.wpList_want hw fun _ hK' => by
    have hlk : (bys (l.take k)).length = k := by rw [bys_len, List.length_take, hk]; exact Nat.min_eq_left (Nat.min_le_left _ _)
    obtain ⟨o', rfl, h2⟩ := hr (by have : k ≤ l.length := by rw [hk]; exact Nat.min_le_left _ _
                                   omega)
    have hrun := run_copy_cells (P := Tryz.prog) w 29 29 ty 5 g o m cd ⟨b0, o', none⟩ l.length c (bys (l.take k)) Tryz.underlying29 infoSzB (by rw [hlk, hk])
      (fun j v hj => by
        rw [addLit]
        unfold bys at hj
        rw [List.getElem?_map, Option.map_eq_some_iff] at hj
        obtain ⟨u, hu, rfl⟩ := hj
        rw [List.getElem?_take] at hu
        split at hu
        · exact h2 j u hu
        · cases hu)
      (fun j hj => hb.isSome (by rw [hlk] at hj; omega)) (fun j _ => hb.free _) (bys_one _)
    rw [hlk] at hrun
    unfold Oper.wp execOp
    simp only [resolve, invoke, builtin, Sem.run_bind, Sem.run_pure, Result.andThen_ok, List.map_toArray, List.map_cons, List.map_nil, hs, hx, hrun, goInt]
    exact hK' _ _ h
theorem byP_put {x : FlP} {p : Nat} {l : List UInt8} (h : p + l.length ≤ x.B.length) (i : Nat) : byP (putP x p l).B i = if p ≤ i ∧ i < p + l.length then l[i - p]?.getD 0 else byP x.B i := by
  unfold byP putP
  have h1 : (x.B.take p).length = p := by rw [List.length_take]; omega
  by_cases h2 : i < p
  · rw [if_neg (by omega), List.getElem?_append_left (by omega), List.getElem?_take_of_lt h2]
  · rw [List.getElem?_append_right (by omega), h1]
    by_cases h3 : i < p + l.length
    · rw [if_pos (by omega), List.getElem?_append_left (by omega)]
    · rw [if_neg (by omega), List.getElem?_append_right (by omega), List.getElem?_drop]
      congr 2
      omega
theorem putP_len {x : FlP} {p : Nat} {l : List UInt8} (h : p + l.length ≤ x.B.length) : (putP x p l).B.length = x.B.length := by
  unfold putP
  simp only [List.length_append, List.length_take, List.length_drop]
  omega
theorem putP_wlen (x : FlP) (p : Nat) (l : List UInt8) : (putP x p l).W.length = x.W.length := by simp [putP, markW]
theorem put_W {x : FlP} {p : Nat} {l : List UInt8} {k : Nat} (hk : k < x.W.length) : (putP x p l).W[k]?.getD false = (x.W[k]?.getD false || (decide (64 * k < p + l.length) && decide (p < 64 * k + 64) && decide (p < p + l.length))) := by
  simp [putP, markW, List.getElem?_mapIdx, hk]
theorem putP_nil {x : FlP} (p : Nat) : putP x p [] = x := by
  cases x
  simp [putP, markW]
  exact List.ext_getElem? (fun i => by simp)
theorem putP_wf {x : FlP} (h : x.WF) {p : Nat} {l : List UInt8} (hp : p + l.length ≤ x.B.length) : (putP x p l).WF :=
  ⟨by rw [putP_wlen, putP_len hp]; exact h.w, by rw [putP_wlen]; exact h.o⟩
/-- One step of putting, cell by cell. -/
theorem cell_put {x : FlP} {p d k P : Nat} {bs : List UInt8} {cs : Array Value} (hP : P = p + d) (h : p + bs.length ≤ x.B.length) (hk0 : 0 < k) (hk : d + k ≤ bs.length) (h64 : P % 64 + k ≤ 64) (hcs : x.W.length * 129 ≤ cs.size)
    (hc : ∀ k, k < x.W.length → ∀ r, r < 129 → cs[k * 129 + r]? = some (cellK (putP x p (bs.take d)) k r)) {j r : Nat} (hj : j < x.W.length) (hr : r < 129) :
    ((putA cs (P / 64 * 129 + P % 64) (bys ((bs.drop d).take k))).setIfInBounds (P / 64 * 129 + 128) (.bool true))[j * 129 + r]? = some (cellK (putP x p (bs.take (d + k))) j r) := by
  have l1 : (bs.take d).length = d := by rw [List.length_take]; omega
  have l2 : (bs.take (d + k)).length = d + k := by rw [List.length_take]; omega
  have l3 : ((bs.drop d).take k).length = k := by rw [List.length_take, List.length_drop]; omega
  have lb : (bys ((bs.drop d).take k)).length = k := by rw [bys_len, l3]
  by_cases hA : j * 129 + r = P / 64 * 129 + 128
  · have e1 : j = P / 64 := by omega
    have e2 : r = 128 := by omega
    rw [hA, Array.getElem?_setIfInBounds_self, putA_size, if_pos (by omega)]
    unfold cellK
    rw [if_neg (by omega), if_neg (by omega), put_W hj, l2]
    have : (decide (64 * j < p + (d + k)) && decide (p < 64 * j + 64) && decide (p < p + (d + k))) = true := by
      simp only [Bool.and_eq_true, decide_eq_true_eq]; omega
    rw [this, Bool.or_true]
  · rw [Array.getElem?_setIfInBounds_ne (by omega)]
    by_cases hB : P / 64 * 129 + P % 64 ≤ j * 129 + r ∧ j * 129 + r < P / 64 * 129 + P % 64 + k
    · have e1 : j = P / 64 := by omega
      rw [putA_get, lb, if_pos (by omega)]
      unfold cellK
      rw [if_pos (by omega), byP_put (by rw [l2]; omega), l2, if_pos (by omega)]
      unfold bys
      rw [List.getElem?_map, List.getElem?_take_of_lt (by omega), List.getElem?_drop, List.getElem?_take_of_lt (by omega)]
      have e3 : d + (j * 129 + r - (P / 64 * 129 + P % 64)) = 64 * j + r - p := by omega
      rw [e3]
      have hlt : 64 * j + r - p < bs.length := by omega
      rw [List.getElem?_eq_getElem hlt]
      rfl
    · rw [putA_out (by rw [lb]; omega), hc j hj r hr]
      unfold cellK
      by_cases h1 : r < 64
      · rw [if_pos h1, if_pos h1, byP_put (by rw [l1]; omega), byP_put (by rw [l2]; omega), l1, l2]
        by_cases h2 : p ≤ 64 * j + r ∧ 64 * j + r < p + d
        · rw [if_pos h2, if_pos (by omega), List.getElem?_take_of_lt (by omega), List.getElem?_take_of_lt (by omega)]
        · rw [if_neg h2, if_neg (by omega)]
      · by_cases h2 : r < 128
        · rw [if_neg h1, if_pos h2, if_neg h1, if_pos h2]; rfl
        · rw [if_neg h1, if_neg h2, if_neg h1, if_neg h2, put_W hj, put_W hj, l1, l2]
          have : (decide (64 * j < p + d) && decide (p < 64 * j + 64) && decide (p < p + d)) = (decide (64 * j < p + (d + k)) && decide (p < 64 * j + 64) && decide (p < p + (d + k))) := by
            rw [Bool.eq_iff_iff]
            simp only [Bool.and_eq_true, decide_eq_true_eq]
            omega
          rw [this]
theorem secE : Tryz.prog.elem 79 = 5 := by kernel_rfl
theorem secL : Tryz.prog.arrayLen 79 = 64 := by kernel_rfl
theorem secU : Tryz.prog.underlying 79 = some (.array (Tryz.prog.arrayLen 79) (Tryz.prog.elem 79)) := by kernel_rfl
/-- A sector from a place on, as a slice. -/
theorem slice_sec {w : World} {ops : Array Oper} {rest : List Oper} {a : Act} {Q : Exit → Act → World → Prop} {d : Option Tmp} {ty : TypeId} {pos : String} {af : Array Edge} {g0 : Option (Nat × Bool)} {s lo : Operand}
    {g o : Nat} {kl : IntKind} {xl : Int} (r : Nat) (hr : r < 64) (hs : a.eval s = .pointer (some ⟨g, o, none⟩)) (hl : a.eval lo = .int kl xl) (el : xl = (r : Int))
    (hw : Region.wanted { dst := d, op := .slice 79 s (some lo) none none, type := ty, pos := pos, after := af, guard := g0 } (yielded ops a.tmps) = true)
    (h : wpList Tryz.prog ops Q rest (a.put d (.slice (some ⟨g, o + r, none⟩) (64 - r) (64 - r))) w) :
    wpList Tryz.prog ops Q ({ dst := d, op := .slice 79 s (some lo) none none, type := ty, pos := pos, after := af, guard := g0 } :: rest) a w :=
  BigFrame.wpList_want hw fun _ hK => by
    subst el
    have hrun := run_sliceAt_array_l (P := Tryz.prog) w 79 ⟨g, o, none⟩ secU kl (r : Int) (by omega) (by rw [secL]; omega)
    rw [secE, secL, Tryz.sizeOf5 w] at hrun
    simp only [Result.andThen_ok, slicedAt, Int.toNat_natCast] at hrun
    rw [if_neg (by omega), addLit, Nat.mul_one] at hrun
    unfold Oper.wp execOp
    simp only [Option.map_some, Option.map_none, hs, hl, Sem.run_bind, hrun, Sem.run_pure, Result.andThen_ok, Oper.upon_value]
    exact hK _ _ h
set_option maxHeartbeats 4000000 in
set_option maxRecDepth 100000 in
theorem put_any (b g b0 p n c : Nat) (sv : Value) (x : FlP) (bs : List UInt8) (A : Option Addr) (w : World) (h : FlM w b g sv x) (hw : x.WF) (hp : p + bs.length ≤ x.B.length) (hB : x.B.length ≤ 5000000) (hn : n = bs.length) (hnc : n ≤ c) (hc : c ≤ maxLen) (hs : Rs w b0 A bs) (hb0 : b0 ≠ g) :
    Calls Tryz.prog 43 #[.pointer (some ⟨b, 0, none⟩), .int .i64 (p : Int), .slice A n c] w fun e w' => e = .returned (.tuple #[]) ∧ FlM w' b g sv (putP x p bs) ∧ Ch (fun i => 0 < x.W.length ∧ i = g) w w' := by
  have H := Lib.hid h
  have HW := Lib.hid hw
  have HS := Lib.hid hs
  have HN := Lib.hid hn
  have HB := Lib.hid hb0
  clear h hw hs hb0 hn
  go_enter Tryz.func43, Tryz.ntmps43
  go_wp2_with fail
  go_loopw [1, 2] (fun s1 s2 wr => ∃ (d c' : Nat) (A' : Option Addr), s1 = .int .i64 ((p + d : Nat) : Int) ∧ s2 = .slice A' (n - d) c' ∧ d ≤ n ∧ n - d ≤ c' ∧ c' ≤ maxLen ∧ Hid (Rs wr b0 A' (bs.drop d) ∧ FlM wr b g sv (putP x p (bs.take d)) ∧ Ch (fun i => 0 < x.W.length ∧ i = g) w wr)) (fun _ s2 _ => lenS s2)
  case atStart => exact ⟨0, c, A, by simp, by simp, Nat.zero_le _, by omega, hc, Lib.hid ⟨HS.out, by rw [List.take_zero, putP_nil]; exact H.out, Ch.refl _ _⟩⟩
  case round =>
    obtain ⟨d, c', A', rfl, rfl, hd, hc1, hc2, HR⟩ := hrel
    by_cases hlt : d < n
    · obtain ⟨P, hP⟩ : ∃ P, P = p + d := ⟨_, rfl⟩
      rw [← hP]
      have hPB : P < 5000000 := by have := HN.out; omega
      have hL : P / 64 < x.W.length := by
        have := needN_ge x.B.length
        rw [← HW.out.w] at this
        have := HN.out
        omega
      have hsl : SlQ wr sv g x.W.length (cellK (putP x p (bs.take d))) := by
        have := HR.out.2.1.sl
        rwa [show (putP x p (bs.take d)).W.length = x.W.length from by simp [putP, markW]] at this
      obtain ⟨cc, cs, rfl, z1, z2, z3, z4, z5⟩ := hsl.pos (by omega)
      have d0 : wr.cell? ⟨b, 0, none⟩ = some (.slice (some ⟨g, 0, none⟩) x.W.length cc) := HR.out.2.1.hd.cell 0
      have i1 : (P : Int) / 64 < (x.W.length : Int) := by omega
      have HZ := Lib.hid (And.intro z1 (And.intro z2 (And.intro z3 (And.intro z4 z5))))
      have HP := Lib.hid hP
      clear hP z1 z2 z3 z4 z5 hsl
      go_upto_region 1 with (fail)
      obtain ⟨k, hk⟩ : ∃ k, k = Nat.min (bs.drop d).length (64 - P % 64) := ⟨_, rfl⟩
      have hlen : (bs.drop d).length = n - d := by rw [List.length_drop, HN.out]
      have hk0 : 0 < k ∧ k ≤ n - d ∧ P % 64 + k ≤ 64 := by
        have h1 : 0 < n - d ∧ 0 < 64 - P % 64 := by omega
        rw [hk, hlen]
        exact ⟨Nat.lt_min.2 h1, Nat.min_le_left _ _, by have : Nat.min (n - d) (64 - P % 64) ≤ 64 - P % 64 := Nat.min_le_right _ _; omega⟩
      obtain ⟨hk0, hkn, hk64⟩ := hk0
      have Hk := Lib.hid hk
      have Hl := Lib.hid hlen
      have hlk : (bys ((bs.drop d).take k)).length = k := by rw [bys_len, List.length_take, hlen]; omega
      have hfit : P / 64 * 129 + P % 64 + k ≤ cs.size ∧ P / 64 * 129 + 128 < cs.size := by have := HZ.out.2.2.2.1; have := HZ.out.1; omega
      have HB2 := Lib.hid (HZ.out.2.2.1.cells (bys ((bs.drop d).take k)) (P / 64 * 129 + P % 64))
      obtain ⟨v4, k4⟩ := Option.isSome_iff_exists.1 (HB2.out.isSome (i := P / 64 * 129 + 128) (by rw [putA_size]; exact hfit.2))
      have k4f := HB2.out.free (P / 64 * 129 + 128)
      have HB3 := Lib.hid (HB2.out.set (P / 64 * 129 + 128) (.bool true))
      have HL := Lib.hid hlk
      have HF := Lib.hid hfit.1
      obtain ⟨PK, hPK⟩ : ∃ PK, PK = P + k := ⟨_, rfl⟩
      have e2 : (P : Int) + (k : Int) = (PK : Int) := by omega
      have HPK := Lib.hid hPK
      have e3 : (k : Int) ≤ ((n - d : Nat) : Int) := by omega
      clear hk hlen hlk hfit hPK
      go_wp2_with (first
        | (with_reducible refine at_slice ?_; (apply slice_sec (g := g) (o := P / 64 * 129) (kl := .i64) (xl := (P : Int) % 64) (P % 64)); (case hr => omega); (case hs => kernel_rfl); (case hl => kernel_rfl); (case el => omega); (case hw => kernel_rfl); try go_frame)
        | (with_reducible refine at_copy ?_; (apply cp_any (o := P / 64 * 129 + P % 64) (m := 64 - P % 64) (cd := 64 - P % 64) (c := c') HZ.out.2.2.1 HR.out.1 k Hk.out); (case hfit => exact HF.out); (case h0 => exact hk0); (case hs => kernel_rfl); (case hx => rw [Hl.out]; kernel_rfl); (case hw => kernel_rfl); try go_frame))
      have HC2 := Lib.hid (((Ch.refl (fun i => 0 < x.W.length ∧ i = g) wr).cells (b := g) (.inl ⟨by omega, rfl⟩) (bys ((bs.drop d).take k)) (P / 64 * 129 + P % 64)).set (p := ⟨g, P / 64 * 129 + 128, none⟩) (.inl ⟨by omega, rfl⟩) (.bool true))
      have HH := Lib.hid (show ∀ i, i ≠ g → ((wr.setCells g (P / 64 * 129 + P % 64) (bys ((bs.drop d).take k))).setCell ⟨g, P / 64 * 129 + 128, none⟩ (.bool true)).heap[i]? = wr.heap[i]? from fun i hi => (Below.heap_setCell _ _ _ i hi).trans (heap_setCells g _ _ wr i hi))
      generalize (wr.setCells g (P / 64 * 129 + P % 64) (bys (List.take k (List.drop d bs)))).setCell ⟨g, P / 64 * 129 + 128, none⟩ (.bool true) = w2 at *
      have HPB := Lib.hid (And.intro hPB (And.intro hL (And.intro hp hB)))
      clear d0 k4 k4f hPB hp hB i1
      go_quiet (fail)
      go_wp2_with fail
      go_roundw
      case rel =>
        have u1 := HPK.out
        have u2 := HP.out
        have u3 := HN.out
        have u4 := HPB.out
        have hbg : b ≠ g := Ne.symm (HR.out.2.1.ne (by rw [putP_wlen]; omega))
        have lt1 : (bs.take d).length = d := by rw [List.length_take]; omega
        have lt2 : (bs.take (d + k)).length = d + k := by rw [List.length_take]; omega
        refine ⟨d + k, c' - k, _, ?_, by rw [Nat.sub_sub], by omega, by omega, by omega, Lib.hid ⟨?_, ⟨?_, ?_⟩, HR.out.2.2.trans (HC2.out.drewN _) (fun i hi => .inl hi)⟩⟩
        · rw [IntWalk.wrap64_in _ (by omega)]; congr 1; omega
        · rw [← List.drop_drop]
          refine ((HR.out.1.heap (W' := w2) (HH.out b0 HB.out)).cut (k := k) (fun hlt2 => ?_)).heap rfl
          rw [if_neg (by rw [Hl.out] at hlt2; omega)]
        · have e5 := HR.out.2.1.hd
          rw [putP_len (by omega)] at e5 ⊢
          exact (HH.out b hbg).trans e5
        · rw [putP_wlen]
          have e6 := HZ.out
          exact ⟨_, _, rfl, e6.1, e6.2.1, .inr ⟨by omega, rfl, _, HB3.out.drewN _, by rw [Array.size_setIfInBounds, putA_size]; exact e6.2.2.2.1, fun j hj r hr => cell_put u2 (by omega) hk0 (by omega) hk64 (by omega) e6.2.2.2.2 hj hr⟩⟩
      case measure => simp only [lenS]; omega
    · have hdn : d = n := by omega
      subst hdn
      have e0 : d - d = 0 := Nat.sub_self d
      go_wp2_with fail
      go_end0
      refine ⟨rfl, ?_, HR.out.2.2⟩
      have := HR.out.2.1
      rwa [HN.out, List.take_length] at this
end Go.Proofs.YtknjopefbbldfaaGreatDoor
