/- Contracts of package vfs: put. -/
import Derived.Test.YtoadamkmabkldaaGreatDoorJn02
import Derived.IntWalk
import Derived.Deep.CutBlock
import Derived.Deep.DeepCutAuto
import Derived.Test.YtoadamkmabkldaaGreatDoorJn01
import Derived.Laws.BytesArg
import Derived.Laws.IdiomStrings
import Derived.Laws.OwnMore
import Derived.Deep.OwnRows
set_option linter.unusedVariables false
set_option linter.unusedSimpArgs false
namespace Go.Proofs.YtoadamkmabkldaaGreatDoor
open Go.RowKit
attribute [local go_sem ↓] Go.wp_at_zero Go.wp_at_succ

/-- Bytes that lie in one block. -/
def Rs (W : World) (b0 : Nat) (A : Option Addr) (l : List UInt8) : Prop :=
  0 < l.length → ∃ o, A = some ⟨b0, o, none⟩ ∧ ∀ j u, l[j]? = some u → W.cell? ⟨b0, o + j, none⟩ = some (.int .u8 (u.toNat : Int))
theorem Rs.heap {W W' : World} {b0 : Nat} {A : Option Addr} {l : List UInt8} (h : Rs W b0 A l) (hk : W'.heap[b0]? = W.heap[b0]?) : Rs W' b0 A l := fun h0 => by
  obtain ⟨o, h1, h2⟩ := h h0
  exact ⟨o, h1, fun j u hj => (World.cell?_of_block (w := W) hk).trans (h2 j u hj)⟩
theorem Rs.cut {W : World} {b0 : Nat} {A A' : Option Addr} {l : List UInt8} (h : Rs W b0 A l) {k : Nat} (hA : k < l.length → A' = A.map (·.add k)) : Rs W b0 A' (l.drop k) := fun h0 => by
  rw [List.length_drop] at h0
  obtain ⟨o, h1, h2⟩ := h (by omega)
  subst h1
  refine ⟨o + k, by rw [hA (by omega)]; simp [addLit], fun j u hj => ?_⟩
  rw [List.getElem?_drop] at hj
  rw [Nat.add_assoc]
  exact h2 _ u hj
theorem at_copy {P : Program} {w : World} {ops : Array Oper} {rest : List Oper} {a : Act} {Q : Exit → Act → World → Prop} {d : Option Tmp} {ty : TypeId} {pos : String} {af : Array Edge} {g : Option (Nat × Bool)} {xs : Array Operand} {ts : Array TypeId}
    (h : wpList P ops Q ({ dst := d, op := .call { callee := .builtin .copy, args := xs, argTypes := ts }, type := ty, pos := pos, after := af, guard := g } :: rest) a w) : wpList P ops Q ({ dst := d, op := .call { callee := .builtin .copy, args := xs, argTypes := ts }, type := ty, pos := pos, after := af, guard := g } :: rest) a w := h
/-- copy of bytes into the middle of a block. -/
theorem cp_any {w : World} {ops : Array Oper} {rest : List Oper} {a : Act} {Q : Exit → Act → World → Prop} {d : Option Tmp} {ty : TypeId} {pos : String} {af : Array Edge} {g0 : Option (Nat × Bool)} {s x : Operand}
    {g o m cd b0 c : Nat} {t : TypeId} {cs : Array Value} {A : Option Addr} {l : List UInt8} (hb : Bk w g t cs) (hr : Rs w b0 A l) (k : Nat) (hk : k = Nat.min l.length m) (hfit : o + k ≤ cs.size) (h0 : 0 < k)
    (hs : a.eval s = .slice (some ⟨g, o, none⟩) m cd) (hx : a.eval x = .slice A l.length c)
    (hw : Region.wanted { dst := d, op := .call { callee := .builtin .copy, args := #[s, x], argTypes := #[22, 22] }, type := ty, pos := pos, after := af, guard := g0 } (yielded ops a.tmps) = true)
    (h : wpList Tryz.prog ops Q rest (a.put d (.int .i64 (k : Int))) (w.setCells g o (bys (l.take k)))) :
    wpList Tryz.prog ops Q ({ dst := d, op := .call { callee := .builtin .copy, args := #[s, x], argTypes := #[22, 22] }, type := ty, pos := pos, after := af, guard := g0 } :: rest) a w :=
  BigFrame.wpList_want hw fun _ hK' => by
    have hlk : (bys (l.take k)).length = k := by rw [bys_len, List.length_take, hk]; exact Nat.min_eq_left (Nat.min_le_left _ _)
    obtain ⟨o', rfl, h2⟩ := hr (by have : k ≤ l.length := by rw [hk]; exact Nat.min_le_left _ _
                                   omega)
    have hrun := run_copy_cells (P := Tryz.prog) w 22 22 ty 5 g o m cd ⟨b0, o', none⟩ l.length c (bys (l.take k)) Tryz.underlying22 infoSzB (by rw [hlk, hk])
      (fun j v hj => by
        rw [addLit]
        unfold bys at hj
        rw [List.getElem?_map, Option.map_eq_some_iff] at hj
        obtain ⟨u, hu, rfl⟩ := hj
        rw [List.getElem?_take] at hu
        split at hu
        · exact h2 j u hu
        · cases hu)
      (fun j hj => hb.isSome (by rw [hlk] at hj; omega)) (fun j _ => hb.free _) (bys_one _)
    rw [hlk] at hrun
    unfold Oper.wp execOp
    simp only [resolve, invoke, builtin, Sem.run_bind, Sem.run_pure, Result.andThen_ok, List.map_toArray, List.map_cons, List.map_nil, hs, hx, hrun, goInt]
    exact hK' _ _ h
theorem byP_put {x : FlP} {p : Nat} {l : List UInt8} (h : p + l.length ≤ x.B.length) (i : Nat) : byP (putP x p l).B i = if p ≤ i ∧ i < p + l.length then l[i - p]?.getD 0 else byP x.B i := by
  unfold byP putP
  have h1 : (x.B.take p).length = p := by rw [List.length_take]; omega
  by_cases h2 : i < p
  · rw [if_neg (by omega), List.getElem?_append_left (by omega), List.getElem?_take_of_lt h2]
  · rw [List.getElem?_append_right (by omega), h1]
    by_cases h3 : i < p + l.length
    · rw [if_pos (by omega), List.getElem?_append_left (by omega)]
    · rw [if_neg (by omega), List.getElem?_append_right (by omega), List.getElem?_drop]
      congr 2
      omega
theorem putP_len {x : FlP} {p : Nat} {l : List UInt8} (h : p + l.length ≤ x.B.length) : (putP x p l).B.length = x.B.length := by
  unfold putP
  simp only [List.length_append, List.length_take, List.length_drop]
  omega
theorem putP_wlen (x : FlP) (p : Nat) (l : List UInt8) : (putP x p l).W.length = x.W.length := by simp [putP, markW]
theorem put_W {x : FlP} {p : Nat} {l : List UInt8} {k : Nat} (hk : k < x.W.length) : (putP x p l).W[k]?.getD false = (x.W[k]?.getD false || (decide (64 * k < p + l.length) && decide (p < 64 * k + 64) && decide (p < p + l.length))) := by
  simp [putP, markW, List.getElem?_mapIdx, hk]
theorem putP_nil {x : FlP} (p : Nat) : putP x p [] = x := by
  cases x
  simp [putP, markW]
  exact List.ext_getElem? (fun i => by simp)
theorem putP_wf {x : FlP} (h : x.WF) {p : Nat} {l : List UInt8} (hp : p + l.length ≤ x.B.length) : (putP x p l).WF :=
  ⟨by rw [putP_wlen, putP_len hp]; exact h.w, by rw [putP_wlen]; exact h.o⟩
/-- One step of putting, cell by cell. -/
theorem cell_put {x : FlP} {p d k P : Nat} {bs : List UInt8} {cs : Array Value} (hP : P = p + d) (h : p + bs.length ≤ x.B.length) (hk0 : 0 < k) (hk : d + k ≤ bs.length) (h64 : P % 64 + k ≤ 64) (hcs : x.W.length * 129 ≤ cs.size)
    (hc : ∀ k, k < x.W.length → ∀ r, r < 129 → cs[k * 129 + r]? = some (cellK (putP x p (bs.take d)) k r)) {j r : Nat} (hj : j < x.W.length) (hr : r < 129) :
    ((putA cs (P / 64 * 129 + P % 64) (bys ((bs.drop d).take k))).setIfInBounds (P / 64 * 129 + 128) (.bool true))[j * 129 + r]? = some (cellK (putP x p (bs.take (d + k))) j r) := by
  have l1 : (bs.take d).length = d := by rw [List.length_take]; omega
  have l2 : (bs.take (d + k)).length = d + k := by rw [List.length_take]; omega
  have l3 : ((bs.drop d).take k).length = k := by rw [List.length_take, List.length_drop]; omega
  have lb : (bys ((bs.drop d).take k)).length = k := by rw [bys_len, l3]
  by_cases hA : j * 129 + r = P / 64 * 129 + 128
  · have e1 : j = P / 64 := by omega
    have e2 : r = 128 := by omega
    rw [hA, Array.getElem?_setIfInBounds_self, putA_size, if_pos (by omega)]
    unfold cellK
    rw [if_neg (by omega), if_neg (by omega), put_W hj, l2]
    have : (decide (64 * j < p + (d + k)) && decide (p < 64 * j + 64) && decide (p < p + (d + k))) = true := by
      simp only [Bool.and_eq_true, decide_eq_true_eq]; omega
    rw [this, Bool.or_true]
  · rw [Array.getElem?_setIfInBounds_ne (by omega)]
    by_cases hB : P / 64 * 129 + P % 64 ≤ j * 129 + r ∧ j * 129 + r < P / 64 * 129 + P % 64 + k
    · have e1 : j = P / 64 := by omega
      rw [putA_get, lb, if_pos (by omega)]
      unfold cellK
      rw [if_pos (by omega), byP_put (by rw [l2]; omega), l2, if_pos (by omega)]
      unfold bys
      rw [List.getElem?_map, List.getElem?_take_of_lt (by omega), List.getElem?_drop, List.getElem?_take_of_lt (by omega)]
      have e3 : d + (j * 129 + r - (P / 64 * 129 + P % 64)) = 64 * j + r - p := by omega
      rw [e3]
      have hlt : 64 * j + r - p < bs.length := by omega
      rw [List.getElem?_eq_getElem hlt]
      rfl
    · rw [putA_out (by rw [lb]; omega), hc j hj r hr]
      unfold cellK
      by_cases h1 : r < 64
      · rw [if_pos h1, if_pos h1, byP_put (by rw [l1]; omega), byP_put (by rw [l2]; omega), l1, l2]
        by_cases h2 : p ≤ 64 * j + r ∧ 64 * j + r < p + d
        · rw [if_pos h2, if_pos (by omega), List.getElem?_take_of_lt (by omega), List.getElem?_take_of_lt (by omega)]
        · rw [if_neg h2, if_neg (by omega)]
      · by_cases h2 : r < 128
        · rw [if_neg h1, if_pos h2, if_neg h1, if_pos h2]; rfl
        · rw [if_neg h1, if_neg h2, if_neg h1, if_neg h2, put_W hj, put_W hj, l1, l2]
          have : (decide (64 * j < p + d) && decide (p < 64 * j + 64) && decide (p < p + d)) = (decide (64 * j < p + (d + k)) && decide (p < 64 * j + 64) && decide (p < p + (d + k))) := by
            rw [Bool.eq_iff_iff]
            simp only [Bool.and_eq_true, decide_eq_true_eq]
            omega
          rw [this]
theorem secE : Tryz.prog.elem 90 = 5 := by kernel_rfl
theorem secL : Tryz.prog.arrayLen 90 = 64 := by kernel_rfl
theorem secU : Tryz.prog.underlying 90 = some (.array (Tryz.prog.arrayLen 90) (Tryz.prog.elem 90)) := by kernel_rfl
/-- A sector from a place on, as a slice. -/
theorem slice_sec {w : World} {ops : Array Oper} {rest : List Oper} {a : Act} {Q : Exit → Act → World → Prop} {d : Option Tmp} {ty : TypeId} {pos : String} {af : Array Edge} {g0 : Option (Nat × Bool)} {s lo : Operand}
    {g o : Nat} {kl : IntKind} {xl : Int} (r : Nat) (hr : r < 64) (hs : a.eval s = .pointer (some ⟨g, o, none⟩)) (hl : a.eval lo = .int kl xl) (el : xl = (r : Int))
    (hw : Region.wanted { dst := d, op := .slice 90 s (some lo) none none, type := ty, pos := pos, after := af, guard := g0 } (yielded ops a.tmps) = true)
    (h : wpList Tryz.prog ops Q rest (a.put d (.slice (some ⟨g, o + r, none⟩) (64 - r) (64 - r))) w) :
    wpList Tryz.prog ops Q ({ dst := d, op := .slice 90 s (some lo) none none, type := ty, pos := pos, after := af, guard := g0 } :: rest) a w :=
  BigFrame.wpList_want hw fun _ hK => by
    subst el
    have hrun := run_sliceAt_array_l (P := Tryz.prog) w 90 ⟨g, o, none⟩ secU kl (r : Int) (by omega) (by rw [secL]; omega)
    rw [secE, secL, Tryz.sizeOf5 w] at hrun
    simp only [Result.andThen_ok, slicedAt, Int.toNat_natCast] at hrun
    rw [if_neg (by omega), addLit, Nat.mul_one] at hrun
    unfold Oper.wp execOp
    simp only [Option.map_some, Option.map_none, hs, hl, Sem.run_bind, hrun, Sem.run_pure, Result.andThen_ok, Oper.upon_value]
    exact hK _ _ h
set_option maxHeartbeats 4000000 in
set_option maxRecDepth 100000 in
theorem vput_any (b g b0 p n c : Nat) (sv : Value) (x : FlP) (bs : List UInt8) (A : Option Addr) (w : World) (h : FlM w b g sv x) (hw : x.WF) (hp : p + bs.length ≤ x.B.length) (hB : x.B.length ≤ 5000000) (hn : n = bs.length) (hnc : n ≤ c) (hc : c ≤ maxLen) (hs : Rs w b0 A bs) (hb0 : b0 ≠ g) :
    Calls Tryz.prog 99 #[.pointer (some ⟨b, 0, none⟩), .int .i64 (p : Int), .slice A n c] w fun e w' => e = .returned (.tuple #[]) ∧ FlM w' b g sv (putP x p bs) ∧ Ch (fun i => 0 < x.W.length ∧ i = g) w w' := by
  have H := Lib.hid h
  have HW := Lib.hid hw
  have HS := Lib.hid hs
  have HN := Lib.hid hn
  have HB := Lib.hid hb0
  clear h hw hs hb0 hn
  go_enter Tryz.func99, Tryz.ntmps99
  go_wp2_with fail
  go_loopw [1, 2] (fun s1 s2 wr => ∃ (d c' : Nat) (A' : Option Addr), s1 = .int .i64 ((p + d : Nat) : Int) ∧ s2 = .slice A' (n - d) c' ∧ d ≤ n ∧ n - d ≤ c' ∧ c' ≤ maxLen ∧ Hid (Rs wr b0 A' (bs.drop d) ∧ FlM wr b g sv (putP x p (bs.take d)) ∧ Ch (fun i => 0 < x.W.length ∧ i = g) w wr)) (fun _ s2 _ => lenS s2)
  case atStart => exact ⟨0, c, A, by simp, by simp, Nat.zero_le _, by omega, hc, Lib.hid ⟨HS.out, by rw [List.take_zero, putP_nil]; exact H.out, Ch.refl _ _⟩⟩
  case round =>
    obtain ⟨d, c', A', rfl, rfl, hd, hc1, hc2, HR⟩ := hrel
    by_cases hlt : d < n
    · obtain ⟨P, hP⟩ : ∃ P, P = p + d := ⟨_, rfl⟩
      rw [← hP]
      have hPB : P < 5000000 := by have := HN.out; omega
      have hL : P / 64 < x.W.length := by
        have := needN_ge x.B.length
        rw [← HW.out.w] at this
        have := HN.out
        omega
      have hsl : SlQ wr sv g x.W.length (cellK (putP x p (bs.take d))) := by
        have := HR.out.2.1.sl
        rwa [show (putP x p (bs.take d)).W.length = x.W.length from by simp [putP, markW]] at this
      obtain ⟨cc, cs, rfl, z1, z2, z3, z4, z5⟩ := hsl.pos (by omega)
      have d0 : wr.cell? ⟨b, 0, none⟩ = some (.slice (some ⟨g, 0, none⟩) x.W.length cc) := HR.out.2.1.hd.cell 0
      have i1 : (P : Int) / 64 < (x.W.length : Int) := by omega
      have HZ := Lib.hid (And.intro z1 (And.intro z2 (And.intro z3 (And.intro z4 z5))))
      have HP := Lib.hid hP
      clear hP z1 z2 z3 z4 z5 hsl
      go_upto_region 1 with (fail)
      obtain ⟨k, hk⟩ : ∃ k, k = Nat.min (bs.drop d).length (64 - P % 64) := ⟨_, rfl⟩
      have hlen : (bs.drop d).length = n - d := by rw [List.length_drop, HN.out]
      have hk0 : 0 < k ∧ k ≤ n - d ∧ P % 64 + k ≤ 64 := by
        have h1 : 0 < n - d ∧ 0 < 64 - P % 64 := by omega
        rw [hk, hlen]
        exact ⟨Nat.lt_min.2 h1, Nat.min_le_left _ _, by have : Nat.min (n - d) (64 - P % 64) ≤ 64 - P % 64 := Nat.min_le_right _ _; omega⟩
      obtain ⟨hk0, hkn, hk64⟩ := hk0
      have Hk := Lib.hid hk
      have Hl := Lib.hid hlen
      have hlk : (bys ((bs.drop d).take k)).length = k := by rw [bys_len, List.length_take, hlen]; omega
      have hfit : P / 64 * 129 + P % 64 + k ≤ cs.size ∧ P / 64 * 129 + 128 < cs.size := by have := HZ.out.2.2.2.1; have := HZ.out.1; omega
      have HB2 := Lib.hid (HZ.out.2.2.1.cells (bys ((bs.drop d).take k)) (P / 64 * 129 + P % 64))
      obtain ⟨v4, k4⟩ := Option.isSome_iff_exists.1 (HB2.out.isSome (i := P / 64 * 129 + 128) (by rw [putA_size]; exact hfit.2))
      have k4f := HB2.out.free (P / 64 * 129 + 128)
      have HB3 := Lib.hid (HB2.out.set (P / 64 * 129 + 128) (.bool true))
      have HL := Lib.hid hlk
      have HF := Lib.hid hfit.1
      obtain ⟨PK, hPK⟩ : ∃ PK, PK = P + k := ⟨_, rfl⟩
      have e2 : (P : Int) + (k : Int) = (PK : Int) := by omega
      have HPK := Lib.hid hPK
      have e3 : (k : Int) ≤ ((n - d : Nat) : Int) := by omega
      clear hk hlen hlk hfit hPK
      go_wp2_with (first
        | (with_reducible refine at_slice ?_; (apply slice_sec (g := g) (o := P / 64 * 129) (kl := .i64) (xl := (P : Int) % 64) (P % 64)); (case hr => omega); (case hs => kernel_rfl); (case hl => kernel_rfl); (case el => omega); (case hw => kernel_rfl); try go_frame)
        | (with_reducible refine at_copy ?_; (apply cp_any (o := P / 64 * 129 + P % 64) (m := 64 - P % 64) (cd := 64 - P % 64) (c := c') HZ.out.2.2.1 HR.out.1 k Hk.out); (case hfit => exact HF.out); (case h0 => exact hk0); (case hs => kernel_rfl); (case hx => rw [Hl.out]; kernel_rfl); (case hw => kernel_rfl); try go_frame))
      have HC2 := Lib.hid (((Ch.refl (fun i => 0 < x.W.length ∧ i = g) wr).cells (b := g) (.inl ⟨by omega, rfl⟩) (bys ((bs.drop d).take k)) (P / 64 * 129 + P % 64)).set (p := ⟨g, P / 64 * 129 + 128, none⟩) (.inl ⟨by omega, rfl⟩) (.bool true))
      have HH := Lib.hid (show ∀ i, i ≠ g → ((wr.setCells g (P / 64 * 129 + P % 64) (bys ((bs.drop d).take k))).setCell ⟨g, P / 64 * 129 + 128, none⟩ (.bool true)).heap[i]? = wr.heap[i]? from fun i hi => (Below.heap_setCell _ _ _ i hi).trans (heap_setCells g _ _ wr i hi))
      generalize (wr.setCells g (P / 64 * 129 + P % 64) (bys (List.take k (List.drop d bs)))).setCell ⟨g, P / 64 * 129 + 128, none⟩ (.bool true) = w2 at *
      have HPB := Lib.hid (And.intro hPB (And.intro hL (And.intro hp hB)))
      clear d0 k4 k4f hPB hp hB i1
      go_quiet (fail)
      go_wp2_with fail
      go_roundw
      case rel =>
        have u1 := HPK.out
        have u2 := HP.out
        have u3 := HN.out
        have u4 := HPB.out
        have hbg : b ≠ g := Ne.symm (HR.out.2.1.ne (by rw [putP_wlen]; omega))
        have lt1 : (bs.take d).length = d := by rw [List.length_take]; omega
        have lt2 : (bs.take (d + k)).length = d + k := by rw [List.length_take]; omega
        refine ⟨d + k, c' - k, _, ?_, by rw [Nat.sub_sub], by omega, by omega, by omega, Lib.hid ⟨?_, ⟨?_, ?_⟩, HR.out.2.2.trans (HC2.out.drewN _) (fun i hi => .inl hi)⟩⟩
        · rw [IntWalk.wrap64_in _ (by omega)]; congr 1; omega
        · rw [← List.drop_drop]
          refine ((HR.out.1.heap (W' := w2) (HH.out b0 HB.out)).cut (k := k) (fun hlt2 => ?_)).heap rfl
          rw [if_neg (by rw [Hl.out] at hlt2; omega)]
        · have e5 := HR.out.2.1.hd
          rw [putP_len (by omega)] at e5 ⊢
          exact (HH.out b hbg).trans e5
        · rw [putP_wlen]
          have e6 := HZ.out
          exact ⟨_, _, rfl, e6.1, e6.2.1, .inr ⟨by omega, rfl, _, HB3.out.drewN _, by rw [Array.size_setIfInBounds, putA_size]; exact e6.2.2.2.1, fun j hj r hr => cell_put u2 (by omega) hk0 (by omega) hk64 (by omega) e6.2.2.2.2 hj hr⟩⟩
      case measure => simp only [lenS]; omega
    · have hdn : d = n := by omega
      subst hdn
      have e0 : d - d = 0 := Nat.sub_self d
      go_wp2_with fail
      go_end0
      refine ⟨rfl, ?_, HR.out.2.2⟩
      have := HR.out.2.1
      rwa [HN.out, List.take_length] at this
end Go.Proofs.YtoadamkmabkldaaGreatDoor
/- make of bytes, and bytes as a string, at this program's types. -/
namespace Go.Proofs.YtoadamkmabkldaaGreatDoor
open Go.RowKit

theorem made_bys (n : Nat) : madeCells #[Value.int .u8 0] n = (bys (List.replicate n 0)).toArray := by
  apply Array.ext'
  rw [toList_madeCells_one]
  simp [bys]
/-- make([]byte, n). -/
theorem mk_bys (n : Nat) (x y : Int) (hx : x = n) (hy : y = n) (hn : n ≤ 100000000) (w : World) :
    (Instr.makeSlice 22 (.int .i64 x) (.int .i64 y)).run Tryz.prog w = .ok (.slice (some ⟨w.heap.size, 0, none⟩) n n) (w.alloc (.cells (bys (List.replicate n 0)).toArray 5)) := by
  subst hx hy
  rw [← made_bys]
  exact run_make_row' (P := Tryz.prog) 22 5 (.int .u8 0) 1 Tryz.underlying22 infoB rfl .i64 .i64 n (by omega) (by omega) w
/-- string(b). -/
theorem conv_bys {w : World} {B n c : Nat} {A : Option Addr} {l : List UInt8} (hr : Rd w B 1 A n (bys l)) :
    (convert 22 9 (.slice A n c)).run Tryz.prog w = .ok (.string ⟨l.toArray⟩) w := by
  have hl := hr.blen
  subst hl
  rcases A with _ | ad
  · rcases Nat.eq_zero_or_pos l.length with h0 | h0
    · have : l = [] := List.eq_nil_of_length_eq_zero h0
      subst this
      exact run_convert_bytes_nil w _ _ Tryz.underlying22 Tryz.underlying5 _ _ _ Tryz.underlying9
    · obtain ⟨b, o, h, _⟩ := hr.2 h0
      cases h
  · refine run_convert_bytes_back w _ _ _ ad c l Tryz.underlying22 Tryz.underlying5 Tryz.underlying9 fun j hj => ?_
    obtain ⟨b, o, hA, _, hc⟩ := hr.2 (by omega)
    injection hA with hA
    subst hA
    rw [addLit]
    exact hc j _ (by simp [bys, hj])
end Go.Proofs.YtoadamkmabkldaaGreatDoor
/- Contracts of package vfs: Read. -/
namespace Go.Proofs.YtoadamkmabkldaaGreatDoor
open Go.RowKit
attribute [local go_sem ↓] Go.wp_at_zero Go.wp_at_succ

/-- make([]byte, 0, n). -/
theorem mk_room (n : Nat) (hn : n ≤ 100000000) (w : World) :
    (Instr.makeSlice 22 (.int .i64 0) (.int .i64 (n : Int))).run Tryz.prog w = .ok (.slice (some ⟨w.heap.size, 0, none⟩) 0 n) (w.alloc (.cells (bys (List.replicate n 0)).toArray 5)) := by
  obtain ⟨i0, hi, hz0, hz1, hz2⟩ := info_parts infoB
  have hr := run_make (P := Tryz.prog) w 22 5 i0 _ Tryz.underlying22 hi hz0 .i64 .i64 0 n (Int.le_refl _) (by omega) (by rw [hz2]; omega) (by omega)
  simp only [Int.toNat_zero, Int.toNat_natCast, hz1, Nat.mul_one] at hr
  rw [← made_bys]
  exact hr
theorem own_room (n : Nat) (hn : n ≤ 100000000) (w : World) : (w.alloc (.cells (bys (List.replicate n 0)).toArray 5)).ownsRow w.heap.size 5 1 (.slice (some ⟨w.heap.size, 0, none⟩) 0 n) 0 (bys []) :=
  World.ownsRow_made w _ n (Nat.le_refl _) (by unfold maxLen; omega) (by simp [bys])
/-- s[:h] of bytes. -/
theorem slice_h {w : World} {ops : Array Oper} {rest : List Oper} {a : Act} {Q : Exit → Act → World → Prop} {d : Option Tmp} {ty : TypeId} {pos : String} {af : Array Edge} {g0 : Option (Nat × Bool)} {s hi : Operand}
    {A : Option Addr} {n c : Nat} {kh : IntKind} {xh : Int} (m : Nat) (hm : m ≤ c) (hs : a.eval s = .slice A n c) (hh : a.eval hi = .int kh xh) (el : xh = (m : Int)) (hA : c = 0 ∨ ∃ b o, A = some ⟨b, o, none⟩)
    (hw : Region.wanted { dst := d, op := .slice 22 s none (some hi) none, type := ty, pos := pos, after := af, guard := g0 } (yielded ops a.tmps) = true)
    (h : wpList Tryz.prog ops Q rest (a.put d (.slice A m c)) w) :
    wpList Tryz.prog ops Q ({ dst := d, op := .slice 22 s none (some hi) none, type := ty, pos := pos, after := af, guard := g0 } :: rest) a w :=
  BigFrame.wpList_want hw fun _ hK => by
    subst el
    have he : Tryz.prog.elem 22 = 5 := by kernel_rfl
    have hrun := run_slice_h (P := Tryz.prog) (w := w) 22 A n c (by rw [he]; exact Tryz.underlying22) kh (m : Int) (by omega) (by omega)
    rw [he, Tryz.sizeOf5 w] at hrun
    have hrun2 : (Instr.sliceAt 22 (.slice A n c) none (some (.int kh (m : Int))) none).run Tryz.prog w = .ok (.slice A m c) w := by
      rw [run_sliceAt_slice w 22 _ _ _ _ (by rw [he]; exact Tryz.underlying22), hrun]
      rcases hA with rfl | ⟨b, o, rfl⟩
      · simp [sliced]
      · simp [sliced, addLit]
    unfold Oper.wp execOp
    simp only [Option.map_some, Option.map_none, hs, hh, Sem.run_bind, hrun2, Sem.run_pure, Result.andThen_ok, Oper.upon_value]
    exact hK _ _ h
set_option maxHeartbeats 4000000 in
set_option maxRecDepth 100000 in
theorem read_ok (f m : Nat) (bl gl : List UInt8 → Nat) (sv : List UInt8 → Value) (S : FsP) (s : ByteArray) (P0 K : Nat) (w : World) (h : FsM w f m bl gl sv S) (hs : s.size ≤ maxLen) (hd : S.down = false) (x : FlP) (hf : findP S s.data.toList = some x) (hPK : P0 + K ≤ x.B.length) :
    Calls Tryz.prog 58 #[.pointer (some ⟨f, 0, none⟩), .string s, .int .i64 (P0 : Int), .int .i64 (K : Int)] w fun e w' =>
      ∃ v, e = .returned (.tuple #[v, .int .i64 0]) ∧ w'.ownsRow w.heap.size 5 1 v K (bys ((x.B.drop P0).take K)) ∧ Below w.heap.size w w' := by
  have HA := Lib.hid (at_some f m bl gl sv S s w h hs hd hf)
  have hfl := h.fl _ x hf
  have hwf : x.WF := by
    have := h.wf.files
    exact this (s.data.toList, x) (lookup_mem hf)
  have hxB : x.B.length ≤ 5000000 := by
    have h1 := needN_ge x.B.length
    rw [← hwf.w] at h1
    have h2 := use_le (lookup_mem hf)
    have h3 := h.wf.room
    have h4 := h.wf.most2
    simp only at h2
    omega
  generalize bl s.data.toList = b at *
  generalize gl s.data.toList = g at *
  generalize sv s.data.toList = v at *
  have c1 : w.cell? ⟨b, 1, none⟩ = some (.int .i64 (x.B.length : Int)) := hfl.hd.cell 1
  have HF := Lib.hid hfl
  clear h hd hs hf hfl
  have n1 : ¬ ((P0 : Int) < 0) := by omega
  have n2 : ¬ ((K : Int) < 0) := by omega
  have q1 : IntKind.i64.wrap ((x.B.length : Int) - (P0 : Int)) = (x.B.length : Int) - (P0 : Int) := IntWalk.i64_in _ (by omega)
  have h3 : ¬ x.B.length < P0 := by omega
  have h4 : ¬ ((x.B.length : Int) - (P0 : Int) < (K : Int)) := by omega
  have hlo : ((x.B.drop P0).take K).length = K := by rw [List.length_take, List.length_drop]; omega
  have HX := Lib.hid (And.intro hxB (And.intro hPK hlo))
  have mk := fun w => mk_room K (by omega) w
  have HO := Lib.hid (own_room K (by omega) w)
  have HF' := Lib.hid (show FlM (w.alloc (.cells (bys (List.replicate K 0)).toArray 5)) b g v x from HF.out.heap (Below.heap_alloc w _ b HF.out.hd.lt) (fun h0 => Below.heap_alloc w _ g (HF.out.sl.lt h0)))
  have HC := Lib.hid (show Below w.heap.size w (w.alloc (.cells (bys (List.replicate K 0)).toArray 5)) from (Below.refl _ _).alloc (Nat.le_refl _) _)
  have HWF := Lib.hid hwf
  clear hxB hPK hlo hwf
  go_enter Tryz.func58, Tryz.ntmps58
  go_wp2_with fail
  with_reducible refine HA.out.mono ?_
  rintro e w1 ⟨rfl, hw1⟩; subst hw1
  go_wp2_with fail
  generalize hbs : w1.heap.size = bs at *
  have Hbs := Lib.hid hbs
  clear hbs mk c1 n1 n2 q1 h3 h4
  generalize w1.alloc (.cells (bys (List.replicate K 0)).toArray 5) = w2 at *
  go_loopw [2, 3, 12] (fun s1 s2 s3 wr => ∃ d : Nat, s1 = .int .i64 ((P0 + d : Nat) : Int) ∧ s2 = .int .i64 ((K - d : Nat) : Int) ∧ d ≤ K ∧ Hid (wr.ownsRow bs 5 1 s3 d (bys ((x.B.drop P0).take d)) ∧ FlM wr b g v x ∧ Below bs w1 wr)) (fun _ s2 _ _ => (intOf s2).toNat)
  case atStart => exact ⟨0, by simp, by simp, Nat.zero_le _, Lib.hid ⟨HO.out, HF'.out, HC.out⟩⟩
  case round =>
    obtain ⟨d, rfl, rfl, hd, HR⟩ := hrel
    by_cases hlt : d < K
    · obtain ⟨P, hP⟩ : ∃ P, P = P0 + d := ⟨_, rfl⟩
      rw [← hP]
      obtain ⟨N, hN⟩ : ∃ N, N = K - d := ⟨_, rfl⟩
      rw [← hN]
      have hPB : P < 5000000 := by have := HX.out; omega
      have hL : P / 64 < x.W.length := by
        have := needN_ge x.B.length
        rw [← HWF.out.w] at this
        have := HX.out
        omega
      obtain ⟨cc, cs, rfl, z1, z2, z3, z4, z5⟩ := HR.out.2.1.sl.pos (by omega)
      have d0 : wr.cell? ⟨b, 0, none⟩ = some (.slice (some ⟨g, 0, none⟩) x.W.length cc) := HR.out.2.1.hd.cell 0
      have i1 : (P : Int) / 64 < (x.W.length : Int) := by omega
      obtain ⟨M, hM⟩ : ∃ M, M = min (64 - P % 64) N := ⟨_, rfl⟩
      have hM0 : 0 < M ∧ M ≤ N ∧ P % 64 + M ≤ 64 := by rw [hM]; omega
      have em := fun ats ty => run_min ats ty ((64 - P % 64 : Nat) : Int) (N : Int) (M : Int) (by rw [hM]; split <;> omega)
      have hRd : Rd wr wr.heap.size 1 (some ⟨g, P / 64 * 129 + P % 64, none⟩) M (bys ((x.B.drop P).take M)) := by
        have hl : ((x.B.drop P).take M).length = M := by rw [List.length_take, List.length_drop]; have := HX.out; omega
        refine ⟨by rw [bys_len, hl, Nat.mul_one], fun _ => ⟨g, _, rfl, z3.lt, fun j u hu => ?_⟩⟩
        unfold bys at hu
        rw [List.getElem?_map, Option.map_eq_some_iff] at hu
        obtain ⟨y, hy, rfl⟩ := hu
        have hj : j < M := by have := (List.getElem?_eq_some_iff.1 hy).1; omega
        rw [List.getElem?_take_of_lt hj, List.getElem?_drop] at hy
        rw [z3.cell, show P / 64 * 129 + P % 64 + j = P / 64 * 129 + (P % 64 + j) by omega, z5 (P / 64) hL (P % 64 + j) (by omega)]
        unfold cellK byP
        rw [if_pos (by omega), show 64 * (P / 64) + (P % 64 + j) = P + j by omega, hy]
        rfl
      have HRd := Lib.hid hRd
      obtain ⟨PM, hPM⟩ : ∃ q, q = P + M := ⟨_, rfl⟩
      obtain ⟨NM, hNM⟩ : ∃ q, q = N - M := ⟨_, rfl⟩
      have e1 : (P : Int) + (M : Int) = (PM : Int) := by omega
      have e2 : (N : Int) - (M : Int) = (NM : Int) := by omega
      have hNB : N < 5000001 := by have := HX.out; omega
      have HPM := Lib.hid (And.intro hP (And.intro hN (And.intro hPM (And.intro hNM hM0))))
      have hN0 : 0 < N := by omega
      clear hP hN hPM hNM hM hRd z1 z2 z3 z4 z5
      go_upto_region 10 with (fail)
      go_upto_region 11 with (with_reducible refine at_slice ?_; (apply slice_sec (g := g) (o := P / 64 * 129) (kl := .i64) (xl := (P : Int) % 64) (P % 64)); (case hr => omega); (case hs => kernel_rfl); (case hl => kernel_rfl); (case el => omega); (case hw => kernel_rfl); try go_frame)
      go_upto_region 12 with (with_reducible refine at_slice ?_; (apply slice_h (A := some ⟨g, P / 64 * 129 + P % 64, none⟩) (n := 64 - P % 64) (c := 64 - P % 64) (kh := .i64) (xh := (M : Int)) M); (case hm => omega); (case hs => kernel_rfl); (case hh => kernel_rfl); (case el => rfl); (case hA => exact .inr ⟨_, _, rfl⟩); (case hw => kernel_rfl); try go_frame)
      have hbz : bs ≤ wr.heap.size := by have := HR.out.2.2.size; have := Hbs.out; omega
      have hby : d + M ≤ 140737488355328 := by have := HPM.out; have := HX.out; omega
      go_upto_region 13 with (with_reducible refine at_append ?_; (apply ap_bys (c := 64 - P % 64) HR.out.1 HRd.out (Below.refl bs wr) hbz hby); (case hs => kernel_rfl); (case hx => kernel_rfl); (case hw => kernel_rfl); intro v3 w3 o1 o2 o3 o4; replace o1 := Lib.hid o1; replace o2 := Lib.hid o2; replace o3 := Lib.hid o3; clear o4; try go_frame)
      go_wp2_with fail
      go_roundw
      case rel =>
        have u1 := HPM.out
        have u2 := HX.out
        have u3 := Hbs.out
        refine ⟨d + M, by rw [show PM = P0 + (d + M) by omega], by rw [show NM = K - (d + M) by omega], by omega, Lib.hid ⟨?_, HR.out.2.1.heap (o2.out.block b (by have := HF.out.hd.lt; omega)) (fun h0 => o2.out.block g (by have := HF.out.sl.lt h0; omega)), HR.out.2.2.trans (o2.out.mono (Nat.le_refl _))⟩⟩
        have e9 := o1.out
        have e8 : (x.B.drop P0).take (d + M) = (x.B.drop P0).take d ++ (x.B.drop P).take M := by
          rw [List.take_add, List.drop_drop, u1.1]
        rw [e8]; exact e9
      case measure =>
        have u1 := HPM.out
        simp [intOf]
        omega
    · have hdK : d = K := by omega
      subst hdK
      have e0 : d - d = 0 := Nat.sub_self d
      obtain ⟨A9, c9, rfl, _, _⟩ := own_form HR.out.1
      go_wp2_with fail
      go_ret2
      have u3 := Hbs.out
      refine ⟨.slice A9 d c9, rfl, ?_, by rw [u3]; exact HR.out.2.2⟩
      rw [u3]
      exact HR.out.1
set_option maxHeartbeats 4000000 in
set_option maxRecDepth 100000 in
theorem read_any (f m : Nat) (bl gl : List UInt8 → Nat) (sv : List UInt8 → Value) (S : FsP) (s : ByteArray) (p k : Int) (w : World) (h : FsM w f m bl gl sv S) (hs : s.size ≤ maxLen) (hp : -9223372036854775808 ≤ p ∧ p ≤ 9223372036854775807) :
    Calls Tryz.prog 58 #[.pointer (some ⟨f, 0, none⟩), .string s, .int .i64 p, .int .i64 k] w fun e w' =>
      ∃ v, e = .returned (.tuple #[v, .int .i64 ((readP S s.data.toList p k).1 : Int)]) ∧ w'.ownsRow w.heap.size 5 1 v (readP S s.data.toList p k).2.length (bys (readP S s.data.toList p k).2) ∧ Below w.heap.size w w' := by
  unfold readP
  have HP := Lib.hid hp
  clear hp
  have H := Lib.hid h
  cases hd : S.down with
  | true =>
    have HA := Lib.hid (at_down f m bl gl sv S s w h hs hd)
    clear h hd hs
    go_enter Tryz.func58, Tryz.ntmps58
    go_wp2_with fail
    with_reducible refine HA.out.mono ?_
    rintro e w1 ⟨rfl, hw1⟩; subst hw1
    go_wp2_with fail
    go_ret2
    exact ⟨_, rfl, own_nilB _ _ _, Below.refl _ _⟩
  | false =>
    cases hf : findP S s.data.toList with
    | none =>
      have HA := Lib.hid (at_none f m bl gl sv S s w h hs hd hf)
      clear h hd hs hf
      go_enter Tryz.func58, Tryz.ntmps58
      go_wp2_with fail
      with_reducible refine HA.out.mono ?_
      rintro e w1 ⟨rfl, hw1⟩; subst hw1
      go_wp2_with fail
      go_ret2
      exact ⟨_, rfl, own_nilB _ _ _, Below.refl _ _⟩
    | some x =>
      have HO := Lib.hid (fun P0 K hPK => read_ok f m bl gl sv S s P0 K w h hs hd x hf hPK)
      have HA := Lib.hid (at_some f m bl gl sv S s w h hs hd hf)
      have hfl := h.fl _ x hf
      have hwf : x.WF := by
        have := h.wf.files
        exact this (s.data.toList, x) (lookup_mem hf)
      have hxB : x.B.length ≤ 5000000 := by
        have h1 := needN_ge x.B.length
        rw [← hwf.w] at h1
        have h2 := use_le (lookup_mem hf)
        have h3 := h.wf.room
        have h4 := h.wf.most2
        simp only at h2
        omega
      generalize bl s.data.toList = b at *
      generalize gl s.data.toList = g at *
      generalize sv s.data.toList = v at *
      have c1 : w.cell? ⟨b, 1, none⟩ = some (.int .i64 (x.B.length : Int)) := hfl.hd.cell 1
      have HF := Lib.hid hfl
      clear h hd hs hf hfl H
      by_cases h1 : p < 0 ∨ k < 0
      · simp only [if_pos h1]
        by_cases h2 : p < 0
        · clear h1
          go_enter Tryz.func58, Tryz.ntmps58
          go_wp2_with fail
          with_reducible refine HA.out.mono ?_
          rintro e w1 ⟨rfl, hw1⟩; subst hw1
          go_wp2_with fail
          go_ret2
          exact ⟨_, rfl, own_nilB _ _ _, Below.refl _ _⟩
        · have h4 : k < 0 := by omega
          clear h1
          go_enter Tryz.func58, Tryz.ntmps58
          go_wp2_with fail
          with_reducible refine HA.out.mono ?_
          rintro e w1 ⟨rfl, hw1⟩; subst hw1
          go_wp2_with fail
          go_ret2
          exact ⟨_, rfl, own_nilB _ _ _, Below.refl _ _⟩
      · simp only [if_neg h1]
        obtain ⟨P0, rfl⟩ : ∃ q : Nat, p = (q : Int) := ⟨p.toNat, by omega⟩
        obtain ⟨K, rfl⟩ : ∃ q : Nat, k = (q : Int) := ⟨k.toNat, by omega⟩
        have n1 : ¬ ((P0 : Int) < 0) := by omega
        have n2 : ¬ ((K : Int) < 0) := by omega
        have q1 : IntKind.i64.wrap ((x.B.length : Int) - (P0 : Int)) = (x.B.length : Int) - (P0 : Int) := by have := HP.out; exact IntWalk.i64_in _ (by omega)
        by_cases h2 : (x.B.length : Int) < (P0 : Int) ∨ (x.B.length : Int) - (P0 : Int) < (K : Int)
        · simp only [if_pos h2]
          have HX := Lib.hid hxB
          clear hxB h1
          by_cases h3 : x.B.length < P0
          · clear h2
            go_enter Tryz.func58, Tryz.ntmps58
            go_wp2_with fail
            with_reducible refine HA.out.mono ?_
            rintro e w1 ⟨rfl, hw1⟩; subst hw1
            go_wp2_with fail
            go_ret2
            exact ⟨_, rfl, own_nilB _ _ _, Below.refl _ _⟩
          · have h4 : (x.B.length : Int) - (P0 : Int) < (K : Int) := by omega
            have h5 : ¬ x.B.length < P0 := h3
            clear h2
            go_enter Tryz.func58, Tryz.ntmps58
            go_wp2_with fail
            with_reducible refine HA.out.mono ?_
            rintro e w1 ⟨rfl, hw1⟩; subst hw1
            go_wp2_with fail
            go_ret2
            exact ⟨_, rfl, own_nilB _ _ _, Below.refl _ _⟩
        · simp only [if_neg h2]
          simp only [Int.toNat_natCast]
          have hPK : P0 + K ≤ x.B.length := by omega
          have hlo : ((x.B.drop P0).take K).length = K := by rw [List.length_take, List.length_drop]; omega
          simp only [Bool.false_eq_true, if_false, hlo]
          exact HO.out P0 K hPK
end Go.Proofs.YtoadamkmabkldaaGreatDoor
