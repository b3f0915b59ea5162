/- The document's Bytes of a node. -/
import Derived.Test.YtelaliokmmaopaaDoorNod5
import Derived.IntWalk
namespace Go.Proofs.YtelaliokmmaopaaDoor
open Go.RowKit
attribute [local go_sem ↓] Go.wp_at_zero Go.wp_at_succ

/-- The bytes so far, and the node. -/
def HdM (w : World) (nd : Array Value) (l : List UInt8) (v : Value) (W : World) : Prop := W.ownsRow w.heap.size 5 1 v l.length (bys l) ∧ Below w.heap.size w W ∧ Bk W w.heap.size 27 nd
theorem HdM.below {w W W' : World} {nd : Array Value} {l : List UInt8} {v : Value} (h : HdM w nd l v W) (hb : Below W.heap.size W W') : HdM w nd l v W' :=
  ⟨own_below h.1 hb (Nat.le_refl _), h.2.1.trans (hb.mono h.2.1.size), Bk.below h.2.2 hb h.2.2.lt⟩
theorem HdM.alloc {w W : World} {nd : Array Value} {l : List UInt8} {v : Value} (h : HdM w nd l v W) (o : Obj) : HdM w nd l v (W.alloc o) := h.below ((Below.refl _ _).alloc (Nat.le_refl _) o)
theorem PkM.below {w W W' : World} {g5 : Nat} {cl nd : Array Value} {l : List UInt8} {v : Value} (h : PkM w g5 cl nd l v W) (hb : Below W.heap.size W W') : PkM w g5 cl nd l v W' :=
  ⟨own_below h.1 hb (Nat.le_refl _), h.2.1.trans (hb.mono h.2.1.size), Bk.below h.2.2.1 hb h.2.2.1.lt, Bk.below h.2.2.2 hb h.2.2.2.lt⟩
theorem ap_hd {w W : World} {ops : Array Oper} {rest : List Oper} {a : Act} {Q : Exit → Act → World → Prop} {d : Option Tmp} {ty : TypeId} {pos : String} {af : Array Edge} {g : Option (Nat × Bool)} {s x : Operand} {nd : Array Value}
    {v : Value} {l : List UInt8} (hm : HdM w nd l v W) {B : Nat} {A : Option Addr} {m c : Nat} {news : List UInt8} (hr : Rd W B 1 A m (bys news)) (hbytes : l.length + m ≤ 140737488355328)
    (hs : a.eval s = v) (hx : a.eval x = .slice A m c)
    (hw : Region.wanted { dst := d, op := .call { callee := .builtin .append, args := #[s, x], argTypes := #[22, 22] }, type := ty, pos := pos, after := af, guard := g } (yielded ops a.tmps) = true)
    (h : ∀ A' c' w', HdM w nd (l ++ news) (.slice A' (l.length + m) c') w' → wpList Tryd.prog ops Q rest (a.put d (.slice A' (l.length + m) c')) w') :
    wpList Tryd.prog ops Q ({ dst := d, op := .call { callee := .builtin .append, args := #[s, x], argTypes := #[22, 22] }, type := ty, pos := pos, after := af, guard := g } :: rest) a W := by
  have hl : (l ++ news).length = l.length + m := by rw [List.length_append, hr.blen]
  refine ap_bys hm.1 hr hm.2.1 hm.2.1.size hbytes hs hx hw fun v' w' h1 h2 h3 _ => ?_
  obtain ⟨A', c', rfl, _, _⟩ := own_form h1
  exact h A' c' w' ⟨by rw [hl]; exact h1, h2, Bk.grow hm.2.2 hm.1 h3 (by decide)⟩
theorem ap_pk {w W : World} {ops : Array Oper} {rest : List Oper} {a : Act} {Q : Exit → Act → World → Prop} {d : Option Tmp} {ty : TypeId} {pos : String} {af : Array Edge} {g : Option (Nat × Bool)} {s x : Operand} {g5 : Nat} {cl nd : Array Value}
    {A0 : Option Addr} {n0 c0 : Nat} {l : List UInt8} (hm : PkM w g5 cl nd l (.slice A0 n0 c0) W) {B : Nat} {A : Option Addr} {m c : Nat} {news : List UInt8} (hr : Rd W B 1 A m (bys news)) (hbytes : n0 + m ≤ 140737488355328)
    (hs : a.eval s = .slice A0 n0 c0) (hx : a.eval x = .slice A m c)
    (hw : Region.wanted { dst := d, op := .call { callee := .builtin .append, args := #[s, x], argTypes := #[22, 22] }, type := ty, pos := pos, after := af, guard := g } (yielded ops a.tmps) = true)
    (h : ∀ A' c' w', PkM w g5 cl nd (l ++ news) (.slice A' (n0 + m) c') w' → wpList Tryd.prog ops Q rest (a.put d (.slice A' (n0 + m) c')) w') :
    wpList Tryd.prog ops Q ({ dst := d, op := .call { callee := .builtin .append, args := #[s, x], argTypes := #[22, 22] }, type := ty, pos := pos, after := af, guard := g } :: rest) a W := by
  obtain ⟨_, _, he, _, _⟩ := own_form hm.1
  injection he with _ he _
  subst he
  have hl : (l ++ news).length = l.length + m := by rw [List.length_append, hr.blen]
  refine ap_bys hm.1 hr hm.2.1 hm.2.1.size hbytes hs hx hw fun v' w' h1 h2 h3 _ => ?_
  obtain ⟨A', c', rfl, _, _⟩ := own_form h1
  exact h A' c' w' ⟨by rw [hl]; exact h1, h2, Bk.grow hm.2.2.1 hm.1 h3 (by decide), Bk.grow hm.2.2.2 hm.1 h3 (by decide)⟩
/-- Bytes of a number, as they are called for. -/
theorem bytes_in {x : Nat} (hx : (wid (x : Int)).toNat = x) (z xi : Int) (hxi : (x : Int) = xi) (W : World) :
    Calls Tryd.prog 38 #[.int .i64 z, .int .i64 xi] W fun e w' => ∃ A c, e = .returned (.slice A x c) ∧ Rd w' w'.heap.size 1 A x (bys (leB z x)) ∧ Below W.heap.size W w' := by
  subst hxi
  refine (bytes_any z x W).mono ?_
  rintro e w' ⟨v, rfl, ho, hb⟩
  rw [hx] at ho
  obtain ⟨A, c, rfl, _, _⟩ := own_form ho
  exact ⟨A, c, rfl, Rd.of_own ho, hb⟩
set_option maxHeartbeats 4000000 in
set_option maxRecDepth 100000 in
theorem rbytes_any (M : NdM) (N : NodP) (w : World) (hr : RdN w w.heap.size M N) (hR : RightP N) :
    Calls Tryd.prog 20 #[.agg (ndC N.leaf M)] w fun e w' => ∃ v, e = .returned v ∧ w'.ownsRow w.heap.size 5 1 v (packN N).length (bys (packN N)) ∧ Below w.heap.size w w' := by
  obtain ⟨hcl, hkl⟩ := hr.len
  have Hr := Lib.hid hr
  have Hcl := Lib.hid hcl
  have Hkl := Lib.hid hkl
  have HR := Lib.hid hR
  have hn6 : M.n ≤ 100000 := by have := hR.1.2.2; omega
  have Hm6 := Lib.hid (show N.leaf = false → M.m = M.n + 1 from fun h => by have := hR.1.2.1 h; omega)
  unfold ndC
  clear hr hcl hR hkl
  obtain ⟨A, n, c, K, m, d⟩ := M
  obtain ⟨lf, hlf⟩ : ∃ lf, N.leaf = lf := ⟨_, rfl⟩
  simp only at hn6 Hm6 ⊢
  rw [hlf] at Hm6 ⊢
  have Hl := Lib.hid hlf
  clear hlf
  have H0 := Lib.hid (show HdM w #[.bool lf, .slice A n c, .slice K m d] [] (.slice none 0 0) (w.alloc (.cells #[.bool lf, .slice A n c, .slice K m d] 27)) from
    ⟨own_nilB _ _ _, (Below.refl _ _).alloc (Nat.le_refl _) _, Bk.new _ _ _⟩)
  have f0 : (w.alloc (.cells #[.bool lf, .slice A n c, .slice K m d] 27)).cell? ⟨w.heap.size, 0, none⟩ = some (.bool lf) := H0.out.2.2.cell 0
  go_enter Tryd.func20, Tryd.ntmps20
  go_upto_if 7 with (fail)
  generalize (w.alloc (.cells #[.bool lf, .slice A n c, .slice K m d] 27)) = w1 at *
  go_cut [3] (fun v3 wx => ∃ A3 c3, v3 = .slice A3 1 c3 ∧ Hid (HdM w #[.bool lf, .slice A n c, .slice K m d] [if lf = true then (1 : UInt8) else 2] (.slice A3 1 c3) wx))
  case first =>
    cases lf
    · go_wp2_with (
        at_builtin
        refine ap_hd (H0.out.alloc _) (Rd.oneB w1 5 (x := 2) (u := 2) rfl) (by simp) rfl rfl rfl ?_
        intro A3 c3 w3 h3)
      go_meet
      exact ⟨A3, c3, rfl, Lib.hid h3⟩
    · go_wp2_with (
        at_builtin
        refine ap_hd (H0.out.alloc _) (Rd.oneB w1 5 (x := 1) (u := 1) rfl) (by simp) rfl rfl rfl ?_
        intro A3 c3 w3 h3)
      go_meet
      exact ⟨A3, c3, rfl, Lib.hid h3⟩
  case rest =>
    obtain ⟨A3, c3, rfl, H3⟩ := hcut
    have hp0 : packTo N 0 = ([if lf = true then (1 : UInt8) else 2] ++ leB (n : Int) 2) ++ (if lf = true then [] else leB (N.kids[0]?.getD 0) 3) := by
      unfold packTo packH
      rw [Hl.out, Hcl.out]
      simp
    have HP0 := Lib.hid hp0
    have f1 : wc.cell? ⟨w.heap.size, 1, none⟩ = some (.slice A n c) := H3.out.2.2.cell 1
    clear hp0 H0 f0
    go_wp2_with fail
    with_reducible refine (bytes_in (x := 2) (by decide) (n : Int) 2 rfl _).mono ?_
    rintro e w4 ⟨A4, c4, rfl, hr4, hb4⟩
    have h4 := H3.out.below hb4
    have k0 : w4.cell? ⟨w.heap.size, 0, none⟩ = some (.bool lf) := h4.2.2.cell 0
    clear hb4 f1
    go_upto_if 22 with (
      at_builtin
      refine ap_hd h4 hr4 (by simp) rfl rfl rfl ?_
      intro A5 c5 w5 h5
      have k5 : w5.cell? ⟨w.heap.size, 0, none⟩ = some (.bool lf) := h5.2.2.cell 0)
    have H5 := Lib.hid h5
    have k2 : w5.cell? ⟨w.heap.size, 2, none⟩ = some (.slice K m d) := h5.2.2.cell 2
    clear h5 h4 hr4 k0
    go_cut [3] (fun v3 wx => ∃ A3 k3 c3, v3 = .slice A3 k3 c3 ∧ Hid (HdM w #[.bool lf, .slice A n c, .slice K m d] (packTo N 0) (.slice A3 k3 c3) wx))
    case first =>
      cases lf
      · have hm := Hm6.out rfl
        subst hm
        obtain ⟨bk, ok, kv, rfl, hbk, hkv, hkc⟩ := Hr.out.ks.num (k := 0) (by show 0 < n + 1; omega)
        have e0 : w5.cell? ⟨bk, ok, none⟩ = some (.int .i64 kv) := (H5.out.2.1.cell (p := ⟨bk, ok, none⟩) (by show bk < _; omega)).trans (by simpa using hkc)
        have hp := HP0.out
        rw [hkv] at hp
        simp only [Bool.false_eq_true, if_false, Option.getD_some] at hp
        have HP := Lib.hid hp
        clear hp hkv hkc
        go_wp2_with fail
        with_reducible refine (bytes_in (x := 3) (by decide) kv 3 rfl _).mono ?_
        rintro e w6 ⟨A6, c6, rfl, hr6, hb6⟩
        have h6 := H5.out.below hb6
        clear hb6
        go_wp2_with (
          at_builtin
          refine ap_hd h6 hr6 (by simp [leB_length]) rfl rfl rfl ?_
          intro A7 c7 w7 h7)
        have H7 := Lib.hid h7
        clear h7
        go_meet
        exact ⟨_, _, _, rfl, Lib.hid (by rw [HP.out]; exact H7.out)⟩
      · have hp := HP0.out
        simp only [if_true, List.append_nil] at hp
        have HP := Lib.hid hp
        clear hp
        go_wp2_with fail
        go_meet
        exact ⟨_, _, _, rfl, Lib.hid (by rw [HP.out]; exact H5.out)⟩
    case rest =>
      obtain ⟨A6, k6, c6, rfl, H6⟩ := hcut
      clear H5 k5 k2 H3 HP0
      go_wp2_with fail
      go_loopw [3, 4] (fun v3 idx wr => ∃ (j : Nat) (A3 : Option Addr) (k3 c3 : Nat), idx = .int .i64 j ∧ v3 = .slice A3 k3 c3 ∧ j ≤ n ∧ Hid (HdM w #[.bool lf, .slice A n c, .slice K m d] (packTo N j) (.slice A3 k3 c3) wr)) (fun _ idx _ => n - (intOf idx).toNat)
      case atStart => exact ⟨0, A6, k6, c6, rfl, rfl, Nat.zero_le _, H6⟩
      case round =>
        obtain ⟨j, A3, k3, c3, rfl, rfl, hj, HI⟩ := hrel
        obtain ⟨hown, hbw, hbk⟩ := HI.out
        have r1 : wr.cell? ⟨w.heap.size, 1, none⟩ = some (.slice A n c) := hbk.cell 1
        clear H6
        by_cases hlt : j < n
        · obtain ⟨b, o, cc, Ak, nk, ck, Av, nv, cv, rfl, hb, hcj, k0, hrk, hnck, k1, hrv, hncv, k2, k3'⟩ := Hr.out.cs.at_ hlt
          have e0 := (hbw.cell (p := ⟨b, o + j * 4, none⟩) (by show b < _; omega)).trans k0
          have e1 := (hbw.cell (p := ⟨b, o + j * 4 + 1, none⟩) (by show b < _; omega)).trans k1
          have e2 := (hbw.cell (p := ⟨b, o + j * 4 + 2, none⟩) (by show b < _; omega)).trans k2
          have e3 := (hbw.cell (p := ⟨b, o + j * 4 + 3, none⟩) (by show b < _; omega)).trans k3'
          have hok := HR.out.2.1.1 j cc (by have := Hcl.out; omega) hcj
          have hkl := hrk.blen
          have hvl := hrv.blen
          have hkk : 1 ≤ nk ∧ nk ≤ 120 := by have := hok.1; omega
          have hlen := packTo_len HR.out j (by have := Hcl.out; omega)
          have hL : k3 ≤ 30000000 := by
            obtain ⟨_, _, he, _, _⟩ := own_form hown
            injection he with _ he _
            omega
          have hck : lf = true → (cc.over = 0 ∧ nv ≤ 64 ∨ ¬ cc.over = 0 ∧ nv = 0) := by
            intro h
            have h2 := hok.2
            rw [Hl.out, h] at h2
            simp only [if_true] at h2
            unfold cellP at h2
            by_cases h0 : cc.over = 0
            · rw [if_pos h0] at h2; left; omega
            · rw [if_neg h0] at h2; right; omega
          have Hpc := Lib.hid (show packTo N (j + 1) = packTo N j ++ packC lf (N.kids[j + 1]?.getD 0) cc by rw [packTo, Hl.out, hcj]; rfl)
          have Hck := Lib.hid hck
          have Hrk := Lib.hid hrk
          have Hrv := Lib.hid hrv
          have HM := Lib.hid (show PkM w wr.heap.size #[.slice Ak nk ck, .slice Av nv cv, .int .i64 cc.over, .int .i64 cc.long] #[.bool lf, .slice (some ⟨b, o, none⟩) n c, .slice K m d] (packTo N j) (.slice A3 k3 c3) (wr.alloc (.cells #[.slice Ak nk ck, .slice Av nv cv, .int .i64 cc.over, .int .i64 cc.long] 42)) from ⟨hown.alloc _, hbw.alloc hbw.size _, Bk.new _ _ _, hbk.alloc _⟩)
          have q1 : IntKind.u8.wrap (nk : Int) = (nk : Int) := by rw [IntKind.wrap_u8]; omega
          have s0 : (wr.alloc (.cells #[.slice Ak nk ck, .slice Av nv cv, .int .i64 cc.over, .int .i64 cc.long] 42)).cell? ⟨wr.heap.size, 0, none⟩ = some (.slice Ak nk ck) := HM.out.2.2.1.cell 0
          have hzr := hbk.lt
          clear k0 k1 k2 k3' hok hlen hrk hrv hown hbw hbk hcj HI hck
          generalize packTo N j = l0 at *
          go_upto_region 12 with (fail)
          generalize (wr.alloc (.cells #[.slice Ak nk ck, .slice Av nv cv, .int .i64 cc.over, .int .i64 cc.long] 42)) = w6 at *
          generalize hg5 : wr.heap.size = g5 at *
          go_upto_region 13 with (
            (with_reducible refine at_append ?_)
            refine ap_pk (HM.out.alloc _) (Rd.oneB w6 5 (x := (nk : Int)) (u := UInt8.ofNat nk) (by simp; omega)) (by omega) rfl rfl rfl ?_
            intro A7 c7 w7 h7)
          have s7 : w7.cell? ⟨g5, 0, none⟩ = some (.slice Ak nk ck) := h7.2.2.1.cell 0
          go_upto_if 55 with (
            (with_reducible refine at_append ?_)
            refine ap_pk h7 (Hrk.out.below h7.2.1 (Nat.le_refl _)) (by omega) rfl rfl rfl ?_
            intro A8 c8 w8 h8
            have s8 : w8.cell? ⟨w.heap.size, 0, none⟩ = some (.bool lf) := h8.2.2.2.cell 0)
          have H8 := Lib.hid h8
          have u1 : w8.cell? ⟨g5, 1, none⟩ = some (.slice Av nv cv) := h8.2.2.1.cell 1
          have u2 : w8.cell? ⟨g5, 2, none⟩ = some (.int .i64 cc.over) := h8.2.2.1.cell 2
          have u3 : w8.cell? ⟨g5, 3, none⟩ = some (.int .i64 cc.long) := h8.2.2.1.cell 3
          have u4 : w8.cell? ⟨w.heap.size, 2, none⟩ = some (.slice K m d) := h8.2.2.2.cell 2
          have hlk : cc.key.length = nk := hkl
          clear h8 h7 s7 e0 e1 e2 e3 q1 r1 s0 HM
          · skip
            cases lf
            · have hm := Hm6.out rfl
              subst hm
              obtain ⟨bk, ok, kv, rfl, hbk, hkv, hkc⟩ := Hr.out.ks.num (k := j + 1) (by show j + 1 < n + 1; omega)
              have e4 : w8.cell? ⟨bk, ok + (j + 1), none⟩ = some (.int .i64 kv) := (H8.out.2.1.cell (p := ⟨bk, ok + (j + 1), none⟩) (by show bk < _; omega)).trans hkc
              have hfin : packTo N (j + 1) = (l0 ++ [UInt8.ofNat nk] ++ cc.key) ++ leB kv 3 := by
                rw [Hpc.out, hkv]
                unfold packC
                rw [if_pos rfl, hlk]
                simp
              have Hfin := Lib.hid hfin
              have q1 : IntKind.i64.wrap ((j : Int) + 1) = (j : Int) + 1 := IntWalk.i64_in _ (by omega)
              have q3 : (0 : Int) ≤ (j : Int) + 1 := by omega
              have q4 : ((j : Int) + 1).toNat = j + 1 := by omega
              have q5 : (j : Int) + 1 < ((n + 1 : Nat) : Int) := by omega
              clear hfin hkv hkc
              go_wp2_with fail
              with_reducible refine (bytes_in (x := 3) (by decide) kv 3 rfl _).mono ?_
              rintro e w9 ⟨A9, c9, rfl, hr9, hb9⟩
              have h9 := H8.out.below hb9
              clear hb9
              go_wp2_with (
                at_builtin
                refine ap_pk h9 hr9 (by omega) rfl rfl rfl ?_
                intro A10 c10 w10 h10)
              have H10 := Lib.hid (And.intro h10.1 (And.intro h10.2.1 h10.2.2.2))
              clear h10 h9 hr9
              go_roundw
              case rel => exact ⟨j + 1, _, _, _, by go_num, rfl, by omega, Lib.hid (by rw [Hfin.out]; exact H10.out)⟩
              case measure => simp [intOf]; omega
            · by_cases h0 : cc.over = 0
              · have hz : (cc.over == 0) = true := by simpa using h0
                have hnv : nv ≤ 64 := by rcases Hck.out rfl with h | h <;> omega
                have hfin : packTo N (j + 1) = (l0 ++ [UInt8.ofNat nk] ++ cc.key) ++ leB (nv : Int) 2 ++ cc.val := by
                  rw [Hpc.out]
                  unfold packC
                  rw [if_neg (by simp), if_pos h0, hlk, hvl]
                  simp
                have Hfin := Lib.hid hfin
                clear hfin h0
                go_wp2_with fail
                with_reducible refine (bytes_in (x := 2) (by decide) (nv : Int) 2 rfl _).mono ?_
                rintro e w9 ⟨A9, c9, rfl, hr9, hb9⟩
                have h9 := H8.out.below hb9
                clear hb9
                go_upto_region 18 with (
                  (with_reducible refine at_append ?_)
                  refine ap_pk h9 hr9 (by omega) rfl rfl rfl ?_
                  intro A10 c10 w10 h10)
                have s10 : w10.cell? ⟨g5, 1, none⟩ = some (.slice Av nv cv) := h10.2.2.1.cell 1
                go_wp2_with (
                  (with_reducible refine at_append ?_)
                  refine ap_pk h10 (Hrv.out.below h10.2.1 (Nat.le_refl _)) (by omega) rfl rfl rfl ?_
                  intro A11 c11 w11 h11)
                have H11 := Lib.hid (And.intro h11.1 (And.intro h11.2.1 h11.2.2.2))
                clear h11 h10 h9 hr9 s10
                go_roundw
                case rel => exact ⟨j + 1, _, _, _, by go_num, rfl, by omega, Lib.hid (by rw [Hfin.out]; exact H11.out)⟩
                case measure => simp [intOf]; omega
              · have hz : (cc.over == 0) = false := by simpa using h0
                have hfin : packTo N (j + 1) = (l0 ++ [UInt8.ofNat nk] ++ cc.key) ++ leB cc.long 2 ++ leB cc.over 3 := by
                  rw [Hpc.out]
                  unfold packC
                  rw [if_neg (by simp), if_neg h0, hlk]
                  simp
                have Hfin := Lib.hid hfin
                clear hfin h0
                go_wp2_with fail
                with_reducible refine (bytes_in (x := 2) (by decide) cc.long 2 rfl _).mono ?_
                rintro e w9 ⟨A9, c9, rfl, hr9, hb9⟩
                have h9 := H8.out.below hb9
                clear hb9
                go_wp2_with (
                  at_builtin
                  refine ap_pk h9 hr9 (by omega) rfl rfl rfl ?_
                  intro A10 c10 w10 h10
                  have s10 : w10.cell? ⟨g5, 2, none⟩ = some (.int .i64 cc.over) := h10.2.2.1.cell 2)
                have H10 := Lib.hid h10
                clear h10 h9 hr9
                with_reducible refine (bytes_in (x := 3) (by decide) cc.over 3 rfl _).mono ?_
                rintro e w11 ⟨A11, c11, rfl, hr11, hb11⟩
                have h11 := H10.out.below hb11
                clear hb11
                go_wp2_with (
                  at_builtin
                  refine ap_pk h11 hr11 (by omega) rfl rfl rfl ?_
                  intro A12 c12 w12 h12)
                have H12 := Lib.hid (And.intro h12.1 (And.intro h12.2.1 h12.2.2.2))
                clear h12 h11 hr11 s10
                go_roundw
                case rel => exact ⟨j + 1, _, _, _, by go_num, rfl, by omega, Lib.hid (by rw [Hfin.out]; exact H12.out)⟩
                case measure => simp [intOf]; omega
        · obtain rfl : j = n := by omega
          have HO := Lib.hid (show wr.ownsRow w.heap.size 5 1 (.slice A3 k3 c3) (packN N).length (bys (packN N)) ∧ Below w.heap.size w wr from by
            unfold packN; rw [Hcl.out]; exact ⟨hown, hbw⟩)
          clear hown hbw hbk HI
          go_wp2_with fail
          go_ret
          exact ⟨_, rfl, HO.out.1, HO.out.2⟩
end Go.Proofs.YtelaliokmmaopaaDoor
