/- The document's store: Right, stamped. -/
import Derived.Test.YtknjopefbbldfaaGreatDoorVfsZ
namespace Go.Proofs.YtknjopefbbldfaaGreatDoor
open Go.RowKit
attribute [local go_sem ↓] Go.wp_at_zero Go.wp_at_succ

theorem okB_iff (u : UInt8) : okB u = true ↔ (97 ≤ u.toNat ∧ u.toNat ≤ 122) ∨ (48 ≤ u.toNat ∧ u.toNat ≤ 57) ∨ u.toNat = 46 ∨ u.toNat = 45 ∨ u.toNat = 47 := by
  have h : ∀ n, n < 256 → (okB (UInt8.ofNat n) = true ↔ (97 ≤ n ∧ n ≤ 122) ∨ (48 ≤ n ∧ n ≤ 57) ∨ n = 46 ∨ n = 45 ∨ n = 47) := by decide +kernel
  have := h u.toNat (UInt8.toNat_lt u)
  rwa [UInt8.ofNat_toNat] at this
theorem right_no {s : List UInt8} {i : Nat} {u : UInt8} (h : s[i]? = some u) (hu : ¬ okB u = true) : rightP s = false := by
  unfold rightP
  have : s.all okB = false := by
    rw [Bool.eq_false_iff]
    intro h2
    rw [List.all_eq_true] at h2
    exact hu (h2 u (List.mem_of_getElem? h))
  rw [this, Bool.and_false]
set_option maxHeartbeats 4000000 in
set_option maxRecDepth 100000 in
theorem rright_any (s : ByteArray) (w : World) (hs : s.size ≤ 1000000) :
    Calls Tryz.prog 45 #[.string s] w fun e w' => e = .returned (.bool (rightP s.data.toList)) ∧ w' = w := by
  have hlen : s.data.toList.length = s.size := (Lib.size_eq s).symm
  by_cases h1 : s.size < 1
  · have hr : rightP s.data.toList = false := by unfold rightP; rw [hlen, decide_eq_false (by omega)]; rfl
    rw [hr]
    have h1' : (s.size : Int) < 1 := by omega
    clear hr hlen
    go_enter Tryz.func45, Tryz.ntmps45
    go_wp2_with fail
    go_ret
    exact ⟨rfl, by first | rfl | trivial⟩
  · by_cases h2 : 24 < s.size
    · have hr : rightP s.data.toList = false := by unfold rightP; rw [hlen, decide_eq_false (by omega : ¬ s.size ≤ 24), Bool.and_false]; rfl
      rw [hr]
      have h1' : ¬ (s.size : Int) < 1 := by omega
      have h2' : (24 : Int) < (s.size : Int) := by omega
      clear hr hlen
      go_enter Tryz.func45, Tryz.ntmps45
      go_wp2_with fail
      go_ret
      exact ⟨rfl, by first | rfl | trivial⟩
    · have h1' : ¬ (s.size : Int) < 1 := by omega
      have h2' : ¬ (24 : Int) < (s.size : Int) := by omega
      have HL := Lib.hid (And.intro hlen (And.intro h1 h2))
      have hs24 : s.size ≤ 24 := by omega
      clear hlen h1 h2 hs
      go_enter Tryz.func45, Tryz.ntmps45
      go_wp2_with fail
      go_loopw [3] (fun s3 wr => ∃ i : Nat, s3 = .int .i64 (i : Int) ∧ i ≤ s.size ∧ wr = w ∧ Hid (∀ (j : Nat) (u : UInt8), j < i → s.data.toList[j]? = some u → okB u = true)) (fun s3 _ => s.size - (intOf s3).toNat)
      case atStart => exact ⟨0, rfl, Nat.zero_le _, rfl, Lib.hid (fun j u hj => by omega)⟩
      case round =>
        obtain ⟨i, rfl, hi, hw, HA⟩ := hrel
        replace hw := hw.symm
        subst hw
        by_cases hlt : i < s.size
        · have hu : s.data.toList[i]? = some (s[i]'hlt) := by rw [List.getElem?_eq_getElem (by have := HL.out.1; omega)]; rfl
          obtain ⟨U, hU⟩ : ∃ U, U = (s[i]'hlt).toNat := ⟨_, rfl⟩
          have hok := okB_iff (s[i]'hlt)
          rw [← hU] at hok
          have Hu := Lib.hid hu
          clear hu
          have hall : (97 ≤ U ∧ U ≤ 122) ∨ (48 ≤ U ∧ U ≤ 57) ∨ (U = 46) ∨ (U = 45) ∨ (U = 47) ∨ (U < 45) ∨ (58 ≤ U ∧ U ≤ 96) ∨ (123 ≤ U) := by omega
          rcases hall with hr | hr | hr | hr | hr | hr | hr | hr
          · have q0 : (97 : Int) ≤ ((s[i]'hlt).toNat : Int) := by rw [← hU]; omega
            have q1 : ((s[i]'hlt).toNat : Int) ≤ (122 : Int) := by rw [← hU]; omega
            have HOk := Lib.hid (hok.2 (by omega))
            have HA2 := Lib.hid (show ∀ (j : Nat) (u : UInt8), j < i + 1 → s.data.toList[j]? = some u → okB u = true from fun j u hj hju => by
              by_cases e : j = i
              · subst e; rw [Hu.out] at hju; injection hju with hju; rw [← hju]; exact HOk.out
              · exact HA.out j u (by omega) hju)
            clear hok hr hU
            go_wp2_with fail
            go_roundw
            case rel => exact ⟨i + 1, by rfl, by omega, by first | rfl | trivial, HA2⟩
            case measure => simp [intOf]; omega
          · have q0 : ¬ (97 : Int) ≤ ((s[i]'hlt).toNat : Int) := by rw [← hU]; omega
            have q1 : (48 : Int) ≤ ((s[i]'hlt).toNat : Int) := by rw [← hU]; omega
            have q2 : ((s[i]'hlt).toNat : Int) ≤ (57 : Int) := by rw [← hU]; omega
            have HOk := Lib.hid (hok.2 (by omega))
            have HA2 := Lib.hid (show ∀ (j : Nat) (u : UInt8), j < i + 1 → s.data.toList[j]? = some u → okB u = true from fun j u hj hju => by
              by_cases e : j = i
              · subst e; rw [Hu.out] at hju; injection hju with hju; rw [← hju]; exact HOk.out
              · exact HA.out j u (by omega) hju)
            clear hok hr hU
            go_wp2_with fail
            go_roundw
            case rel => exact ⟨i + 1, by rfl, by omega, by first | rfl | trivial, HA2⟩
            case measure => simp [intOf]; omega
          · have q0 : ((s[i]'hlt).toNat : Int) = (46 : Int) := by rw [← hU]; omega
            have HOk := Lib.hid (hok.2 (by omega))
            have HA2 := Lib.hid (show ∀ (j : Nat) (u : UInt8), j < i + 1 → s.data.toList[j]? = some u → okB u = true from fun j u hj hju => by
              by_cases e : j = i
              · subst e; rw [Hu.out] at hju; injection hju with hju; rw [← hju]; exact HOk.out
              · exact HA.out j u (by omega) hju)
            clear hok hr hU
            go_wp2_with fail
            go_roundw
            case rel => exact ⟨i + 1, by rfl, by omega, by first | rfl | trivial, HA2⟩
            case measure => simp [intOf]; omega
          · have q0 : ((s[i]'hlt).toNat : Int) = (45 : Int) := by rw [← hU]; omega
            have HOk := Lib.hid (hok.2 (by omega))
            have HA2 := Lib.hid (show ∀ (j : Nat) (u : UInt8), j < i + 1 → s.data.toList[j]? = some u → okB u = true from fun j u hj hju => by
              by_cases e : j = i
              · subst e; rw [Hu.out] at hju; injection hju with hju; rw [← hju]; exact HOk.out
              · exact HA.out j u (by omega) hju)
            clear hok hr hU
            go_wp2_with fail
            go_roundw
            case rel => exact ⟨i + 1, by rfl, by omega, by first | rfl | trivial, HA2⟩
            case measure => simp [intOf]; omega
          · have q0 : ((s[i]'hlt).toNat : Int) = (47 : Int) := by rw [← hU]; omega
            have HOk := Lib.hid (hok.2 (by omega))
            have HA2 := Lib.hid (show ∀ (j : Nat) (u : UInt8), j < i + 1 → s.data.toList[j]? = some u → okB u = true from fun j u hj hju => by
              by_cases e : j = i
              · subst e; rw [Hu.out] at hju; injection hju with hju; rw [← hju]; exact HOk.out
              · exact HA.out j u (by omega) hju)
            clear hok hr hU
            go_wp2_with fail
            go_roundw
            case rel => exact ⟨i + 1, by rfl, by omega, by first | rfl | trivial, HA2⟩
            case measure => simp [intOf]; omega
          · have q0 : ¬ (97 : Int) ≤ ((s[i]'hlt).toNat : Int) := by rw [← hU]; omega
            have q1 : ¬ (48 : Int) ≤ ((s[i]'hlt).toNat : Int) := by rw [← hU]; omega
            have q2 : (((s[i]'hlt).toNat : Int) == (46 : Int)) = false := by rw [beq_eq_false_iff_ne, ← hU]; omega
            have q3 : (((s[i]'hlt).toNat : Int) == (45 : Int)) = false := by rw [beq_eq_false_iff_ne, ← hU]; omega
            have q4 : (((s[i]'hlt).toNat : Int) == (47 : Int)) = false := by rw [beq_eq_false_iff_ne, ← hU]; omega
            have HNo := Lib.hid (right_no Hu.out (fun e => by have := hok.1 e; omega))
            clear hok hr hU
            go_wp2_with fail
            go_ret
            exact ⟨by (show Ending.returned (Value.bool false) = _); rw [HNo.out], by first | rfl | trivial⟩
          · have q0 : ¬ (97 : Int) ≤ ((s[i]'hlt).toNat : Int) := by rw [← hU]; omega
            have q1 : (48 : Int) ≤ ((s[i]'hlt).toNat : Int) := by rw [← hU]; omega
            have q2 : ¬ ((s[i]'hlt).toNat : Int) ≤ (57 : Int) := by rw [← hU]; omega
            have q3 : (((s[i]'hlt).toNat : Int) == (46 : Int)) = false := by rw [beq_eq_false_iff_ne, ← hU]; omega
            have q4 : (((s[i]'hlt).toNat : Int) == (45 : Int)) = false := by rw [beq_eq_false_iff_ne, ← hU]; omega
            have q5 : (((s[i]'hlt).toNat : Int) == (47 : Int)) = false := by rw [beq_eq_false_iff_ne, ← hU]; omega
            have HNo := Lib.hid (right_no Hu.out (fun e => by have := hok.1 e; omega))
            clear hok hr hU
            go_wp2_with fail
            go_ret
            exact ⟨by (show Ending.returned (Value.bool false) = _); rw [HNo.out], by first | rfl | trivial⟩
          · have q0 : (97 : Int) ≤ ((s[i]'hlt).toNat : Int) := by rw [← hU]; omega
            have q1 : ¬ ((s[i]'hlt).toNat : Int) ≤ (122 : Int) := by rw [← hU]; omega
            have q2 : (48 : Int) ≤ ((s[i]'hlt).toNat : Int) := by rw [← hU]; omega
            have q3 : ¬ ((s[i]'hlt).toNat : Int) ≤ (57 : Int) := by rw [← hU]; omega
            have q4 : (((s[i]'hlt).toNat : Int) == (46 : Int)) = false := by rw [beq_eq_false_iff_ne, ← hU]; omega
            have q5 : (((s[i]'hlt).toNat : Int) == (45 : Int)) = false := by rw [beq_eq_false_iff_ne, ← hU]; omega
            have q6 : (((s[i]'hlt).toNat : Int) == (47 : Int)) = false := by rw [beq_eq_false_iff_ne, ← hU]; omega
            have HNo := Lib.hid (right_no Hu.out (fun e => by have := hok.1 e; omega))
            clear hok hr hU
            go_wp2_with fail
            go_ret
            exact ⟨by (show Ending.returned (Value.bool false) = _); rw [HNo.out], by first | rfl | trivial⟩
        · have hiN : i = s.size := by omega
          have hq : rightP s.data.toList = true := by
            unfold rightP
            have ha : s.data.toList.all okB = true := by
              rw [List.all_eq_true]
              intro u hu
              obtain ⟨j, hj, e⟩ := List.mem_iff_getElem.1 hu
              exact HA.out j u (by have := HL.out.1; omega) (by rw [List.getElem?_eq_getElem hj, e])
            rw [ha, HL.out.1, decide_eq_true (by have := HL.out.2.1; omega), decide_eq_true hs24]; rfl
          have Hq := Lib.hid hq
          clear hq
          go_wp2_with fail
          go_ret
          exact ⟨by (show Ending.returned (Value.bool true) = _); rw [Hq.out], by first | rfl | trivial⟩
end Go.Proofs.YtknjopefbbldfaaGreatDoor
/- The document's store: stamped, drop. -/
namespace Go.Proofs.YtknjopefbbldfaaGreatDoor
open Go.RowKit
attribute [local go_sem ↓] Go.wp_at_zero Go.wp_at_succ

set_option maxHeartbeats 4000000 in
/-- stamped: the store's stamp, and the file's. -/
theorem rstamped_any (r b st : Nat) (a0 a1 a3 a4 c0 c1 c2 c3 c4 : Value) (w : World) (h : Bk w r 48 #[a0, a1, .int .i64 (st : Int), a3, a4]) (hb : Bk w b 62 #[c0, c1, c2, c3, c4]) (hst : st ≤ 1000000) :
    Calls Tryz.prog 48 #[.pointer (some ⟨r, 0, none⟩), .pointer (some ⟨b, 0, none⟩)] w fun e w' =>
      e = .returned (.tuple #[]) ∧ Bk w' r 48 #[a0, a1, .int .i64 ((st + 1 : Nat) : Int), a3, a4] ∧ Bk w' b 62 #[c0, c1, c2, c3, .int .i64 ((st + 1 : Nat) : Int)] ∧ Ch (fun i => i = r ∨ i = b) w w' := by
  have hne : r ≠ b := Bk.ne h hb (by decide)
  obtain ⟨s1, hs1⟩ : ∃ s1 : Int, s1 = ((st + 1 : Nat) : Int) := ⟨_, rfl⟩
  rw [← hs1]
  have d1 : w.cell? ⟨r, 2, none⟩ = some (.int .i64 (st : Int)) := h.cell 2
  have f1 := h.free 2
  have g2 : (w.setCell ⟨r, 2, none⟩ (.int .i64 s1)).cell? ⟨b, 4, none⟩ = some c4 := (hb.far (p := ⟨r, 2, none⟩) (Ne.symm hne) _).cell 4
  have g3 := (hb.far (p := ⟨r, 2, none⟩) (Ne.symm hne) (.int .i64 s1)).free 4
  have d1' : (w.setCell ⟨r, 2, none⟩ (.int .i64 s1)).cell? ⟨r, 2, none⟩ = some (.int .i64 s1) := (h.set 2 _).cell 2
  have H1 := Lib.hid ((h.set 2 (.int .i64 s1)).far (p := ⟨b, 4, none⟩) hne (.int .i64 s1))
  have H2 := Lib.hid ((hb.far (p := ⟨r, 2, none⟩) (Ne.symm hne) (.int .i64 s1)).set 4 (.int .i64 s1))
  have HC := Lib.hid (((Ch.refl (fun i => i = r ∨ i = b) w).set (p := ⟨r, 2, none⟩) (.inl (.inl rfl)) (.int .i64 s1)).set (p := ⟨b, 4, none⟩) (.inl (.inr rfl)) (.int .i64 s1))
  have e1 : (st : Int) + 1 = s1 := by rw [hs1]; omega
  have hsb : s1 ≤ 1000001 := by omega
  have hsb0 : 0 ≤ s1 := by omega
  clear h hb hne hs1
  go_enter Tryz.func48, Tryz.ntmps48
  go_wp2
  go_end0
  exact ⟨rfl, H1.out, H2.out, HC.out⟩
end Go.Proofs.YtknjopefbbldfaaGreatDoor
/- The document's store: rows of pointers; drop. -/
namespace Go.Proofs.YtknjopefbbldfaaGreatDoor
open Go.RowKit
attribute [local go_sem ↓] Go.wp_at_zero Go.wp_at_succ

def ptrs (Rs : List RfR) : List Value := Rs.map fun R => Value.pointer (some ⟨R.b, 0, none⟩)
theorem ptrs_one (Rs : List RfR) : ∀ u ∈ ptrs Rs, u.oneCell' = true := by
  intro u hu; simp only [ptrs, List.mem_map] at hu; obtain ⟨x, _, rfl⟩ := hu; rfl
theorem infoPt : (Tryz.prog.info? 59).map (fun i => (i.zero, i.size, i.bytes)) = some (some (.pointer none), 1, 8) := by kernel_rfl
/-- append of one pointer. -/
theorem ap_pt {w : World} {ops : Array Oper} {rest : List Oper} {a : Act} {Q : Exit → Act → World → Prop} {d : Option Tmp} {ty : TypeId} {pos : String} {af : Array Edge} {g : Option (Nat × Bool)} {s x : Operand} {base : Nat}
    {v : Value} {n c b : Nat} {Rs : List RfR} {R : RfR} (hown : w.ownsRow base 59 1 v n (ptrs Rs)) (hn : n ≤ 1000000) (hbase : base ≤ w.heap.size) (hb : Bk w b 59 #[.pointer (some ⟨R.b, 0, none⟩)]) (hs : a.eval s = v) (hx : a.eval x = .slice (some ⟨b, 0, none⟩) 1 c)
    (hw : Region.wanted { dst := d, op := .call { callee := .builtin .append, args := #[s, x], argTypes := #[46, 46] }, type := ty, pos := pos, after := af, guard := g } (yielded ops a.tmps) = true)
    (h : ∀ v' w', w'.ownsRow base 59 1 v' (n + 1) (ptrs (Rs ++ [R])) → Below base w w' → w.grownBy w' v.ownBlock → wpList Tryz.prog ops Q rest (a.put d v') w') :
    wpList Tryz.prog ops Q ({ dst := d, op := .call { callee := .builtin .append, args := #[s, x], argTypes := #[46, 46] }, type := ty, pos := pos, after := af, guard := g } :: rest) a w := by
  obtain ⟨i0, hi, hz0, hz1, hz2⟩ := info_parts infoPt
  have hr : Rd w w.heap.size 1 (some ⟨b, 0, none⟩) 1 [Value.pointer (some ⟨R.b, 0, none⟩)] := ⟨rfl, fun _ => ⟨b, 0, rfl, hb.lt, fun j u hj => by
    match j, hj with
    | 0, hj => simp at hj; subst hj; exact hb.cell 0
    | j + 1, hj => simp at hj⟩⟩
  exact ap_any Tryz.underlying46 hi hz0 hz1 hz2 rfl (by decide) hown hr (by intro u hu; simp at hu; subst hu; rfl) (Below.refl base w) hbase (by omega) hs hx hw (fun v' w' h1 h2 h3 _ => h v' w' (by unfold ptrs at h1 ⊢; rw [List.map_append]; exact h1) h2 h3)
theorem erase_step {α : Type} {l : List α} {i k : Nat} {x : α} (hx : l[k]? = some x) : (l.take (k + 1)).eraseIdx i = if k = i then (l.take k).eraseIdx i else (l.take k).eraseIdx i ++ [x] := by
  have hk := (List.getElem?_eq_some_iff.1 hx).1
  rw [take_step hx]
  by_cases h : k = i
  · subst h
    have hl : (l.take k).length = k := by rw [List.length_take]; omega
    have e1 : (l.take k ++ [x]).eraseIdx k = l.take k := by
      rw [List.eraseIdx_append_of_length_le (by omega), hl, Nat.sub_self]; simp
    have e2 : (l.take k).eraseIdx k = l.take k := List.eraseIdx_of_length_le (by omega)
    rw [if_pos rfl, e1, e2]
  · rw [if_neg h]
    by_cases h2 : i < k
    · rw [List.eraseIdx_append_of_lt_length (by rw [List.length_take]; omega)]
    · rw [List.eraseIdx_append_of_length_le (by rw [List.length_take]; omega), List.eraseIdx_of_length_le (k := i) (l := l.take k) (by rw [List.length_take]; omega)]
      have e : i - (l.take k).length ≠ 0 := by rw [List.length_take]; omega
      cases hq : i - (l.take k).length with
      | zero => exact absurd hq e
      | succ m => rfl
set_option maxHeartbeats 4000000 in
set_option maxRecDepth 100000 in
theorem drop_row (r : Nat) (vL : Value) (Rs : List RfR) (S : FsP) (i : Nat) (w : World) (h : RfM w r vL Rs S) (hn : Rs.length ≤ 1000000) (hi : i < Rs.length) :
    Calls Tryz.prog 51 #[.pointer (some ⟨r, 0, none⟩), .int .i64 (i : Int)] w fun e w' => e = .returned (.tuple #[]) ∧ ∃ v, w'.ownsRow w.heap.size 59 1 v (Rs.eraseIdx i).length (ptrs (Rs.eraseIdx i)) ∧ Bk w' r 48 #[v, .int .i64 (S.most : Int), .int .i64 (S.stamp : Int), .int .i64 S.fuse, .bool S.down] ∧ Ch (fun k => k = r) w w' := by
  obtain ⟨A, c, hvL, hc1, hc2⟩ := own_form h.row
  have H := Lib.hid h
  have d0 : w.cell? ⟨r, 0, none⟩ = some (.slice A Rs.length c) := by rw [← hvL]; exact h.hd.cell 0
  obtain ⟨N, hN⟩ : ∃ N, N = Rs.length := ⟨_, rfl⟩
  rw [← hN] at d0
  have HN := Lib.hid (And.intro hN (And.intro hvL hi))
  have hNb : N ≤ 1000000 := by omega
  have hib : i < 1000000 := by omega
  clear h hvL hc1 hc2 hN hn hi d0
  go_enter Tryz.func51, Tryz.ntmps51
  go_wp2_with fail
  go_loopw [4, 5] (fun s4 s5 wr => ∃ k : Nat, s5 = .int .i64 (k : Int) ∧ k ≤ N ∧ Hid (wr.ownsRow w.heap.size 59 1 s4 ((Rs.take k).eraseIdx i).length (ptrs ((Rs.take k).eraseIdx i)) ∧ Below w.heap.size w wr)) (fun _ s5 _ => N - (intOf s5).toNat)
  case atStart => exact ⟨0, rfl, Nat.zero_le _, Lib.hid ⟨World.ownsRow_nil _ _ _ _, Below.refl _ _⟩⟩
  case round =>
    obtain ⟨k, rfl, hk, HR⟩ := hrel
    obtain ⟨A4, c4, rfl, hc4, hc5⟩ := own_form HR.out.1
    have hbr := H.out.hd.below HR.out.2 H.out.hd.lt
    obtain ⟨hN, hvL, hi⟩ := id HN.out
    have d0 : wr.cell? ⟨r, 0, none⟩ = some (.slice A N c) := by rw [hN, ← hvL]; exact hbr.cell 0
    by_cases hlt : k < N
    · have hkR : k < Rs.length := by omega
      obtain ⟨g, c', hv9, hcell⟩ := H.out.ptr (List.getElem?_eq_getElem hkR)
      have hlt9 : g < w.heap.size := by
        have := (H.out.row.lt g (by rw [hv9]; rfl)).2
        exact this
      rw [hvL] at hv9
      injection hv9 with hv1 hv2 hv3
      subst hv1
      have dk : wr.cell? ⟨g, k, none⟩ = some (.pointer (some ⟨Rs[k].b, 0, none⟩)) := (HR.out.2.cell (p := ⟨g, k, none⟩) hlt9).trans hcell
      have hst := erase_step (i := i) (List.getElem?_eq_getElem hkR)
      have hsz := HR.out.2.size
      have hlen : ((Rs.take k).eraseIdx i).length ≤ 1000000 := by
        have h1 := List.length_eraseIdx_le (Rs.take k) i
        rw [List.length_take] at h1
        omega
      by_cases hki : k = i
      · rw [if_pos hki] at hst
        have hq : ((k : Int) != (i : Int)) = false := by simp [hki]
        have HS := Lib.hid (show wr.ownsRow w.heap.size 59 1 (.slice A4 ((Rs.take k).eraseIdx i).length c4) ((Rs.take (k + 1)).eraseIdx i).length (ptrs ((Rs.take (k + 1)).eraseIdx i)) ∧ Below w.heap.size w wr from by rw [hst]; exact HR.out)
        clear hst hkR hcell hlt9 hv2 hv3 hbr hN hvL hi hki dk HR hlen hsz hc4 hc5
        go_wp2_with fail
        go_roundw
        case rel => exact ⟨k + 1, by rfl, by omega, HS⟩
        case measure => simp [intOf]; omega
      · rw [if_neg hki] at hst
        have hq : ((k : Int) != (i : Int)) = true := by simp; omega
        have Hst := Lib.hid hst
        have Hki := Lib.hid hki
        generalize hRk : Rs[k] = Rk at *
        clear hst hkR hcell hlt9 hv2 hv3 hbr hN hvL hi hki hRk hc4 hc5
        go_wp2_with (with_reducible refine at_append ?_; (apply ap_pt (c := 1) (R := Rk) (b := wr.heap.size) (HR.out.1.alloc _) hlen); (case hbase => simp; omega); (case hb => exact Bk.new wr _ _); (case hs => kernel_rfl); (case hx => kernel_rfl); (case hw => kernel_rfl); intro v9 w9 o9 b9 g9; replace o9 := Lib.hid o9; replace b9 := Lib.hid b9; clear g9; try go_frame)
        go_roundw
        case rel =>
          refine ⟨k + 1, by rfl, by omega, Lib.hid ⟨?_, (HR.out.2.alloc hsz _).trans (b9.out.mono (Nat.le_refl _))⟩⟩
          have := o9.out
          rw [← Hst.out] at this
          rw [show ((Rs.take (k + 1)).eraseIdx i).length = ((Rs.take k).eraseIdx i).length + 1 by rw [Hst.out]; simp]
          exact this
        case measure => simp [intOf]; omega
    · have hkN : N = k := by omega
      have f0 := hbr.free 0
      have HB := Lib.hid (hbr.set 0 (.slice A4 ((Rs.take k).eraseIdx i).length c4))
      have HO := Lib.hid (show wr.ownsRow w.heap.size 59 1 (.slice A4 ((Rs.take k).eraseIdx i).length c4) (Rs.eraseIdx i).length (ptrs (Rs.eraseIdx i)) from by
        have := HR.out.1
        rw [List.take_of_length_le (by omega : Rs.length ≤ k)] at this ⊢
        exact this)
      have Hr := Lib.hid H.out.hd.lt
      clear hbr hN hvL hi hc4 hc5
      subst hkN
      go_wp2_with fail
      go_end0
      refine ⟨rfl, _, own_heap' HO.out (fun q hq => Below.heap_setCell _ _ _ q (fun e => ?_)), HB.out, (Ch.of_below (S := fun k => k = r) HR.out.2 (Nat.le_refl _)).set (p := ⟨r, 0, none⟩) (.inl rfl) _⟩
      have := (HO.out.lt q hq).1
      have := Hr.out
      dsimp only at e
      omega
end Go.Proofs.YtknjopefbbldfaaGreatDoor
/- The document's store: drop, of a store. -/
namespace Go.Proofs.YtknjopefbbldfaaGreatDoor
open Go.RowKit

theorem use_sub {a b : List (List UInt8 × FlP)} (h : a.Sublist b) : useP a ≤ useP b := by
  induction h with
  | slnil => exact Nat.le_refl _
  | cons x _ ih => unfold useP at *; simp only [List.map_cons, List.sum_cons]; omega
  | cons_cons x _ ih => unfold useP at *; simp only [List.map_cons, List.sum_cons]; omega
theorem erase_wf {S : FsP} (h : S.WF) (i : Nat) : ({ S with fs := S.fs.eraseIdx i } : FsP).WF := by
  have hs := List.eraseIdx_sublist S.fs i
  exact ⟨h.most1, h.most2, h.fuse1, h.fuse2, fun p hp => h.files p (hs.subset hp), h.order.sublist hs, Nat.le_trans (use_sub hs) h.room, fun p hp => h.names p (hs.subset hp)⟩
theorem drop_any (r : Nat) (vL : Value) (Rs : List RfR) (S : FsP) (i : Nat) (w : World) (h : RfM w r vL Rs S) (hn : Rs.length ≤ 1000000) (hi : i < Rs.length) :
    Calls Tryz.prog 51 #[.pointer (some ⟨r, 0, none⟩), .int .i64 (i : Int)] w fun e w' => e = .returned (.tuple #[]) ∧ ∃ v, RfM w' r v (Rs.eraseIdx i) { S with fs := S.fs.eraseIdx i } ∧ (∀ k, v.ownBlock = some k → w.heap.size ≤ k) ∧ Ch (fun k => k = r) w w' := by
  refine (drop_row r vL Rs S i w h hn hi).mono ?_
  rintro e w' ⟨rfl, v, h1, h2, h3⟩
  have hlen := h.len
  refine ⟨rfl, v, ⟨h2, own_base h1 (Nat.zero_le _), ?_, fun j R p hR hp => ?_, h.ap.sublist (List.eraseIdx_sublist Rs i), erase_wf h.wf i⟩, fun k hk => (h1.lt k hk).1, h3⟩
  · show (Rs.eraseIdx i).length = (S.fs.eraseIdx i).length
    rw [List.length_eraseIdx, List.length_eraseIdx, hlen]
  · have hp' : (S.fs.eraseIdx i)[j]? = some p := hp
    rw [List.getElem?_eraseIdx] at hR hp'
    have keep : ∀ (q : Nat) (R : RfR), Rs[q]? = some R → ∀ k, R.has k → w'.heap[k]? = w.heap[k]? := fun q R hq k hk => h3.block k (h.lt k (.inr (.inr ⟨R, List.mem_of_getElem? hq, hk⟩))) (h.ner k (.inr ⟨R, List.mem_of_getElem? hq, hk⟩))
    by_cases hj : j < i
    · rw [if_pos hj] at hR hp'
      exact (h.fl j R p hR hp').heap (keep j R hR)
    · rw [if_neg hj] at hR hp'
      exact (h.fl (j + 1) R p hR hp').heap (keep (j + 1) R hR)
end Go.Proofs.YtknjopefbbldfaaGreatDoor
/- The document's store, in plain words: dropping a name, setting a file, by their places. -/
namespace Go.Proofs.YtknjopefbbldfaaGreatDoor
open Go.RowKit

theorem drop_at : ∀ {l : List (List UInt8 × FlP)} {n : List UInt8} {i : Nat} {x : FlP}, l.Pairwise (fun p q => p.1 < q.1) → l[i]? = some (n, x) → dropP n l = l.eraseIdx i
  | [], _, _, _, _, h => by simp at h
  | p :: r, n, 0, x, ho, h => by
    obtain ⟨h1, h2⟩ := List.pairwise_cons.1 ho
    have hp : p = (n, x) := by simpa using h
    subst hp
    unfold dropP
    rw [List.filter_cons_of_neg (by simp), List.eraseIdx_cons_zero, List.filter_eq_self.2 (fun q hq => by
      have := h1 q hq
      simp only [bne_iff_ne, ne_eq]
      rintro e
      exact lt_irr _ (e ▸ this))]
  | p :: r, n, i + 1, x, ho, h => by
    obtain ⟨h1, h2⟩ := List.pairwise_cons.1 ho
    have h3 : r[i]? = some (n, x) := by simpa using h
    have ih := drop_at h2 h3
    have hne : p.1 ≠ n := fun e => by
      have := h1 (n, x) (List.mem_of_getElem? h3)
      exact lt_irr _ (e ▸ this)
    unfold dropP at ih ⊢
    rw [List.filter_cons_of_pos (by simpa using hne), List.eraseIdx_cons_succ, ih]
theorem set_at : ∀ {l : List (List UInt8 × FlP)} {n : List UInt8} {i : Nat} {x : FlP} (y : FlP), l.Pairwise (fun p q => p.1 < q.1) → l[i]? = some (n, x) → setP n y l = l.set i (n, y)
  | [], _, _, _, _, _, h => by simp at h
  | p :: r, n, 0, x, y, ho, h => by
    obtain ⟨h1, h2⟩ := List.pairwise_cons.1 ho
    have hp : p = (n, x) := by simpa using h
    subst hp
    unfold setP
    rw [List.map_cons, if_pos rfl, List.set_cons_zero]
    congr 1
    refine (List.map_congr_left (fun q hq => ?_)).trans (List.map_id' r)
    have := h1 q hq
    rw [if_neg]
    rintro e
    exact lt_irr _ (e ▸ this)
  | p :: r, n, i + 1, x, y, ho, h => by
    obtain ⟨h1, h2⟩ := List.pairwise_cons.1 ho
    have h3 : r[i]? = some (n, x) := by simpa using h
    have ih := set_at y h2 h3
    have hne : p.1 ≠ n := fun e => by
      have := h1 (n, x) (List.mem_of_getElem? h3)
      exact lt_irr _ (e ▸ this)
    unfold setP at ih ⊢
    rw [List.map_cons, if_neg hne, List.set_cons_succ, ih]
end Go.Proofs.YtknjopefbbldfaaGreatDoor
/- The document's store, in plain words: where a name belongs; a row with one more. -/
namespace Go.Proofs.YtknjopefbbldfaaGreatDoor
open Go.RowKit

/-- Where a name belongs. -/
def posP (n : List UInt8) : List (List UInt8 × FlP) → Nat
  | [] => 0
  | (m, _) :: r => if n < m then 0 else posP n r + 1
theorem posP_le (n : List UInt8) : ∀ l, posP n l ≤ l.length
  | [] => Nat.le_refl _
  | (m, y) :: r => by
    unfold posP
    split
    · exact Nat.zero_le _
    · have := posP_le n r; simp only [List.length_cons]; omega
theorem posP_no (n : List UInt8) : ∀ (l : List (List UInt8 × FlP)) (j : Nat) (p : List UInt8 × FlP), j < posP n l → l[j]? = some p → ¬ n < p.1
  | [], j, p, h, _ => by simp [posP] at h
  | (m, y) :: r, j, p, h, hp => by
    unfold posP at h
    split at h
    · omega
    · rename_i hn
      cases j with
      | zero => simp at hp; subst hp; exact hn
      | succ j => exact posP_no n r j p (by omega) (by simpa using hp)
theorem posP_at (n : List UInt8) : ∀ (l : List (List UInt8 × FlP)) (p : List UInt8 × FlP), l[posP n l]? = some p → n < p.1
  | [], p, h => by simp [posP] at h
  | (m, y) :: r, p, hp => by
    unfold posP at hp
    split at hp
    · rename_i hn; simp at hp; subst hp; exact hn
    · exact posP_at n r p (by simpa using hp)
theorem ins_at (n : List UInt8) (x : FlP) : ∀ l, insP n x l = l.take (posP n l) ++ (n, x) :: l.drop (posP n l)
  | [] => rfl
  | (m, y) :: r => by
    unfold insP posP
    split
    · rfl
    · simp only [List.take_succ_cons, List.drop_succ_cons, List.cons_append]
      rw [ins_at n x r]
theorem mid_get {α : Type} {l : List α} {p : Nat} {y : α} (hp : p ≤ l.length) (j : Nat) : (l.take p ++ y :: l.drop p)[j]? = if j < p then l[j]? else if j = p then some y else l[j - 1]? := by
  have hl : (l.take p).length = p := by rw [List.length_take]; omega
  by_cases h1 : j < p
  · rw [if_pos h1, List.getElem?_append_left (by omega), List.getElem?_take, if_pos h1]
  · rw [if_neg h1, List.getElem?_append_right (by omega), hl]
    by_cases h2 : j = p
    · rw [if_pos h2, h2, Nat.sub_self]; rfl
    · rw [if_neg h2]
      obtain ⟨q, hq⟩ : ∃ q, j - p = q + 1 := ⟨j - p - 1, by omega⟩
      rw [hq, List.getElem?_cons_succ, List.getElem?_drop]
      congr 1; omega
theorem mid_len {α : Type} {l : List α} {p : Nat} {y : α} (hp : p ≤ l.length) : (l.take p ++ y :: l.drop p).length = l.length + 1 := by
  rw [List.length_append, List.length_cons, List.length_take, List.length_drop]; omega
/-- What has been put so far. -/
def outR {α : Type} (l : List α) (p : Nat) (y : α) (k : Nat) : List α := if p < k then l.take p ++ y :: (l.take k).drop p else l.take k
theorem outR_len {α : Type} {l : List α} {p : Nat} {y : α} {k : Nat} (hk : k ≤ l.length) : (outR l p y k).length = k + if p < k then 1 else 0 := by
  unfold outR
  by_cases h : p < k
  · rw [if_pos h, if_pos h, List.length_append, List.length_cons, List.length_take, List.length_drop, List.length_take]; omega
  · rw [if_neg h, if_neg h, List.length_take]; omega
theorem outR_no {α : Type} {l : List α} {p : Nat} {y x : α} {k : Nat} (hx : l[k]? = some x) (h : p ≠ k) : outR l p y (k + 1) = outR l p y k ++ [x] := by
  have hk := (List.getElem?_eq_some_iff.1 hx).1
  unfold outR
  by_cases h1 : p < k
  · rw [if_pos h1, if_pos (by omega), take_step hx, List.drop_append_of_le_length (by rw [List.length_take]; omega)]
    simp
  · rw [if_neg h1, if_neg (by omega), take_step hx]
theorem outR_at {α : Type} {l : List α} {y x : α} {k : Nat} (hx : l[k]? = some x) : outR l k y (k + 1) = (outR l k y k ++ [y]) ++ [x] := by
  have hk := (List.getElem?_eq_some_iff.1 hx).1
  unfold outR
  rw [if_pos (by omega), if_neg (by omega), take_step hx, List.drop_append_of_le_length (by rw [List.length_take]; omega)]
  rw [List.drop_of_length_le (by rw [List.length_take]; omega)]
  simp
theorem outR_end {α : Type} {l : List α} {p : Nat} {y : α} (hp : p ≤ l.length) : l.take p ++ y :: l.drop p = if p < l.length then outR l p y l.length else outR l p y l.length ++ [y] := by
  unfold outR
  by_cases h : p < l.length
  · rw [if_pos h, if_pos h, List.take_length]
  · have : p = l.length := by omega
    subst this
    rw [if_neg h, if_neg h, List.drop_of_length_le (Nat.le_refl _)]
end Go.Proofs.YtknjopefbbldfaaGreatDoor
