/- Contracts of package pager: lay. -/
import Derived.Test.YtoadamkmabkldaaGreatDoorJn18
set_option linter.unusedVariables false
set_option linter.unusedSimpArgs false
namespace Go.Proofs.YtoadamkmabkldaaGreatDoor
open Go.RowKit
attribute [local go_sem ↓] Go.wp_at_zero Go.wp_at_succ
/-- Pages to be written, in memory: their blocks are among those of V. -/
def RdWr (W : World) (V : Nat → Prop) (A : Option Addr) (n : Nat) (l : List (Nat × List UInt8)) : Prop :=
  l.length = n ∧ (0 < n → ∃ b o, A = some ⟨b, o, none⟩ ∧ V b ∧ b < W.heap.size ∧ ∀ i q, l[i]? = some q → W.cell? ⟨b, o + i * 2, none⟩ = some (.int .i64 (q.1 : Int)) ∧
    ∃ b1 o1 n1 c1, W.cell? ⟨b, o + i * 2 + 1, none⟩ = some (.slice (some ⟨b1, o1, none⟩) n1 c1) ∧ n1 = q.2.length ∧ n1 ≤ c1 ∧ c1 ≤ maxLen ∧ V b1 ∧ b1 < W.heap.size ∧ Rs W b1 (some ⟨b1, o1, none⟩) q.2)
theorem RdWr.heap {W W' : World} {V : Nat → Prop} {A : Option Addr} {n : Nat} {l : List (Nat × List UInt8)} (h : RdWr W V A n l) (hz : W.heap.size ≤ W'.heap.size) (hk : ∀ i, V i → i < W.heap.size → W'.heap[i]? = W.heap[i]?) : RdWr W' V A n l := by
  refine ⟨h.1, fun h0 => ?_⟩
  obtain ⟨b, o, h1, h2, h3, h4⟩ := h.2 h0
  refine ⟨b, o, h1, h2, by omega, fun i q hq => ?_⟩
  obtain ⟨k1, b1, o1, n1, c1, k2, k3, k4, k5, k6, k7, k8⟩ := h4 i q hq
  refine ⟨(World.cell?_of_block (a := ⟨b, o + i * 2, none⟩) (hk b h2 h3)).trans k1, b1, o1, n1, c1, (World.cell?_of_block (a := ⟨b, o + i * 2 + 1, none⟩) (hk b h2 h3)).trans k2, k3, k4, k5, k6, by omega, k8.heap (hk b1 k6 k7)⟩
theorem RdWr.mono {W : World} {V V' : Nat → Prop} {A : Option Addr} {n : Nat} {l : List (Nat × List UInt8)} (h : RdWr W V A n l) (hV : ∀ i, V i → i < W.heap.size → V' i) : RdWr W V' A n l := by
  refine ⟨h.1, fun h0 => ?_⟩
  obtain ⟨b, o, h1, h2, h3, h4⟩ := h.2 h0
  refine ⟨b, o, h1, hV b h2 h3, h3, fun i q hq => ?_⟩
  obtain ⟨k1, b1, o1, n1, c1, k2, k3, k4, k5, k6, k7, k8⟩ := h4 i q hq
  exact ⟨k1, b1, o1, n1, c1, k2, k3, k4, k5, hV b1 k6 k7, k7, k8⟩
theorem runS_at {S1 : FsP} (k : FsP → Nat × FsP) (B : List (FsP → Nat × FsP)) : ∀ {A : List (FsP → Nat × FsP)} {S : FsP}, runS S A = (0, S1) → runS S (A ++ k :: B) = if (k S1).1 = 0 then runS (k S1).2 B else k S1
  | [], S, h => by
    have : S = S1 := congrArg (·.2) h
    subst this; rfl
  | j :: r, S, h => by
    unfold runS at h
    by_cases e : (j S).1 = 0
    · rw [if_pos e] at h
      rw [List.cons_append, runS, if_pos e]
      exact runS_at k B h
    · rw [if_neg e] at h
      exact absurd (by rw [h]) e
theorem writeP_stamp (S : FsP) (n : List UInt8) (p : Int) (b : List UInt8) : (writeP S n p b).2.stamp ≤ S.stamp + 1 := by
  have hb := (burntP_parts S).2.1
  unfold writeP
  split
  · exact Nat.le_succ _
  · split
    · exact Nat.le_succ _
    · split
      · exact Nat.le_succ _
      · split
        · exact Nat.le_succ _
        · split
          · exact Nat.le_succ _
          · split
            · show (burntP S).stamp ≤ _; omega
            · exact Nat.le_refl _
theorem layP_at {nm : List UInt8} {l : List (Nat × List UInt8)} {S S1 : FsP} {i : Nat} {q : Nat × List UInt8} (h : runS S ((l.take i).map (layOne nm)) = (0, S1)) (hq : l[i]? = some q) :
    runS S ((l.take (i + 1)).map (layOne nm)) = layOne nm q S1 ∧ ((layOne nm q S1).1 ≠ 0 → layP nm l S = layOne nm q S1) := by
  constructor
  · rw [take_step hq, List.map_append, List.map_cons, List.map_nil, runS_at _ _ h]
    split
    · rename_i e; show (0, _) = _; rw [← e]
    · rfl
  · intro hne
    have hlt := (List.getElem?_eq_some_iff.1 hq).1
    have e : l = l.take i ++ q :: l.drop (i + 1) := by
      have e2 := List.take_append_drop i l
      rw [List.drop_eq_getElem_cons hlt, (List.getElem?_eq_some_iff.1 hq).2] at e2
      exact e2.symm
    unfold layP
    conv => lhs; rw [e]
    rw [List.map_append, List.map_cons, List.append_assoc, List.cons_append, runS_at _ _ h, if_neg hne]
theorem layP_end {nm : List UInt8} {l : List (Nat × List UInt8)} {S S1 : FsP} (h : runS S (l.map (layOne nm)) = (0, S1)) : layP nm l S = syncF S1 (dbN nm) := by
  unfold layP
  rw [runS_at _ _ h]
  split
  · rename_i e; show (0, _) = _; rw [← e]
  · rfl
theorem box2 (W : World) (u v : Value) : (W.alloc (.cells #[u, v] 122)).cell? ⟨W.heap.size, 0, none⟩ = some u ∧ (W.alloc (.cells #[u, v] 122)).cell? ⟨W.heap.size, 1, none⟩ = some v :=
  ⟨(Bk.new W 122 #[u, v]).cell 0, (Bk.new W 122 #[u, v]).cell 1⟩
set_option maxHeartbeats 4000000 in
set_option maxRecDepth 100000 in
theorem lay_any (f p : Nat) (O V : Nat → Prop) (S : FsP) (nm : ByteArray) (A : Option Addr) (n c : Nat) (l : List (Nat × List UInt8)) (w : World) (cs : Array Value) (h : FsA w O f S) (b0 : Bk w p 67 cs) (hp : ¬ O p)
    (c0 : w.cell? ⟨p, 0, none⟩ = some (.pointer (some ⟨f, 0, none⟩))) (c1 : w.cell? ⟨p, 1, none⟩ = some (.string nm)) (hs : nm.size ≤ 100) (hst : S.stamp + n ≤ 1000000)
    (hr : RdWr w V A n l) (hV : ∀ i, V i → ¬ O i) (hno : ∀ q ∈ l, q.1 ≤ 16777216) (hlen : ∀ q ∈ l, q.2.length = 512) (hn : n ≤ 100000) :
    Calls Tryz.prog 61 #[.pointer (some ⟨p, 0, none⟩), .slice A n c] w fun e w' => e = .returned (.int .i64 ((layP nm.data.toList l S).1 : Int)) ∧ FsA w' (fun i => O i ∨ w.heap.size ≤ i) f (layP nm.data.toList l S).2 ∧ Ch O w w' := by
  have HR := Lib.hid (And.intro hr (And.intro hV (And.intro hno (And.intro hlen (And.intro hst hp)))))
  have HB := Lib.hid (And.intro b0 (And.intro c0 c1))
  have hl0 := Lib.hid hr.1
  have HH := Lib.hid h
  clear h hr hV hno hlen b0 c0 c1 hp hst
  go_enter Tryz.func61, Tryz.ntmps61
  go_wp2_with fail
  go_loopw [10] (fun s10 wr => ∃ i : Nat, s10 = .int .i64 (i : Int) ∧ i ≤ n ∧ Hid (∃ S1, runS S ((l.take i).map (layOne nm.data.toList)) = (0, S1) ∧ FsA wr (fun k => O k ∨ w.heap.size ≤ k) f S1 ∧ Ch O w wr ∧ S1.stamp ≤ S.stamp + i)) (fun s10 _ => n - (intOf s10).toNat)
  case atStart => exact ⟨0, rfl, Nat.zero_le _, Lib.hid ⟨S, rfl, HH.out.mono (fun i hi _ => .inl hi), Ch.refl _ _, Nat.le_refl _⟩⟩
  case round =>
    obtain ⟨i, rfl, hi, HI⟩ := hrel
    by_cases hlt : i < n
    · obtain ⟨S1, e1, hF, hC, hstamp⟩ := HI.out
      obtain ⟨q, hq⟩ : ∃ q, l[i]? = some q := ⟨_, List.getElem?_eq_getElem (by have := hl0.out; omega)⟩
      obtain ⟨hr, hV, hno, hlen, hst, hp⟩ := HR.out
      obtain ⟨b0, c0, c1⟩ := HB.out
      obtain ⟨b, o, rfl, hVb, hbl, hcs⟩ := hr.2 (by omega)
      obtain ⟨N, bs⟩ := q
      obtain ⟨k1, b1, o1, n1, cc, k2, k3, k4, k5, k6, k7, k8⟩ := hcs i _ hq
      dsimp only at k1 k3 k8
      have hqm := List.mem_of_getElem? hq
      have hl5 : bs.length = 512 := hlen _ hqm
      have hno1 : N ≤ 16777216 := hno _ hqm
      have d1 : wr.cell? ⟨b, o + i * 2, none⟩ = some (.int .i64 (N : Int)) := (World.cell?_of_block (a := ⟨b, o + i * 2, none⟩) (hC.block b hbl (hV b hVb))).trans k1
      have d2 : wr.cell? ⟨b, o + i * 2 + 1, none⟩ = some (.slice (some ⟨b1, o1, none⟩) n1 cc) := (World.cell?_of_block (a := ⟨b, o + i * 2 + 1, none⟩) (hC.block b hbl (hV b hVb))).trans k2
      have z2 := hC.size
      have hplt : p < wr.heap.size := Nat.lt_of_lt_of_le b0.lt z2
      obtain ⟨W, hW⟩ : ∃ W, W = (wr.alloc (.cells #[.int .i64 (N : Int), .slice (some ⟨b1, o1, none⟩) n1 cc] 122)).drew := ⟨_, rfl⟩
      have hWb : ∀ i, i < wr.heap.size → W.heap[i]? = wr.heap[i]? := fun i hi => by rw [hW]; exact Below.heap_alloc wr _ i hi
      have hWs : W.heap.size = wr.heap.size + 1 := by rw [hW]; simp
      have hWx : W.cell? ⟨wr.heap.size, 0, none⟩ = some (.int .i64 (N : Int)) ∧ W.cell? ⟨wr.heap.size, 1, none⟩ = some (.slice (some ⟨b1, o1, none⟩) n1 cc) := by rw [hW]; exact box2 wr _ _
      have hWC : Ch O w W := by rw [hW]; exact (hC.alloc _).drew
      have hS0 : W.cell? ⟨p, 0, none⟩ = some (.pointer (some ⟨f, 0, none⟩)) ∧ W.cell? ⟨wr.heap.size, 0, none⟩ = some (.int .i64 (N : Int)) ∧ W.cell? ⟨wr.heap.size, 1, none⟩ = some (.slice (some ⟨b1, o1, none⟩) n1 cc) :=
        ⟨(World.cell?_of_block (a := ⟨p, 0, none⟩) (hWC.block p b0.lt hp)).trans c0, hWx⟩
      have hS1 : W.cell? ⟨p, 1, none⟩ = some (.string nm) := (World.cell?_of_block (a := ⟨p, 1, none⟩) (hWC.block p b0.lt hp)).trans c1
      have hFW : FsA W (fun k => ((O k ∨ w.heap.size ≤ k) ∧ k < wr.heap.size) ∨ W.heap.size ≤ k) f S1 :=
        ((hF.mono (O' := fun k => (O k ∨ w.heap.size ≤ k) ∧ k < wr.heap.size) (fun i hi hl => ⟨hi, hl⟩)).heap (fun i _ hi => hWb i hi)).mono (fun i hi _ => .inl hi)
      have HDB := Lib.hid (db_any p nm W hS1 (by omega))
      obtain ⟨P, hP⟩ : ∃ P : Int, P = ((512 * N : Nat) : Int) := ⟨_, rfl⟩
      have q1 : IntKind.i64.wrap ((N : Int) * 512) = P := by rw [IntWalk.i64_in _ (by omega), hP]; omega
      have hWr := write_any f _ S1 (nm ++ dbS) P n1 cc b1 bs (some ⟨b1, o1, none⟩) W (fun i hi => .inr hi) hFW (by rw [db_size]; omega) (by omega) k3 (by omega) k4 k5
        (k8.heap (hWC.block b1 k7 (hV b1 k6))) (fun _ e => by
          rcases e with ⟨e | e, _⟩ | e
          · exact hV b1 k6 e
          · omega
          · omega) (fun _ => by omega)
      rw [db_list] at hWr
      obtain ⟨rc, hrc⟩ : ∃ rc, rc = (writeP S1 (dbN nm.data.toList) P bs).1 := ⟨_, rfl⟩
      obtain ⟨S2, hS2⟩ : ∃ S2, S2 = (writeP S1 (dbN nm.data.toList) P bs).2 := ⟨_, rfl⟩
      rw [← hrc, ← hS2] at hWr
      have HWr := Lib.hid (hWr.mono (R' := fun e w' => e = .returned (.int .i64 (rc : Int)) ∧ (w'.cell? ⟨p, 0, none⟩ = some (.pointer (some ⟨f, 0, none⟩)) ∧ w'.cell? ⟨wr.heap.size, 0, none⟩ = some (.int .i64 (N : Int)) ∧ w'.cell? ⟨wr.heap.size, 1, none⟩ = some (.slice (some ⟨b1, o1, none⟩) n1 cc)) ∧ FsA w' (fun k => O k ∨ w.heap.size ≤ k) f S2 ∧ Ch O w w') (by
        rintro e w' ⟨rfl, h1, h2⟩
        have hx : w'.heap[wr.heap.size]? = W.heap[wr.heap.size]? := h2.block _ (by omega) (by rintro (⟨_, e⟩ | e) <;> omega)
        have hpp : w'.heap[p]? = W.heap[p]? := h2.block _ (by omega) (by
          rintro (⟨e | e, _⟩ | e)
          · exact hp e
          · have := b0.lt; omega
          · omega)
        exact ⟨rfl, ⟨(World.cell?_of_block (a := ⟨p, 0, none⟩) hpp).trans hS0.1, (World.cell?_of_block (a := ⟨wr.heap.size, 0, none⟩) hx).trans hWx.1, (World.cell?_of_block (a := ⟨wr.heap.size, 1, none⟩) hx).trans hWx.2⟩,
          h1.mono (fun i hi hl => by
            rcases hi with ⟨e, _⟩ | e
            · exact e
            · exact .inr (by omega)), hWC.trans h2 (fun i hi => by
            rcases hi with ⟨e, _⟩ | e
            · exact e
            · exact .inr (by omega))⟩))
      have hrcL : (rc, S2) = layOne nm.data.toList (N, bs) S1 := by rw [hrc, hS2, hP]; rfl
      obtain ⟨L1, L2⟩ := layP_at e1 hq
      rw [← hrcL] at L1 L2
      have HL := Lib.hid (And.intro L1 L2)
      have hst2 := writeP_stamp S1 (dbN nm.data.toList) P bs
      rw [← hS2] at hst2
      have HS := Lib.hid (show S2.stamp ≤ S.stamp + (i + 1) by omega)
      subst hW
      clear hWb hWs hWx hWC hS1 hFW hP hWr hrc hS2 hrcL L1 L2 hst2 hr hV hno hlen hst hp b0 c0 c1 hVb hbl hcs k1 k2 k3 k4 k5 k6 k7 k8 hqm hl5 hno1 z2 hplt hq HI e1 hF hC hstamp
      go_wp2_with fail
      go_region_held3 (fun w' => w'.cell? ⟨p, 0, none⟩ = some (.pointer (some ⟨f, 0, none⟩)) ∧ w'.cell? ⟨wr.heap.size, 0, none⟩ = some (.int .i64 (N : Int)) ∧ w'.cell? ⟨wr.heap.size, 1, none⟩ = some (.slice (some ⟨b1, o1, none⟩) n1 cc)) (first | exact hS0 | exact hS5 | go_keep)
        (first
          | (go_at_call 33; with_reducible refine HDB.out.mono ?_; rintro e w5 ⟨rfl, hw5⟩; subst hw5)
          | (go_at_call 73; with_reducible refine HWr.out.mono ?_; rintro e w6 ⟨rfl, hS5, hF6, hC6⟩))
      have HX := Lib.hid (And.intro hF6 hC6)
      clear hS0 hS5 hF6 hC6 HDB HWr q1 d1 d2
      by_cases hz : rc = 0
      · subst hz
        go_wp2_with fail
        go_roundw
        case rel => exact ⟨i + 1, by rfl, by omega, Lib.hid ⟨S2, HL.out.1, HX.out.1, HX.out.2, HS.out⟩⟩
        case measure => simp [intOf]; omega
      · have hz2 : ¬ (rc : Int) = 0 := by omega
        have HZ := Lib.hid hz
        clear hz
        go_wp2_with fail
        go_ret
        rw [HL.out.2 HZ.out]
        exact ⟨rfl, HX.out.1, HX.out.2⟩
    · have hin : n = i := by omega
      obtain ⟨S1, e1, hF, hC, hstamp⟩ := HI.out
      rw [List.take_of_length_le (by have := hl0.out; omega)] at e1
      obtain ⟨hr, hV, hno, hlen, hst, hp⟩ := HR.out
      obtain ⟨b0, c0, c1⟩ := HB.out
      have hS0 : wr.drew.cell? ⟨p, 0, none⟩ = some (.pointer (some ⟨f, 0, none⟩)) := (World.cell?_of_block (a := ⟨p, 0, none⟩) (hC.block p b0.lt hp)).trans c0
      have hS1 : wr.drew.cell? ⟨p, 1, none⟩ = some (.string nm) := (World.cell?_of_block (a := ⟨p, 1, none⟩) (hC.block p b0.lt hp)).trans c1
      have HDB := Lib.hid (db_any p nm wr.drew hS1 (by omega))
      have z2 := hC.size
      have hSy := sync_any f _ S1 (nm ++ dbS) wr.drew ((hF.mono (O' := fun k => (O k ∨ w.heap.size ≤ k) ∧ k < wr.heap.size) (fun i hi hl => ⟨hi, hl⟩)).heap (fun _ _ _ => rfl)) (by rw [db_size]; omega) (by omega)
      rw [db_list, ← layP_end e1] at hSy
      obtain ⟨rc, hrc⟩ : ∃ rc, rc = (layP nm.data.toList l S).1 := ⟨_, rfl⟩
      obtain ⟨S2, hS2⟩ : ∃ S2, S2 = (layP nm.data.toList l S).2 := ⟨_, rfl⟩
      rw [← hrc, ← hS2] at hSy
      have HRc := Lib.hid (And.intro hrc hS2)
      have HSy := Lib.hid (hSy.mono (R' := fun e w' => e = .returned (.int .i64 (rc : Int)) ∧ w'.cell? ⟨p, 0, none⟩ = some (.pointer (some ⟨f, 0, none⟩)) ∧ FsA w' (fun k => O k ∨ w.heap.size ≤ k) f S2 ∧ Ch O w w') (by
        rintro e w' ⟨rfl, h1, h2⟩
        have hpp : w'.heap[p]? = wr.heap[p]? := h2.block _ (by have := b0.lt; show p < wr.heap.size; omega) (by
          rintro ⟨e | e, _⟩
          · exact hp e
          · have := b0.lt; omega)
        exact ⟨rfl, (World.cell?_of_block (a := ⟨p, 0, none⟩) hpp).trans hS0, h1.mono (fun i hi _ => hi.1), hC.drew.trans h2 (fun i hi => hi.1)⟩))
      clear hrc hS2 hr hV hno hlen hst hp b0 c0 c1 hS1 hSy HI e1 hF hC hstamp z2
      go_wp2_with fail
      go_region_held3 (fun w' => w'.cell? ⟨p, 0, none⟩ = some (.pointer (some ⟨f, 0, none⟩))) (first | exact hS0 | exact hS5 | go_keep)
        (first
          | (go_at_call 33; with_reducible refine HDB.out.mono ?_; rintro e w5 ⟨rfl, hw5⟩; subst hw5)
          | (go_at_call 75; with_reducible refine HSy.out.mono ?_; rintro e w6 ⟨rfl, hS5, hF6, hC6⟩))
      have HX := Lib.hid (And.intro hF6 hC6)
      clear hS0 hS5 hF6 hC6
      go_wp2_with fail
      go_ret
      rw [← HRc.out.1, ← HRc.out.2]
      exact ⟨rfl, HX.out.1, HX.out.2⟩
end Go.Proofs.YtoadamkmabkldaaGreatDoor
/- Contracts of package pager: keep. -/
namespace Go.Proofs.YtoadamkmabkldaaGreatDoor
open Go.RowKit
attribute [local go_sem ↓] Go.wp_at_zero Go.wp_at_succ
theorem at_mapUpdI {P : Program} {w : World} {ops : Array Oper} {rest : List Oper} {a : Act} {Q : Exit → Act → World → Prop} {d : Option Tmp} {ty mt : TypeId} {pos : String} {af : Array Edge} {g : Option (Nat × Bool)} {x y z : Operand}
    (h : wpList P ops Q ({ dst := d, op := .mapUpdate mt x y z, type := ty, pos := pos, after := af, guard := g } :: rest) a w) : wpList P ops Q ({ dst := d, op := .mapUpdate mt x y z, type := ty, pos := pos, after := af, guard := g } :: rest) a w := h
theorem nodup_lt {L : List Nat} (h : L.Nodup) : (L.mergeSort (fun a b => decide (a ≤ b))).Pairwise (· < ·) := by
  have h1 : (L.mergeSort (fun a b => decide (a ≤ b))).Pairwise fun a b => decide (a ≤ b) = true := List.pairwise_mergeSort (fun a b c h1 h2 => by simp at *; omega) (fun a b => by simp; omega) L
  have h2 : (L.mergeSort (fun a b => decide (a ≤ b))).Nodup := (List.mergeSort_perm L _).nodup_iff.2 h
  have h3 := List.nodup_iff_pairwise_ne.1 h2
  exact (h1.and h3).imp (fun ⟨a, b⟩ => by simp at a; omega)
theorem MapI.tightN {W : World} {m n : Nat} {g : Nat → Option SlT} (h : MapI W m n g) {L : List Nat} (hL : L.Nodup) (hf : ∀ x, x ∈ L ↔ (g x).isSome = true) : MapI W m L.length g := by
  have := h.tight (L := L.mergeSort (fun a b => decide (a ≤ b))) (nodup_lt hL) (fun x => by rw [← hf]; exact (List.mergeSort_perm L _).mem_iff)
  rwa [(List.mergeSort_perm L _).length_eq] at this
theorem QuN.rb {W : World} {v : Value} {q : List Nat} (h : QuN W 0 v q) (hq : q ≠ []) : ∀ i, v.ownBlock = some i → ∃ cs, Bk W i 3 cs := by
  rcases h with ⟨_, h⟩ | ⟨A, n, c, rfl, _, h1, h2, h3, h4⟩
  · exact absurd h hq
  · intro i hi
    rcases h4 with h4 | ⟨g, o, cs, rfl, _, hb, _⟩
    · have : q.length = 0 := by omega
      exact absurd (List.eq_nil_of_length_eq_zero this) hq
    · simp [Value.ownBlock] at hi
      subst hi
      exact ⟨cs, hb⟩
theorem pgC_row (f : Nat) (nm : ByteArray) (now last : HdP) (mch mcl : Nat) (vrow v2 : Value) (reads : Nat) (dead : Bool) : (pgC f nm now last mch mcl vrow reads dead).setIfInBounds 24 v2 = pgC f nm now last mch mcl v2 reads dead := by simp [pgC]
theorem pgC_reads (f : Nat) (nm : ByteArray) (now last : HdP) (mch mcl : Nat) (vrow : Value) (reads r2 : Nat) (dead : Bool) : (pgC f nm now last mch mcl vrow reads dead).setIfInBounds 25 (.int .i64 (r2 : Int)) = pgC f nm now last mch mcl vrow r2 dead := by simp [pgC]
theorem pgC_dead (f : Nat) (nm : ByteArray) (now last : HdP) (mch mcl : Nat) (vrow : Value) (reads : Nat) (dead d2 : Bool) : (pgC f nm now last mch mcl vrow reads dead).setIfInBounds 26 (.bool d2) = pgC f nm now last mch mcl vrow reads d2 := by simp [pgC]
section
variable {w w1 w2 w3 : World} {f p mch mcl no : Nat} {nm : ByteArray} {P : PgP} {tch tcl tcl2 : Nat → SlT} {vrow v2 : Value} {t : SlT} {b : List UInt8} {r : List Nat} {cv2 : Nat → List UInt8}
/-- Another row, and another map of kept pages. -/
theorem PgM.rekeep (h : PgM w f p nm P mch mcl tch tcl vrow) (hc : Ch (fun i => i = p ∨ i = mcl ∨ vrow.ownBlock = some i) w w3) (hp : Bk w3 p 67 (pgC f nm P.now P.last mch mcl v2 P.reads P.dead))
    (hm : MapI w3 mcl r.length (fun k => if k ∈ r then some (tcl2 k) else none)) (hl : ∀ k ∈ r, PgB w3 (tcl2 k) (cv2 k)) (hq : QuN w3 0 v2 r) (hrb : ∀ i, v2.ownBlock = some i → ∃ cs, Bk w3 i 3 cs) :
    PgM w3 f p nm { P with row := r, cv := cv2 } mch mcl tch tcl2 v2 := by
  refine ⟨hp, h.ch.heap (hc.block _ h.ch.lt ?_), hm, h.ne, fun k c hk => ?_, hl, hq, hrb⟩
  · rintro (e | e | e)
    · exact (h.ch.ne h.hd) e
    · exact h.ne e
    · obtain ⟨cs, hb⟩ := h.rb _ e
      exact (h.ch.ne hb) rfl
  · obtain ⟨cs, hc1, _⟩ := h.cb k c hk
    refine (h.cb k c hk).heap (hc.block _ hc1.lt ?_)
    rintro (e | e | e)
    · rw [e] at hc1; exact absurd (bk_ty hc1 h.hd) (by decide)
    · exact (h.cl.ne hc1) e.symm
    · obtain ⟨cs2, hb⟩ := h.rb _ e
      exact absurd (bk_ty hc1 hb) (by decide)
/-- A page's block is none of those. -/
theorem PgM.page_ne (h : PgM w f p nm P mch mcl tch tcl vrow) (hb : PgB w t b) : ¬ (t.1 = p ∨ t.1 = mcl ∨ vrow.ownBlock = some t.1) := by
  obtain ⟨cs, hc1, _⟩ := hb
  rintro (e | e | e)
  · rw [e] at hc1; exact absurd (bk_ty hc1 h.hd) (by decide)
  · exact (h.cl.ne hc1) e.symm
  · obtain ⟨cs2, hb⟩ := h.rb _ e
    exact absurd (bk_ty hc1 hb) (by decide)
theorem PgM.push (h : PgM w f p nm P mch mcl tch tcl vrow) (hno : no ∉ P.row) (hb : PgB w t b) (m1 : MapI w1 mcl (P.row.length + 1) (fun x => if x = no then some t else if x ∈ P.row then some (tcl x) else none)) (g1 : w.grownBy w1 (some mcl)) (o : Obj)
    (q2 : QuN w2 0 v2 (P.row ++ [no])) (g2 : ∃ row, (w1.alloc o).grownBy w2 row ∧ ∀ b, row = some b → vrow.ownBlock = some b) :
    PgM (w2.setCell ⟨p, 24, none⟩ v2) f p nm { P with row := P.row ++ [no], cv := fun x => if x = no then b else P.cv x } mch mcl tch (fun x => if x = no then t else tcl x) v2 ∧ Ch (fun i => i = p ∨ i = mcl ∨ vrow.ownBlock = some i) w (w2.setCell ⟨p, 24, none⟩ v2) ∧ Bk w1 p 67 (pgC f nm P.now P.last mch mcl vrow P.reads P.dead) ∧ Bk w2 p 67 (pgC f nm P.now P.last mch mcl vrow P.reads P.dead) := by
  obtain ⟨row, g2, hrow⟩ := g2
  have b1 : Bk w1 p 67 (pgC f nm P.now P.last mch mcl vrow P.reads P.dead) := h.hd.grown g1 (by intro e; injection e with e; exact (h.cl.ne h.hd) e.symm)
  have hc1 : Ch (fun i => i = p ∨ i = mcl ∨ vrow.ownBlock = some i) w w1 := (Ch.refl _ _).grown g1 (fun i e => by injection e with e; exact .inl (.inr (.inl e.symm)))
  have hc2 : Ch (fun i => i = p ∨ i = mcl ∨ vrow.ownBlock = some i) w w2 := (hc1.alloc o).grown g2 (fun i e => .inl (.inr (.inr (hrow i e))))
  have hrp : row ≠ some p := by
    intro e
    obtain ⟨cs, hb⟩ := h.rb p (hrow p e)
    exact absurd (bk_ty h.hd hb) (by decide)
  have b2 : Bk w2 p 67 (pgC f nm P.now P.last mch mcl vrow P.reads P.dead) := (b1.alloc o).grown g2 (Ne.symm hrp)
  have b3 : Bk (w2.setCell ⟨p, 24, none⟩ v2) p 67 (pgC f nm P.now P.last mch mcl v2 P.reads P.dead) := pgC_row f nm P.now P.last mch mcl vrow v2 P.reads P.dead ▸ b2.set 24 v2
  have hc3 : Ch (fun i => i = p ∨ i = mcl ∨ vrow.ownBlock = some i) w (w2.setCell ⟨p, 24, none⟩ v2) := hc2.set (p := ⟨p, 24, none⟩) (.inl (.inl rfl)) v2
  have hrb2 := q2.rb (by simp)
  have hvp : ∀ i, v2.ownBlock = some i → i ≠ p := by
    rintro i hi rfl
    obtain ⟨cs, hb⟩ := hrb2 _ hi
    exact absurd (bk_ty b2 hb) (by decide)
  have e3 : ∀ i, i ≠ p → (w2.setCell ⟨p, 24, none⟩ v2).heap[i]? = w2.heap[i]? := fun i hi => Below.heap_setCell w2 ⟨p, 24, none⟩ v2 i hi
  have m2 : MapI (w2.setCell ⟨p, 24, none⟩ v2) mcl (P.row.length + 1) (fun x => if x = no then some t else if x ∈ P.row then some (tcl x) else none) := by
    refine m1.heap ?_
    rw [e3 _ (h.cl.ne h.hd)]
    refine (g2.block mcl (by have := m1.lt; simp; omega) (fun e => ?_)).trans (Below.heap_alloc w1 o mcl m1.lt)
    obtain ⟨cs, hb⟩ := h.rb mcl (hrow mcl e.symm)
    exact (h.cl.ne hb) rfl
  refine ⟨h.rekeep hc3 b3 ?_ (fun k hk => ?_) (q2.heap (Nat.le_of_eq (by simp [World.setCell])) (fun i hi _ => e3 i (hvp i hi))) (fun i hi => ?_), hc3, b1, b2⟩
  · rw [List.length_append]
    refine m2.congr (fun x => ?_)
    by_cases e : x = no
    · subst e; simp
    · simp [e]
  · by_cases e : k = no
    · rw [if_pos e, if_pos e]; exact hb.heap (hc3.block _ hb.lt (h.page_ne hb))
    · rw [if_neg e, if_neg e]
      have hk2 : k ∈ P.row := by simpa [e] using hk
      exact (h.lb k hk2).heap (hc3.block _ (h.lb k hk2).lt (h.page_ne (h.lb k hk2)))
  · obtain ⟨cs, hb⟩ := hrb2 i hi
    exact ⟨cs, (e3 i (hvp i hi)).trans hb⟩
/-- The oldest kept page goes. -/
theorem PgM.pop {x : Nat} {v3 : Value} (h : PgM w f p nm P mch mcl tch tcl vrow) (hr : P.row = x :: r) (hn : P.row.Nodup) (m1 : MapI w1 mcl P.row.length (fun k => if k = x then none else if k ∈ P.row then some (tcl k) else none)) (g1 : w.grownBy w1 (some mcl))
    (q3 : QuN w 0 v3 r) (hv : v3.ownBlock = vrow.ownBlock) :
    PgM (w1.setCell ⟨p, 24, none⟩ v3) f p nm { P with row := r } mch mcl tch tcl v3 ∧ Ch (fun i => i = p ∨ i = mcl ∨ vrow.ownBlock = some i) w (w1.setCell ⟨p, 24, none⟩ v3) ∧ Bk w1 p 67 (pgC f nm P.now P.last mch mcl vrow P.reads P.dead) := by
  have b1 : Bk w1 p 67 (pgC f nm P.now P.last mch mcl vrow P.reads P.dead) := h.hd.grown g1 (by intro e; injection e with e; exact (h.cl.ne h.hd) e.symm)
  have hc1 : Ch (fun i => i = p ∨ i = mcl ∨ vrow.ownBlock = some i) w w1 := (Ch.refl _ _).grown g1 (fun i e => by injection e with e; exact .inl (.inr (.inl e.symm)))
  have b3 : Bk (w1.setCell ⟨p, 24, none⟩ v3) p 67 (pgC f nm P.now P.last mch mcl v3 P.reads P.dead) := pgC_row f nm P.now P.last mch mcl vrow v3 P.reads P.dead ▸ b1.set 24 v3
  have hc3 : Ch (fun i => i = p ∨ i = mcl ∨ vrow.ownBlock = some i) w (w1.setCell ⟨p, 24, none⟩ v3) := hc1.set (p := ⟨p, 24, none⟩) (.inl (.inl rfl)) v3
  have e3 : ∀ i, i ≠ p → (w1.setCell ⟨p, 24, none⟩ v3).heap[i]? = w1.heap[i]? := fun i hi => Below.heap_setCell w1 ⟨p, 24, none⟩ v3 i hi
  have hrow : ∀ {i cs}, Bk w i 3 cs → (w1.setCell ⟨p, 24, none⟩ v3).heap[i]? = w.heap[i]? := fun {i cs} hb => by
    rw [e3 i (by rintro rfl; exact absurd (bk_ty hb h.hd) (by decide))]
    exact g1.block i hb.lt (by intro e; injection e with e; exact (h.cl.ne hb) e.symm)
  rw [hr] at hn
  obtain ⟨hx, hn2⟩ := List.nodup_cons.1 hn
  refine ⟨h.rekeep hc3 b3 ?_ (fun k hk => ?_) (q3.heap hc3.size (fun i hi _ => ?_)) (fun i hi => ?_), hc3, b1⟩
  · have m2 := m1.heap (e3 mcl (h.cl.ne h.hd))
    refine (m2.congr (g := fun k => if k ∈ r then some (tcl k) else none) (fun k => ?_)).tightN hn2 (fun k => ?_)
    · rw [hr]
      by_cases e : k = x
      · subst e; rw [if_neg hx, if_pos rfl]
      · simp [e]
    · by_cases e : k ∈ r
      · simp [e]
      · simp [e]
  · have hk2 : k ∈ P.row := by rw [hr]; exact List.mem_cons_of_mem _ hk
    exact (h.lb k hk2).heap (hc3.block _ (h.lb k hk2).lt (h.page_ne (h.lb k hk2)))
  · obtain ⟨cs, hb⟩ := h.rb i (hv ▸ hi)
    exact hrow hb
  · obtain ⟨cs, hb⟩ := h.rb i (hv ▸ hi)
    exact ⟨cs, (hrow hb).trans hb⟩
end
/-- A page is kept; of more than sixteen the oldest one is not. -/
def keepP (P : PgP) (no : Nat) (b : List UInt8) : PgP := { P with row := if 16 < (P.row ++ [no]).length then (P.row ++ [no]).tail else P.row ++ [no], cv := fun x => if x = no then b else P.cv x }
theorem run_del {w : World} {m n : Nat} {f : Nat → Option SlT} (h : MapI w m n f) {k : Nat} (hk : k ≤ 9223372036854775807) :
    ∃ w', (∀ ty, (Builtin.delete_ #[62, 3] ty #[.map (some m), .int .i64 (k : Int)]).run Tryz.prog w = .ok (.tuple #[]) w') ∧ MapI w' m n (fun x => if x = k then none else f x) ∧ w.grownBy w' (some m) := by
  obtain ⟨w', h1, h2, h3⟩ := h.del hk 0
  exact ⟨w', fun ty => h1, h2, h3⟩
theorem pushed {w2 : World} {f p mch mcl : Nat} {nm : ByteArray} {now last : HdP} {vrow : Value} {reads : Nat} {dead : Bool} {X Y Z : Prop} (h : X ∧ Y ∧ Z ∧ Bk w2 p 67 (pgC f nm now last mch mcl vrow reads dead)) : X ∧ Y ∧ Z ∧ w2.cell? ⟨p, 24, none⟩ = some vrow ∧ w2.frozen? ⟨p, 24, none⟩ = false :=
  ⟨h.1, h.2.1, h.2.2.1, h.2.2.2.cell 24, h.2.2.2.free 24⟩
set_option maxHeartbeats 4000000 in
set_option maxRecDepth 100000 in
theorem keep_any (f p mch mcl no : Nat) (nm : ByteArray) (P : PgP) (tch tcl : Nat → SlT) (vrow : Value) (t : SlT) (b : List UInt8) (w : World) (h : PgM w f p nm P mch mcl tch tcl vrow) (hno : no ∉ P.row) (hN : P.row.Nodup) (hl : P.row.length ≤ 16) (hk : ∀ k ∈ P.row, k ≤ 65536) (hb : PgB w t b) (hn : no ≤ 65536) :
    Calls Tryz.prog 65 #[.pointer (some ⟨p, 0, none⟩), .int .i64 (no : Int), slV t] w fun e w' => e = .returned (.tuple #[]) ∧ ∃ v2, PgM w' f p nm (keepP P no b) mch mcl tch (fun x => if x = no then t else tcl x) v2 ∧ Ch (fun i => i = p ∨ i = mcl ∨ vrow.ownBlock = some i) w w' ∧ (∀ i, v2.ownBlock = some i → vrow.ownBlock = some i ∨ w.heap.size ≤ i) := by
  have c23 : w.cell? ⟨p, 23, none⟩ = some (.map (some mcl)) := h.hd.cell 23
  have HM := Lib.hid h.cl
  have HP := Lib.hid (fun w1 m1 g1 w2 v2 q2 g2 => pushed (h.push (w1 := w1) (w2 := w2) (v2 := v2) hno hb m1 g1 (.cells #[.int .i64 (no : Int)] 3) q2 g2))
  have HR := Lib.hid h.rw
  have HB1 := Lib.hid (fun w1 (g1 : w.grownBy w1 (some mcl)) => show Bk w1 p 67 (pgC f nm P.now P.last mch mcl vrow P.reads P.dead) ∧ w1.cell? ⟨p, 24, none⟩ = some vrow ∧ QuN w1 0 vrow P.row from ⟨h.hd.grown g1 (by intro e; injection e with e; exact (h.cl.ne h.hd) e.symm), Bk.cell (h.hd.grown g1 (by intro e; injection e with e; exact (h.cl.ne h.hd) e.symm)) 24, h.rw.heap g1.size (fun k hk hl => g1.block k hl (by
    intro e; injection e with e
    obtain ⟨cs, hbk⟩ := h.rb k hk
    exact (h.cl.ne hbk) e.symm))⟩)
  have HH := Lib.hid (And.intro h (And.intro hno (And.intro hN (And.intro hl (And.intro hn hk)))))
  unfold slV
  clear h hno hN hl hb hn hk
  go_enter Tryz.func65, Tryz.ntmps65
  go_wp2_with (first
    | (with_reducible refine at_mapUpdI ?_; go_loud ((apply op_putI (t := t) (k := no) HM.out (by have := HH.out.2.2.2.2.1; omega) (by have := HH.out.2.2.2.1; omega)); (case hm => kernel_rfl); (case hs => kernel_rfl); (case hb => kernel_rfl); (case hw => kernel_rfl); intro w1 m1 g1; obtain ⟨b1, c24, r1⟩ := HB1.out w1 g1; replace m1 := Lib.hid m1; replace g1 := Lib.hid g1; replace b1 := Lib.hid b1; replace r1 := Lib.hid (show QuN (w1.alloc (.cells #[.int .i64 (no : Int)] 3)) 0 vrow P.row from r1.heap (by simp) (fun k hk hl => Below.heap_alloc w1 _ k hl)); try go_frame))
    | (with_reducible refine at_append ?_; go_loud ((apply ap_quN (b := w1.heap.size) (c1 := 1) r1.out no (hy := Bk.new w1 3 _) (hbase := Nat.zero_le _) (hq := by have := HH.out.2.2.2.1; omega)); (case hs => kernel_rfl); (case hx => kernel_rfl); (case hw => kernel_rfl); intro v2 w2 q2 g2 x2; obtain ⟨A2, C2, hv2, hc2, hcm2⟩ := q2.form; obtain ⟨M3, Ch3, b3, k24, f24⟩ := HP.out w1 m1.out g1.out w2 v2 q2 g2; replace q2 := Lib.hid q2; replace g2 := Lib.hid g2; replace x2 := Lib.hid x2; replace M3 := Lib.hid M3; replace Ch3 := Lib.hid Ch3; replace b3 := Lib.hid b3; replace hc2 := Lib.hid hc2; replace hcm2 := Lib.hid hcm2; have HN2 : ∃ N, N = (P.row ++ [no]).length := ⟨_, rfl⟩; obtain ⟨N, hN⟩ := HN2; rw [← hN] at hv2; replace hN := Lib.hid hN; subst hv2; try go_frame)))
  · have hgt := hN.out
    obtain ⟨hM, hno, hnd, hl16, hn16, hk16⟩ := HH.out
    have hN17 : N = 17 := by
      rw [List.length_append, List.length_singleton] at hgt
      have : (16 : Int) < (N : Int) := by assumption
      omega
    have hl17 : P.row.length = 16 := by rw [List.length_append, List.length_singleton] at hgt; omega
    obtain ⟨x, r0, hxr⟩ : ∃ x r0, P.row = x :: r0 := by
      cases hp : P.row with
      | nil => rw [hp] at hl17; cases hl17
      | cons x r0 => exact ⟨x, r0, rfl⟩
    have hxr2 : P.row ++ [no] = x :: (r0 ++ [no]) := by rw [hxr]; rfl
    have hx16 : x ≤ 9223372036854775807 := by have := hk16 x (by rw [hxr]; exact List.mem_cons_self ..); omega
    have hQ := M3.out.rw
    rw [show ({ P with row := P.row ++ [no], cv := fun x => if x = no then b else P.cv x } : PgP).row = x :: (r0 ++ [no]) from hxr2] at hQ
    rcases hQ with ⟨_, e⟩ | hQ
    · cases e
    obtain ⟨g, o, D, hv, hD1, hD2, _, hcell, hQ3⟩ := hQ.front
    injection hv with hA hNN hCC
    have hr15 : r0.length = 15 := by rw [hxr] at hl17; simpa using hl17
    have hD0 : ¬ D = 0 := by simp at hD1; omega
    rw [if_neg hD0] at hQ3
    subst hA hCC
    have hM3 : PgM (w2.setCell ⟨p, 24, none⟩ (.slice (some ⟨g, o, none⟩) N (D + 1))).drew f p nm { P with row := P.row ++ [no], cv := fun x => if x = no then b else P.cv x } mch mcl tch (fun x => if x = no then t else tcl x) (.slice (some ⟨g, o, none⟩) N (D + 1)) := M3.out.heap (Nat.le_refl _) (fun _ _ => rfl)
    obtain ⟨w4, hrun, m4, g4⟩ := run_del hM3.cl hx16
    have hnd2 : (P.row ++ [no]).Nodup := by
      rw [List.nodup_append]
      exact ⟨hnd, by simp, fun a ha c hc => by simp at hc; subst hc; rintro rfl; exact hno ha⟩
    obtain ⟨M5, Ch5, b5⟩ := hM3.pop (v3 := .slice (some ⟨g, o + 1, none⟩) (r0 ++ [no]).length D) hxr2 hnd2 (by exact m4) g4 (.inr (hQ3.heap (Nat.le_refl _) (fun _ _ _ _ => rfl))) rfl
    have hS3 : (w2.setCell ⟨p, 24, none⟩ (.slice (some ⟨g, o, none⟩) N (D + 1))).drew.cell? ⟨p, 23, none⟩ = some (.map (some mcl)) ∧ (w2.setCell ⟨p, 24, none⟩ (.slice (some ⟨g, o, none⟩) N (D + 1))).drew.cell? ⟨p, 24, none⟩ = some (.slice (some ⟨g, o, none⟩) N (D + 1)) ∧ (w2.setCell ⟨p, 24, none⟩ (.slice (some ⟨g, o, none⟩) N (D + 1))).drew.cell? ⟨g, o, none⟩ = some (.int .i64 (x : Int)) :=
      ⟨hM3.hd.cell 23, hM3.hd.cell 24, hcell⟩
    have k24 : w4.cell? ⟨p, 24, none⟩ = some (.slice (some ⟨g, o, none⟩) N (D + 1)) := b5.cell 24
    have f24 := b5.free 24
    have hg4 : w4.cell? ⟨g, o, none⟩ = some (.int .i64 (x : Int)) := by
      obtain ⟨cs, hbg⟩ := hM3.rb g rfl
      exact (World.cell?_of_block (a := ⟨g, o, none⟩) (g4.block g hbg.lt (by intro e; injection e with e; exact (hM3.cl.ne hbg) e.symm))).trans hS3.2.2
    have hS4 : w4.cell? ⟨p, 23, none⟩ = some (.map (some mcl)) ∧ w4.cell? ⟨p, 24, none⟩ = some (.slice (some ⟨g, o, none⟩) N (D + 1)) ∧ w4.cell? ⟨g, o, none⟩ = some (.int .i64 (x : Int)) := ⟨b5.cell 23, k24, hg4⟩
    have HD := Lib.hid (And.intro M5 (And.intro Ch5 (And.intro hr15 hxr2)))
    have hD0' : ¬ D + 1 = 1 := by omega
    rw [show (r0 ++ [no]).length = 16 by simp [hr15]] at HD
    have hN1 : N = 17 := hN17
    subst hN1
    clear hM hno hnd hl16 hn16 hk16 hgt hN17 hl17 hxr hxr2 hx16 hQ3 hNN hcell hD1 hD2 hM3 m4 g4 hnd2 M5 Ch5 b5 hQ hr15 hg4
    go_wp2_with fail
    go_region_held3 (fun w' => w'.cell? ⟨p, 23, none⟩ = some (.map (some mcl)) ∧ w'.cell? ⟨p, 24, none⟩ = some (.slice (some ⟨g, o, none⟩) 17 (D + 1)) ∧ w'.cell? ⟨g, o, none⟩ = some (.int .i64 (x : Int))) (first | exact hS3 | exact hS4 | go_keep) (fail)
    clear hS3 hS4
    go_wp2_with fail
    refine (show bodyPost Tryz.prog _ _ .normal _ _ from ?_)
    refine bodyPost_end (results_none rfl _ _ _) rfl ?_
    have hown : ∀ i, (Value.slice (some ⟨g, o + 1, none⟩) 16 D).ownBlock = some i → vrow.ownBlock = some i ∨ w.heap.size ≤ i := fun i e => by
      rcases x2.out i e with h1 | h1
      · exact .inl h1
      · have := g1.out.size
        have h2 : w1.heap.size + 1 ≤ i := by simpa using h1
        exact .inr (by omega)
    have hch : Ch (fun i => i = p ∨ i = mcl ∨ vrow.ownBlock = some i) w (w4.setCell ⟨p, 24, none⟩ (.slice (some ⟨g, o + 1, none⟩) 16 D)) := Ch3.out.drew.trans HD.out.2.1 (fun i hi => by
        rcases hi with e | e | e
        · exact .inl (.inl e)
        · exact .inl (.inr (.inl e))
        · rcases x2.out i e with h1 | h1
          · exact .inl (.inr (.inr h1))
          · have := g1.out.size
            have h2 : w1.heap.size + 1 ≤ i := by simpa using h1
            exact .inr (by omega))
    refine ⟨rfl, .slice (some ⟨g, o + 1, none⟩) 16 D, ?_, hch, hown⟩
    · have h1 := HD.out.1
      unfold keepP
      rw [HD.out.2.2.2, if_pos (by rw [List.length_cons, List.length_append, HD.out.2.2.1]; show 16 < 15 + 1 + 1; decide)]
      exact h1
  · refine bodyPost_end (results_none rfl _ _ _) rfl ?_
    have hown : ∀ i, (Value.slice A2 N C2).ownBlock = some i → vrow.ownBlock = some i ∨ w.heap.size ≤ i := fun i e => by
      rcases x2.out i e with h1 | h1
      · exact .inl h1
      · have := g1.out.size
        have h2 : w1.heap.size + 1 ≤ i := by simpa using h1
        exact .inr (by omega)
    refine ⟨rfl, .slice A2 N C2, ?_, Ch3.out, hown⟩
    have hle : ¬ 16 < (P.row ++ [no]).length := by
      have h1 : (N : Int) ≤ 16 := by assumption
      rw [← hN.out]; omega
    unfold keepP
    rw [if_neg hle]
    exact M3.out
end Go.Proofs.YtoadamkmabkldaaGreatDoor
