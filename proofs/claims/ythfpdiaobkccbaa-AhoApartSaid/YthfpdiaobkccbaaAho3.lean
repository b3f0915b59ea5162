/- Contract of package aho: add, walked. -/
import Derived.Test.YthfpdiaobkccbaaAho2
import Derived.Deep.RegionLaw
namespace Go.Proofs.Ythfpdiaobkccbaa
open Go.RowKit
attribute [local go_sem ↓] Go.wp_at_zero Go.wp_at_succ

theorem Rd.blk (w : World) (t : TypeId) (cs : Array Value) {g : Nat} (hg : g = w.heap.size) {fr : Nat × Nat} : Rd (w.alloc (.cells cs t fr)) (w.heap.size + 1) cs.size (some ⟨g, 0, none⟩) 1 cs.toList := by
  subst hg
  refine ⟨by simp, fun _ => ⟨_, _, rfl, by omega, fun j v hj => ?_⟩⟩
  rw [Nat.zero_add]
  have h1 : (w.alloc (.cells cs t fr)).cell? ⟨w.heap.size, j, none⟩ = cs[j]? := World.cell?_alloc_mark w cs t fr j
  rw [h1, ← hj]; simp
/-- Between the append of a state and the store into the map. -/
theorem AT.mid {w w1 : World} {base W0 : Nat} {many : Int} {T : Tt} (h : AT w base W0 many T) {xs news : List Value} (hx : StC xs.toArray T.S.length T.M T.B T.V) {g1 c1 : Nat}
    (ho : w1.ownsRow base 47 3 (.slice (some ⟨g1, 0, none⟩) (T.S.length + 1) c1) (T.S.length + 1) (xs ++ news)) (hxl : xs.length = T.S.length * 3) (hg : w.grownBy w1 (some T.gl)) {j : Nat} (hj : j < T.S.length) :
    w1.cell? ⟨W0, 0, none⟩ = some (.slice (some ⟨T.gl, 0, none⟩) T.S.length T.cl) ∧ w1.frozen? ⟨W0, 0, none⟩ = false ∧
      ∀ v, (w1.setCell ⟨W0, 0, none⟩ v).cell? ⟨W0, 0, none⟩ = some v ∧ (w1.setCell ⟨W0, 0, none⟩ v).cell? ⟨g1, j * 3, none⟩ = some (.map (some (T.M j))) ∧ MapF (w1.setCell ⟨W0, 0, none⟩ v) (T.M j) T.S.length (nx T.S j) := by
  obtain ⟨cs, h1, h2, h3⟩ := h.st
  have kept1 : ∀ k, k < w.heap.size → k ≠ T.gl → w1.heap[k]? = w.heap[k]? := fun k hk hne => hg.block k hk (fun e => hne (by injection e))
  have hwd1 : Bk w1 W0 50 #[.slice (some ⟨T.gl, 0, none⟩) T.S.length T.cl, .int .i64 many] := h.wd.heap (kept1 _ h.wd.lt (h.wd.ne h1 (by decide)))
  have hmj := h.mp j hj
  refine ⟨hwd1.cell 0, hwd1.free 0, fun v => ?_⟩
  have hw2 := hwd1.set 0 v
  refine ⟨hw2.cell 0, ?_, ?_⟩
  · have hne : g1 ≠ W0 := by
      intro e
      have := own_ne ho hwd1 (by decide)
      exact this (by rw [← e]; rfl)
    rw [World.cell?_of_block (a := ⟨g1, j * 3, none⟩) (Below.heap_setCell w1 ⟨W0, 0, none⟩ v g1 hne)]
    have := ho.cells (g := g1) rfl (j * 3) (.map (some (T.M j))) (by
      rw [List.getElem?_append_left (by omega)]
      have := (hx j hj).1
      rw [List.getElem?_toArray] at this
      exact this)
    rw [addLit] at this
    simpa using this
  · exact hmj.heap ((Below.heap_setCell w1 _ _ _ (fun e => hmj.ne h.wd e)).trans (kept1 _ hmj.lt (hmj.ne h1)))
theorem StC.len {xs : List Value} {base : Nat} {w : World} {n : Nat} {v : Value} {e : TypeId} (h : w.ownsRow base e 3 v n xs) : xs.length = n * 3 := h.1
set_option maxHeartbeats 2000000 in
theorem add_any (base W0 k : Nat) (many : Int) (T : Tt) (ws : List (List UInt8)) (A : Option Addr) (n c : Nat) (w : World) (h : AT w base W0 many T) (hs : SemA T ws k 0) (hr : Rd w base 1 A n (bys (wdj ws k))) (hn : n ≤ 64) (hk : k < 8) (hbase : base ≤ w.heap.size) :
    Calls Try.prog 19 #[.pointer (some ⟨W0, 0, none⟩), .int .i64 k, .slice A n c] w fun e w' => e = .returned (.tuple #[]) ∧ (∃ T' : Tt, AT w' base W0 many T' ∧ SemA T' ws (k + 1) 0) ∧ Below base w w' := by
  have hll := hr.blen
  have Hr := Lib.hid hr
  have H := Lib.hid h
  have Hs := Lib.hid hs
  have hmm := @run_makeMap Try.prog
  clear hr h hs
  go_enter Try.func19, Try.ntmps19
  go_wp2_with fail
  go_loopw [6, 13] (fun s i wr => ∃ (T' : Tt) (q a : Nat), s = .int .i64 a ∧ i = .int .i64 q ∧ q ≤ n ∧ Hid (AT wr base W0 many T' ∧ SemA T' ws k q ∧ a < T'.S.length ∧ str T'.S a = (wdj ws k).take q) ∧ Below base w wr) (fun _ i _ => n - (intOf i).toNat)
  case atStart => exact ⟨T, 0, 0, rfl, rfl, Nat.zero_le _, Lib.hid ⟨H.out, Hs.out, by
      have := Hs.out.tr.mem0
      exact List.length_pos_of_mem this, by rw [str_zero Hs.out.tr]; rfl⟩, Below.refl _ _⟩
  case round =>
    obtain ⟨T', q, a, rfl, rfl, hq, hT, hbl⟩ := hrel
    clear H Hs
    have ha := hT.out.2.2.1
    have hz := hbl.size
    obtain ⟨c0, _⟩ := hT.out.1.head
    have hnn := hT.out.2.1.nn
    by_cases hlt : q < n
    · obtain ⟨b, o, u, rfl, hb, hu, hu8, hcu⟩ := (Hr.out.below hbl (Nat.le_refl _)).byte hlt
      have Hu := Lib.hid hu
      obtain ⟨d0, d1, d2⟩ := hT.out.1.cells ha
      have hmp := Lib.hid (hT.out.1.mp a ha)
      have i0 : (0 : Int) ≤ (a : Int) := by omega
      have i1 : (a : Int) < (T'.S.length : Int) := by omega
      have Htk := Lib.hid (take_step hu)
      clear hu
      rcases hx : nx T'.S a u with _ | v
      · have hbo : (nx T'.S a u).isSome = false := by rw [hx]; rfl
        have Hx := Lib.hid (nx_none hx)
        clear hx
        obtain ⟨i0', hi, hz0, hz1, hz2⟩ := info_parts infoS
        obtain ⟨xs, hown, hxs⟩ := hT.out.1.own
        have Hxs := Lib.hid hxs
        have Hxl := Lib.hid hown.1
        have HA2 := Lib.hid ((hT.out.1.alloc (.map #[] 0)).alloc (.cells #[.map (some wr.heap.size), .int .i64 0, .slice none 0 0] 47))
        have Hown := Lib.hid ((hown.alloc (.map #[] 0)).alloc (.cells #[.map (some wr.heap.size), .int .i64 0, .slice none 0 0] 47))
        have Hnew := Lib.hid (Rd.blk (wr.alloc (.map #[] 0)) 47 #[.map (some wr.heap.size), .int .i64 0, .slice none 0 0] (g := wr.heap.size + 1) (by simp) (fr := (0, 0)))
        have Hbl2 := Lib.hid ((hbl.alloc (by omega) (.map #[] 0)).alloc (by simp <;> omega) (.cells #[.map (some wr.heap.size), .int .i64 0, .slice none 0 0] 47))
        have Hz2 := Lib.hid (show base ≤ ((wr.alloc (.map #[] 0)).alloc (.cells #[.map (some wr.heap.size), .int .i64 0, .slice none 0 0] 47)).heap.size by simp <;> omega)
        have HmN : Hid (MapF ((wr.alloc (.map #[] 0)).alloc (.cells #[.map (some wr.heap.size), .int .i64 0, .slice none 0 0] 47)) wr.heap.size 0 (fun _ => none)) := Lib.hid ((MapF.new wr).heap (Below.heap_alloc _ _ _ (by simp)))
        have Hmn := Lib.hid (show ∀ i, i < T'.S.length → T'.M i ≠ wr.heap.size from fun i hi e => by have := (hT.out.1.mp i hi).lt; omega)
        have h1c : ∀ u ∈ (#[.map (some wr.heap.size), .int .i64 0, .slice none 0 0] : Array Value).toList, u.oneCell' = true := by simp [Value.oneCell']
        have H1c := Lib.hid h1c
        clear hxs hown h1c
        go_wp2_with (first
          | ((at_lookup; refine look_map rfl _ _ rfl hmp.out u (by rfl) (by rfl) ?_; intro z hz))
          | ((at_builtin; refine ap_any (base := base) (w0 := w) Try.underlying48 hi hz0 hz1 hz2 rfl (by decide) Hown.out Hnew.out H1c.out Hbl2.out Hz2.out (by omega) (by rfl) (by rfl) (by rfl) ?_; intro v1 w1 hown1 hb1 hg1 hat1; obtain ⟨g1, c1, rfl, hg1b, hg1lt, hc1⟩ := own_pos hown1 (by omega); obtain ⟨p0, p1, p2⟩ := HA2.out.mid Hxs.out hown1 Hxl.out hg1 ha; obtain ⟨p3, p4, p5⟩ := p2 (.slice (some ⟨g1, 0, none⟩) (T'.S.length + 1) c1); clear p2))
          | ((at_mapUpdate; refine put_map rfl _ _ _ rfl p5 u T'.S.length (by omega) (by omega) (by rfl) (by rfl) (by rfl) ?_; intro w3 h3 hg3)))
        have hat2 : g1 = T'.gl ∨ g1 = ((wr.alloc (.map #[] 0)).alloc (.cells #[.map (some wr.heap.size), .int .i64 0, .slice none 0 0] 47)).heap.size := by
          rcases hat1 with e | e
          · exact .inl (by simpa [Value.ownBlock] using e)
          · exact .inr (by simpa [Value.ownBlock] using e)
        have hAT3 := HA2.out.addState hT.out.2.1.tr HmN.out (by omega) Hmn.out Hxs.out hown1 Hxl.out hg1 hat2 ha Hx.out h3 hg3
        have hbl3 : Below base w w3 := (hb1.setCell (p := ⟨W0, 0, none⟩) hT.out.1.bw _).grown hg3 (by have := hb1.size; simp [World.setCell] <;> omega) (fun k hk => by injection hk with hk; have := hT.out.1.bm a ha; omega)
        have Hfin := Lib.hid hAT3
        clear hAT3 hg3 h3 hown1 hg1 hat1 hat2 hb1 p0 p1 p3 p4 p5 HA2 Hown Hnew Hbl2 HmN
        have hst : (str T'.S a).length < 64 := by rw [hT.out.2.2.2]; have := List.length_take_le q (wdj ws k); omega
        go_roundw
        case rel => exact ⟨_, q + 1, T'.S.length, rfl, by go_num, by omega, Lib.hid ⟨Hfin.out, hT.out.2.1.add ha Hx.out hst _ _ _, by simp, by dsimp only; rw [str_new, Htk.out, hT.out.2.2.2]⟩, hbl3⟩
        case measure => simp [intOf]; omega
      · have hbo : (nx T'.S a u).isSome = true := by rw [hx]; rfl
        have Hx := Lib.hid hx
        clear hx
        go_wp2_with ((at_lookup; refine look_map rfl _ _ rfl hmp.out u (by rfl) (by rfl) ?_; intro z hz; obtain rfl := hz v Hx.out))
        go_roundw
        case rel => exact ⟨T', q + 1, v, rfl, by go_num, by omega, Lib.hid ⟨hT.out.1, hT.out.2.1.more (Nat.le_succ _), (nx_some Hx.out).2.2.1, by rw [(nx_some Hx.out).2.2.2, Htk.out, hT.out.2.2.2]⟩, hbl⟩
        case measure => simp [intOf]; omega
    · have : q = n := by omega
      subst this
      have hT1 := hT.out.1
      have hsem := hT.out.2.1.told (by omega) ha (by rw [hT.out.2.2.2, List.take_of_length_le (by omega)])
      have hown := hT1.en a ha
      have hel := hT.out.2.1.el a ha
      obtain ⟨Ak, ck, hvk, hck, _⟩ := own_form hown
      obtain ⟨d0, d1, d2⟩ := hT1.cells ha
      have f2 := hT1.free (a * 3 + 2)
      have hfa := (hT1.alloc (.cells #[.int .i64 (k : Int)] 3)).free (a * 3 + 2)
      have hgl : T'.gl < wr.heap.size := by obtain ⟨cs, h1, _⟩ := hT1.st; exact h1.lt
      have hwl := hT1.wd.lt
      have i0 : (0 : Int) ≤ (a : Int) := by omega
      have i1 : (a : Int) < (T'.S.length : Int) := by omega
      have hA : ∀ W : World, W.heap = (wr.alloc (.cells #[.int .i64 (k : Int)] 3)).heap → W.ownsRow base 3 1 (T'.V a) (T'.E a).length (nIts (T'.E a)) ∧ Rd W (wr.heap.size + 1) 1 (some ⟨wr.heap.size, 0, none⟩) 1 (its [(k : Int)]) ∧ base ≤ W.heap.size := by
        intro W hW
        refine ⟨?_, ?_, by rw [hW]; simp; omega⟩
        · have := hown.alloc (.cells #[.int .i64 (k : Int)] 3); unfold World.ownsRow at this ⊢; rw [hW]; exact this
        · exact (Rd.oneI wr 3 (k : Int)).keep fun p _ => World.cell?_of_block (by rw [hW])
      have hF : ∀ W W8 : World, W.heap = (wr.alloc (.cells #[.int .i64 (k : Int)] 3)).heap → W.grownBy W8 (T'.V a).ownBlock → W8.cell? ⟨W0, 0, none⟩ = some (.slice (some ⟨T'.gl, 0, none⟩) T'.S.length T'.cl) ∧ W8.cell? ⟨T'.gl, a * 3 + 2, none⟩ = some (T'.V a) ∧ W8.frozen? ⟨T'.gl, a * 3 + 2, none⟩ = false := by
        intro W W8 hW hg
        have h1 := (hT1.alloc (.cells #[.int .i64 (k : Int)] 3)).frame (w' := W) (fun i _ _ => by rw [hW])
        obtain ⟨cs, b1, _⟩ := h1.st
        have hne := own_ne (h1.en a ha) b1 (by decide)
        have hne2 := own_ne (h1.en a ha) h1.wd (by decide)
        have b2 : Bk W8 T'.gl 47 cs := b1.heap (hg.block _ b1.lt (fun e => hne e.symm))
        have b3 : Bk W8 W0 50 _ := h1.wd.heap (hg.block _ h1.wd.lt (fun e => hne2 e.symm))
        refine ⟨b3.cell 0, ?_, b2.free _⟩
        rw [b2.cell, ← b1.cell]
        exact (h1.cells ha).2.2
      rw [hvk] at d2
      have HA := Lib.hid hA
      have hF2 : ∀ W8, (wr.alloc (.cells #[.int .i64 (k : Int)] 3)).drew.grownBy W8 (Value.slice Ak (T'.E a).length ck).ownBlock → _ := fun W8 hg => hF (wr.alloc (.cells #[.int .i64 (k : Int)] 3)).drew W8 rfl (by rw [hvk]; exact hg)
      have HF := Lib.hid hF2
      have Hvk := Lib.hid hvk
      have Hsem := Lib.hid hsem
      clear hown hA hF hF2 hvk hsem hT1
      go_wp2_with fail
      go_region_law (first
        | (refine ap_its_step (v := .slice Ak (T'.E a).length ck) (n := (T'.E a).length) (xs := (T'.E a).map Int.ofNat) (news := [(k : Int)]) (A := some ⟨wr.heap.size, 0, none⟩) (m := 1) (B := wr.heap.size + 1) (base := base) (by rw [← Hvk.out]; exact (HA.out _ rfl).1) (by exact (HA.out _ rfl).2.1) (by exact (HA.out _ rfl).2.2) (by omega) (by rfl) (by rfl) ?_; intro v8 w8 hown8 hb8 hg8 hv8; obtain ⟨e8, hc8, hf8⟩ := HF.out w8 (by exact hg8); rw [Hvk.out] at hc8; obtain ⟨A8, c8, rfl, _, _⟩ := own_form hown8))
      all_goals
        have hT2 : AT (wr.alloc (.cells #[.int .i64 (k : Int)] 3)).drew base W0 many T' := (hT.out.1.alloc _).frame (fun _ _ _ => rfl)
        have hx8 : nIts (T'.E a ++ [k]) = its (List.map Int.ofNat (T'.E a) ++ [(k : Int)]) := by simp [nIts]
        have ho8 : w8.ownsRow base 3 1 (.slice A8 ((T'.E a).length + 1) c8) (T'.E a ++ [k]).length (nIts (T'.E a ++ [k])) := by rw [hx8, List.length_append]; exact hown8
        have hAT := hT2.setEnds ha ho8 (by rw [Hvk.out]; exact hg8) (by rw [Hvk.out]; exact hv8)
        have hB := ((hbl.alloc (by omega) (.cells #[.int .i64 (k : Int)] 3)).drew.trans hb8).setCell (p := ⟨T'.gl, a * 3 + 2, none⟩) hT.out.1.bg (.slice A8 ((T'.E a).length + 1) c8)
        have Hfin := Lib.hid hAT
        have HB := Lib.hid hB
        clear hAT hB hT2 hx8 ho8 hown8 hg8 hv8 hb8 HA HF
        go_wp2_with fail
        go_end0
        exact ⟨rfl, ⟨_, Hfin.out, Hsem.out _⟩, HB.out⟩
end Go.Proofs.Ythfpdiaobkccbaa
