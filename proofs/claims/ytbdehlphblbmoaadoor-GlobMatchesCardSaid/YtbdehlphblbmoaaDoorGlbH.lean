/- Contracts of package glob: Match. -/
import Derived.Test.YtbdehlphblbmoaaDoorGlbG
import Derived.Test.YtbdehlphblbmoaaDoorGlbE
import Derived.Laws.OwnMore
import Derived.Deep.OwnRows
import Derived.Lib.OthersKept
namespace Go.Proofs.YtbdehlphblbmoaaDoor
open Go.RowKit
attribute [local go_sem ↓] Go.wp_at_zero Go.wp_at_succ

theorem infoBo : (Tryd.prog.info? 4).map (fun i => (i.zero, i.size, i.bytes)) = some (some (.bool false), 1, 1) := by kernel_rfl
theorem made_bls (n : Nat) : madeCells #[Value.bool false] n = (bls (List.replicate n false)).toArray := by
  apply Array.ext'
  rw [toList_madeCells_one]
  simp [bls]
/-- make([]bool, n). -/
theorem mk_bls (n : Nat) (x y : Int) (hx : x = n) (hy : y = n) (hn : n ≤ 1000000) (w : World) :
    (Instr.makeSlice 60 (.int .i64 x) (.int .i64 y)).run Tryd.prog w = .ok (.slice (some ⟨w.heap.size, 0, none⟩) n n) (w.alloc (.cells (bls (List.replicate n false)).toArray 4)) := by
  subst hx hy
  rw [← made_bls]
  exact run_make_row' (P := Tryd.prog) 60 4 (.bool false) 1 Tryd.underlying60 infoBo rfl .i64 .i64 n (by omega) (by omega) w
theorem iter_below (w : World) (s : ByteArray) : Below w.heap.size w (w.iter s 0) := (Below.refl _ w).alloc (Nat.le_refl _) _
theorem meth_lit (v : Value) (w : World) : (method 222 75 v "inquest/glob.fits").run Tryd.prog w = .ok (65, v) w := by kernel_rfl
theorem meth_one (v : Value) (w : World) : (method 222 93 v "inquest/glob.fits").run Tryd.prog w = .ok (66, v) w := by kernel_rfl
theorem meth_stars (v : Value) (w : World) : (method 222 64 v "inquest/glob.fits").run Tryd.prog w = .ok (63, v) w := by kernel_rfl
theorem meth_cls (v : Value) (w : World) : (method 222 102 v "inquest/glob.fits").run Tryd.prog w = .ok (67, v) w := by kernel_rfl
theorem wid_pos (s : ByteArray) (pos : Nat) (h : pos < s.size) : 1 ≤ (Utf8.decode s pos).2 := by
  by_cases ha : (s[pos]'h).toNat < 128
  · rw [decode_ascii s pos h ha]
    exact Nat.le_refl _
  · exact (decode_high s pos h (by omega)).2
theorem ch_iterAt (w : World) (k : Nat) (s : ByteArray) (p : Nat) : Ch (fun i => i = k) w (w.iterAt k s p) := ⟨rfl, rfl, rfl, by rw [Lib.iterAt_size]; exact Nat.le_refl _, fun i _ hn => Lib.iterAt_other w k i s p hn⟩
set_option maxHeartbeats 4000000 in
set_option maxRecDepth 100000 in
theorem match_any (g B : Nat) (ps : List PtP) (s : ByteArray) (w : World) (h : GlM w B g ps) (hB : B ≤ w.heap.size) (hs : s.size ≤ 1000) :
    Calls Tryd.prog 11 #[.pointer (some ⟨g, 0, none⟩), .string s] w fun e w' => e = .returned (.bool (mt ps (rnB s))) ∧ Below w.heap.size w w' := by
  obtain ⟨A, n, c0, vs, h1, h2, h3, h4, h5⟩ := id h
  have HG := Lib.hid h
  have r0 : w.cell? ⟨g, 0, none⟩ = some (.slice A n c0) := h1.cell 0
  have hgl := h1.lt
  have HG0 := Lib.hid r0
  have hs' : ¬ (1000 : Int) < (s.size : Int) := by omega
  have hmk := fun w => mk_bls (n + 1) ((n : Int) + 1) ((n : Int) + 1) (by omega) (by omega) (by omega) w
  have k0 : (w.alloc (.cells (bls (List.replicate (n + 1) false)).toArray 4)).cell? ⟨w.heap.size, 0, none⟩ = some (.bool false) := ((Bk.new w _ _).cell 0).trans (bls_at (by simp))
  have f0 : (w.alloc (.cells (bls (List.replicate (n + 1) false)).toArray 4)).frozen? ⟨w.heap.size, 0, none⟩ = false := (Bk.new w _ _).free 0
  have HS := Lib.hid (show Bk (w.alloc (.cells ((bls (List.replicate (n + 1) false)).set 0 (.bool true)).toArray 4)) w.heap.size 4 (bls (start n)).toArray from by
    have e : (bls (List.replicate (n + 1) false)).set 0 (.bool true) = bls (start n) := by simp [bls, start, List.map_set]
    rw [e]
    exact Bk.new w _ _)
  have HC := Lib.hid ((Below.refl w.heap.size w).alloc (Nat.le_refl _) (.cells ((bls (List.replicate (n + 1) false)).set 0 (.bool true)).toArray 4))
  have H3 := Lib.hid h3
  have H2 := Lib.hid h2
  have H5 := Lib.hid h5
  clear h h1 h2 h3 h5
  go_enter Tryd.func11, Tryd.ntmps11
  go_wp2_with fail
  have HGa := Lib.hid ((HG.out.ch (S := fun _ => False) (Ch.of_below HC.out (Nat.le_refl _)) (by have := HC.out.size; omega) (fun h => h) (fun _ h => h.elim)))
  have HO := Lib.hid (open_any g B w.heap.size (n + 1) ps (start n) _ HGa.out (by have := HC.out.size; omega) HS.out (by unfold start; rw [H3.out]; simp))
  rw [H3.out] at HO
  have HO2 := Lib.hid HO.out
  clear HO
  with_reducible refine HO2.out.mono ?_
  rintro e w1 ⟨rfl, o1, o2⟩
  have O1 := Lib.hid o1
  have HC1 := Lib.hid (show Below w.heap.size w w1 from HC.out.trans (o2.below (B := w.heap.size) HC.out.size (fun i hi => by omega)))
  have hsz1 : w.heap.size < w1.heap.size := o1.lt
  clear HO2 HS HC HGa o1 o2 k0 f0 hmk
  have HI0 := Lib.hid (World.iter_heap w1 s 0)
  have HCi := Lib.hid (show Ch (fun _ => False) w1 (w1.iter s 0) from Ch.of_below (iter_below w1 s) (Nat.le_refl _))
  go_wp2_with fail
  generalize hkk : w1.heap.size = k at *
  generalize w1.iter s 0 = w2 at *
  go_loopw [5] (fun v5 wr => ∃ (ba pos fuel : Nat) (a : List Bool), v5 = .slice (some ⟨ba, 0, none⟩) (n + 1) (n + 1) ∧ w.heap.size ≤ ba ∧ Hid (Bk wr ba 4 (bls a).toArray ∧ wr.heap[k]? = some (.stringIter s pos) ∧ Below w.heap.size w wr ∧ a.length = n + 1 ∧ runM ps a (rnFrom s fuel pos) = runM ps (openN ps (start n) n) (rnB s)) ∧ s.size ≤ pos + fuel) (fun _ wr => s.size - wr.iterPos k)
  case atStart =>
    refine ⟨w.heap.size, 0, s.size, openN ps (start n) n, rfl, Nat.le_refl _, Lib.hid ⟨O1.out.ch HCi.out (fun h => h), HI0.out, HC1.out.trans (HCi.out.below (B := w.heap.size) (by omega) (fun _ h => h.elim)), by rw [openN_len]; unfold start; simp, rfl⟩, by omega⟩
  case round =>
    obtain ⟨ba, pos, fuel, a, rfl, hba, HI, hfu⟩ := hrel
    obtain ⟨i1, i2, i3, i4, i5⟩ := HI.out
    have hsz : k < wr.heap.size := (Array.getElem?_eq_some_iff.1 i2).1
    have hbk : ba ≠ k := fun e => by subst e; have := i1.symm.trans i2; cases this
    have hball := i1.lt
    have hgr : wr.cell? ⟨g, 0, none⟩ = some (.slice A n c0) := (World.cell?_of_block (i3.block g hgl)).trans HG0.out
    by_cases hp : pos < s.size
    · have hnx : ∀ ty, (Instr.next (.pointer (some ⟨k, 0, none⟩)) true ty).run Tryd.prog wr = _ := fun ty => Lib.run_next_any_at wr k s pos ty i2 hp
      have hwd := wid_pos s pos hp
      obtain ⟨f, rfl⟩ : ∃ f, fuel = f + 1 := ⟨fuel - 1, by omega⟩
      rw [rnFrom, if_pos hp, runM, H3.out] at i5
      obtain ⟨r, hr⟩ : ∃ r : Int, (((Utf8.decode s pos).1 : Nat) : Int) = r := ⟨_, rfl⟩
      obtain ⟨p2, hp2⟩ : ∃ p2 : Nat, pos + (Utf8.decode s pos).2 = p2 := ⟨_, rfl⟩
      rw [hr, hp2] at i5
      rw [hr, hp2] at hnx
      have hi2 := Lib.iterAt_heap wr k s pos p2 i2
      have hcA : Ch (fun i => i = k) wr (wr.iterAt k s p2) := ch_iterAt wr k s p2
      have I1 := Lib.hid (i1.ch hcA hbk)
      have I3 := Lib.hid (i3.trans (hcA.below (B := w.heap.size) (by omega) (fun i hi => by subst hi; omega)))
      have I5 := Lib.hid i5
      have I4 := Lib.hid i4
      have HP := Lib.hid (show s.size - p2 < s.size - wr.iterPos k from by simp only [World.iterPos, i2]; omega)
      have I2 := Lib.hid hi2
      have hszA : (wr.iterAt k s p2).heap.size = wr.heap.size := Lib.iterAt_size wr k s p2
      clear i1 i2 i3 i4 i5 HI hi2 hcA hgr r0
      obtain ⟨bn, hbn⟩ : ∃ bn, wr.heap.size = bn := ⟨_, rfl⟩
      rw [hbn] at hszA
      generalize wr.iterAt k s p2 = wx at *
      have hmk := mk_bls (n + 1) ((n : Int) + 1) ((n : Int) + 1) (by omega) (by omega) (by omega) wx
      have HN0 := Lib.hid (Bk.new wx 4 (bls (List.replicate (n + 1) false)).toArray)
      have HNc := Lib.hid ((Ch.refl (fun _ => False) wx).alloc (.cells (bls (List.replicate (n + 1) false)).toArray 4))
      have hgr : (wx.alloc (.cells (bls (List.replicate (n + 1) false)).toArray 4)).cell? ⟨g, 0, none⟩ = some (.slice A n c0) := (World.cell?_of_block ((HNc.out.block g (by omega) (fun h => h)).trans (I3.out.block g hgl))).trans HG0.out
      go_wp2_with fail
      have HN := Lib.hid (show Bk (wx.alloc (.cells (bls (List.replicate (n + 1) false)).toArray 4)) bn 4 (bls (nextN ps a r 0)).toArray from by rw [nextN, H3.out, ← hszA]; exact HN0.out)
      have J1 := Lib.hid (I1.out.ch HNc.out (fun h => h))
      have J2 := Lib.hid (show (wx.alloc (.cells (bls (List.replicate (n + 1) false)).toArray 4)).heap[k]? = some (.stringIter s p2) from (HNc.out.block k (by omega) (fun h => h)).trans I2.out)
      have J3 := Lib.hid (I3.out.trans (HNc.out.below (B := w.heap.size) (by omega) (fun _ h => h.elim)))
      have hszN : bn < (wx.alloc (.cells (bls (List.replicate (n + 1) false)).toArray 4)).heap.size := HN.out.lt
      clear HN0 HNc hmk hnx I1 I2 I3
      generalize (wx.alloc (.cells (bls (List.replicate (n + 1) false)).toArray 4)) = wy at *
      go_loopw [43] (fun i wr => ∃ j : Nat, i = .int .i64 j ∧ j ≤ n ∧ Hid (Bk wr bn 4 (bls (nextN ps a r j)).toArray ∧ Ch (fun i => i = bn) wy wr)) (fun i _ => n - (intOf i).toNat)
      case atStart => exact ⟨0, rfl, Nat.zero_le _, Lib.hid ⟨HN.out, Ch.refl _ _⟩⟩
      case round =>
        obtain ⟨j, rfl, hj, HJ⟩ := hrel
        obtain ⟨hbk2, hch⟩ := HJ.out
        clear hgr
        by_cases hlt : j < n
        · obtain ⟨p, hpj⟩ : ∃ p, ps[j]? = some p := ⟨_, List.getElem?_eq_getElem (by have := H3.out; omega)⟩
          obtain ⟨b, o, v, rfl, hb, hv, hc⟩ := H2.out.at_ hlt
          have hpt := H5.out j _ v hpj hv
          have hcr : wr.cell? ⟨b, o + j, none⟩ = some v := (World.cell?_of_block ((hch.block b (by have := J3.out.size; omega) (by show ¬ b = bn; omega)).trans (J3.out.block b (by omega)))).trans hc
          have hst := nextN_step (a := a) (r := r) hpj
          have haj : ∃ y, a[j]? = some y := ⟨_, List.getElem?_eq_getElem (by have := I4.out; omega)⟩
          obtain ⟨bb, hbb⟩ := haj
          have k1 : wr.cell? ⟨ba, j, none⟩ = some (.bool bb) := ((J1.out.ch hch (by omega)).cell j).trans (bls_at hbb)
          have q1 : IntKind.i64.wrap ((j : Int) + 1) = (j : Int) + 1 := IntWalk.i64_in _ (by omega)
          rw [hbb, Option.getD_some] at hst
          have Hst := Lib.hid hst
          have HJ0 := Lib.hid (And.intro hbk2 hch)
          have Hpj := Lib.hid hpj
          clear hst hbk2 hch HJ hv hc hpj hbb
          cases bb with
          | false =>
            clear hpt
            go_wp2_with fail
            go_roundw
            case rel => exact ⟨j + 1, by go_num, by omega, Lib.hid (by rw [Hst.out]; exact HJ0.out)⟩
            case measure => simp [intOf]; omega
          | true =>
            cases p with
            | lit x =>
              have hvv : v = .iface 75 (.int .i32 x) := hpt
              subst hvv
              clear hpt
              have hm := meth_lit
              generalize hfb : fitsB (.lit x) r = fb at *
              have HF := Lib.hid (show Calls Tryd.prog 65 #[.int .i32 x, .int .i32 r] wr fun e w' => e = .returned (.bool fb) ∧ Ch (fun _ => False) wr w' from by
                with_reducible refine (fit_lit x r wr).mono ?_
                rintro e w' ⟨h1, h2⟩
                exact ⟨by rw [h1, ← hfb]; rfl, h2 ▸ Ch.refl _ _⟩)
              clear hfb
              go_wp2_with fail
              with_reducible refine HF.out.mono ?_
              rintro e w4 ⟨rfl, c4⟩
              have hb4 := HJ0.out.1.ch c4 (fun h => h)
              have hc4 := HJ0.out.2.trans c4 (fun _ h => h.elim)
              have hy : ∃ y, (nextN ps a r j)[j + 1]? = some y := ⟨_, List.getElem?_eq_getElem (by rw [nextN_len, H3.out]; omega)⟩
              obtain ⟨y, hy⟩ := hy
              have k2 : w4.cell? ⟨bn, j + 1, none⟩ = some (.bool y) := (hb4.cell (j + 1)).trans (bls_at hy)
              have k3 : w4.frozen? ⟨bn, j + 1, none⟩ = false := hb4.free (j + 1)
              have HX0 := Lib.hid (And.intro hb4 hc4)
              have HX1 := Lib.hid (show Bk (w4.setCell ⟨bn, j + 1, none⟩ (.bool true)) bn 4 (bls ((nextN ps a r j).set (j + 1) true)).toArray ∧ Ch (fun i => i = bn) wy (w4.setCell ⟨bn, j + 1, none⟩ (.bool true)) from
                ⟨by have := hb4.set (j + 1) (.bool true); rwa [bls_set] at this, hc4.set (p := ⟨bn, j + 1, none⟩) (.inl rfl) _⟩)
              have hta := fun (v : Value) (w : World) => ta_no 75 (by decide) v w
              clear hb4 hc4 c4 hy HF hm
              cases fb
              · go_wp2_with fail
                go_roundw
                case rel => exact ⟨j + 1, by go_num, by omega, Lib.hid (by rw [Hst.out]; exact HX0.out)⟩
                case measure => simp [intOf]; omega
              · go_wp2_with fail
                go_roundw
                case rel => exact ⟨j + 1, by go_num, by omega, Lib.hid (by rw [Hst.out]; exact HX1.out)⟩
                case measure => simp [intOf]; omega
            | one =>
              have hvv : v = .iface 93 (.agg #[]) := hpt
              subst hvv
              clear hpt
              have hm := meth_one
              generalize hfb : fitsB (.one) r = fb at *
              have HF := Lib.hid (show Calls Tryd.prog 66 #[.agg #[], .int .i32 r] wr fun e w' => e = .returned (.bool fb) ∧ Ch (fun _ => False) wr w' from by
                with_reducible refine (fit_one r wr).mono ?_
                rintro e w' ⟨h1, h2⟩
                exact ⟨by rw [h1, ← hfb]; rfl, Ch.of_below h2 (Nat.le_refl _)⟩)
              clear hfb
              go_wp2_with fail
              with_reducible refine HF.out.mono ?_
              rintro e w4 ⟨rfl, c4⟩
              have hb4 := HJ0.out.1.ch c4 (fun h => h)
              have hc4 := HJ0.out.2.trans c4 (fun _ h => h.elim)
              have hy : ∃ y, (nextN ps a r j)[j + 1]? = some y := ⟨_, List.getElem?_eq_getElem (by rw [nextN_len, H3.out]; omega)⟩
              obtain ⟨y, hy⟩ := hy
              have k2 : w4.cell? ⟨bn, j + 1, none⟩ = some (.bool y) := (hb4.cell (j + 1)).trans (bls_at hy)
              have k3 : w4.frozen? ⟨bn, j + 1, none⟩ = false := hb4.free (j + 1)
              have HX0 := Lib.hid (And.intro hb4 hc4)
              have HX1 := Lib.hid (show Bk (w4.setCell ⟨bn, j + 1, none⟩ (.bool true)) bn 4 (bls ((nextN ps a r j).set (j + 1) true)).toArray ∧ Ch (fun i => i = bn) wy (w4.setCell ⟨bn, j + 1, none⟩ (.bool true)) from
                ⟨by have := hb4.set (j + 1) (.bool true); rwa [bls_set] at this, hc4.set (p := ⟨bn, j + 1, none⟩) (.inl rfl) _⟩)
              have hta := fun (v : Value) (w : World) => ta_no 93 (by decide) v w
              clear hb4 hc4 c4 hy HF hm
              cases fb
              · go_wp2_with fail
                go_roundw
                case rel => exact ⟨j + 1, by go_num, by omega, Lib.hid (by rw [Hst.out]; exact HX0.out)⟩
                case measure => simp [intOf]; omega
              · go_wp2_with fail
                go_roundw
                case rel => exact ⟨j + 1, by go_num, by omega, Lib.hid (by rw [Hst.out]; exact HX1.out)⟩
                case measure => simp [intOf]; omega
            | stars d =>
              have hvv : v = .iface 64 (.agg #[.bool d]) := hpt
              subst hvv
              clear hpt
              have hm := meth_stars
              generalize hfb : fitsB (.stars d) r = fb at *
              have HF := Lib.hid (show Calls Tryd.prog 63 #[.agg #[.bool d], .int .i32 r] wr fun e w' => e = .returned (.bool fb) ∧ Ch (fun _ => False) wr w' from by
                with_reducible refine (fit_stars d r wr).mono ?_
                rintro e w' ⟨h1, h2⟩
                exact ⟨by rw [h1, ← hfb]; rfl, Ch.of_below h2 (Nat.le_refl _)⟩)
              clear hfb
              go_wp2_with fail
              with_reducible refine HF.out.mono ?_
              rintro e w4 ⟨rfl, c4⟩
              have hb4 := HJ0.out.1.ch c4 (fun h => h)
              have hc4 := HJ0.out.2.trans c4 (fun _ h => h.elim)
              have hy : ∃ y, (nextN ps a r j)[j]? = some y := ⟨_, List.getElem?_eq_getElem (by rw [nextN_len, H3.out]; omega)⟩
              obtain ⟨y, hy⟩ := hy
              have k2 : w4.cell? ⟨bn, j, none⟩ = some (.bool y) := (hb4.cell (j)).trans (bls_at hy)
              have k3 : w4.frozen? ⟨bn, j, none⟩ = false := hb4.free (j)
              have HX0 := Lib.hid (And.intro hb4 hc4)
              have HX1 := Lib.hid (show Bk (w4.setCell ⟨bn, j, none⟩ (.bool true)) bn 4 (bls ((nextN ps a r j).set (j) true)).toArray ∧ Ch (fun i => i = bn) wy (w4.setCell ⟨bn, j, none⟩ (.bool true)) from
                ⟨by have := hb4.set (j) (.bool true); rwa [bls_set] at this, hc4.set (p := ⟨bn, j, none⟩) (.inl rfl) _⟩)
              have hta := fun (v : Value) (w : World) => ta_yes v w
              clear hb4 hc4 c4 hy HF hm
              cases fb
              · go_wp2_with fail
                go_roundw
                case rel => exact ⟨j + 1, by go_num, by omega, Lib.hid (by rw [Hst.out]; exact HX0.out)⟩
                case measure => simp [intOf]; omega
              · go_wp2_with fail
                go_roundw
                case rel => exact ⟨j + 1, by go_num, by omega, Lib.hid (by rw [Hst.out]; exact HX1.out)⟩
                case measure => simp [intOf]; omega
            | cls nt rs =>
              obtain ⟨A1, c1, A2, c2, rfl, r1, r2, r3⟩ := hpt
              have hkp : ∀ q : Addr, q.block < B → wr.cell? q = w.cell? q := fun q hq => World.cell?_of_block ((HJ0.out.2.block q.block (by have := J3.out.size; omega) (by show ¬ q.block = bn; omega)).trans (J3.out.block q.block (by omega)))
              have hszr : B ≤ wr.heap.size := by have := HJ0.out.2.size; have := J3.out.size; omega
              have R1 := Lib.hid ((r1.keep hkp).more hszr)
              have R2 := Lib.hid ((r2.keep hkp).more hszr)
              clear r1 r2 hkp
              have hm := meth_cls
              generalize hfb : fitsB (.cls nt rs) r = fb at *
              have HF := Lib.hid (show Calls Tryd.prog 67 #[.agg #[.bool nt, .slice A1 rs.length c1, .slice A2 rs.length c2], .int .i32 r] wr fun e w' => e = .returned (.bool fb) ∧ Ch (fun _ => False) wr w' from by
                with_reducible refine (fit_cls nt rs A1 A2 c1 c2 r wr R1.out R2.out r3).mono ?_
                rintro e w' ⟨h1, h2⟩
                exact ⟨by rw [h1, ← hfb]; rfl, Ch.of_below h2 (Nat.le_refl _)⟩)
              clear hfb
              go_wp2_with fail
              with_reducible refine HF.out.mono ?_
              rintro e w4 ⟨rfl, c4⟩
              have hb4 := HJ0.out.1.ch c4 (fun h => h)
              have hc4 := HJ0.out.2.trans c4 (fun _ h => h.elim)
              have hy : ∃ y, (nextN ps a r j)[j + 1]? = some y := ⟨_, List.getElem?_eq_getElem (by rw [nextN_len, H3.out]; omega)⟩
              obtain ⟨y, hy⟩ := hy
              have k2 : w4.cell? ⟨bn, j + 1, none⟩ = some (.bool y) := (hb4.cell (j + 1)).trans (bls_at hy)
              have k3 : w4.frozen? ⟨bn, j + 1, none⟩ = false := hb4.free (j + 1)
              have HX0 := Lib.hid (And.intro hb4 hc4)
              have HX1 := Lib.hid (show Bk (w4.setCell ⟨bn, j + 1, none⟩ (.bool true)) bn 4 (bls ((nextN ps a r j).set (j + 1) true)).toArray ∧ Ch (fun i => i = bn) wy (w4.setCell ⟨bn, j + 1, none⟩ (.bool true)) from
                ⟨by have := hb4.set (j + 1) (.bool true); rwa [bls_set] at this, hc4.set (p := ⟨bn, j + 1, none⟩) (.inl rfl) _⟩)
              have hta := fun (v : Value) (w : World) => ta_no 102 (by decide) v w
              clear hb4 hc4 c4 hy HF hm
              cases fb
              · go_wp2_with fail
                go_roundw
                case rel => exact ⟨j + 1, by go_num, by omega, Lib.hid (by rw [Hst.out]; exact HX0.out)⟩
                case measure => simp [intOf]; omega
              · go_wp2_with fail
                go_roundw
                case rel => exact ⟨j + 1, by go_num, by omega, Lib.hid (by rw [Hst.out]; exact HX1.out)⟩
                case measure => simp [intOf]; omega
        · have hjn : j = n := by omega
          subst hjn
          have hcw : Below w.heap.size w wr := J3.out.trans (hch.below (B := w.heap.size) (by have := J3.out.size; omega) (fun i hi => by omega))
          have hiw : wr.heap[k]? = some (.stringIter s p2) := (hch.block k (by omega) (by show ¬ k = bn; omega)).trans J2.out
          have hgw := HG.out.ch (S := fun _ => False) (Ch.of_below hcw (Nat.le_refl _)) (by omega) (fun h => h) (fun _ h => h.elim)
          have HO := Lib.hid (open_any g B bn (j + 1) ps (nextN ps a r j) wr hgw (by omega) hbk2 (nextN_len _ _ _ _))
          rw [H3.out] at HO
          have HO2 := Lib.hid HO.out
          have HCW := Lib.hid hcw
          have HIW := Lib.hid hiw
          have hszw := hch.size
          clear HO hbk2 hch HJ hcw hiw hgw
          go_wp2_with fail
          with_reducible refine HO2.out.mono ?_
          rintro e w5 ⟨rfl, o5, c5⟩
          have O5 := Lib.hid o5
          have C5 := Lib.hid c5
          clear HO2 o5 c5
          go_wp2_with fail
          go_roundw
          case rel =>
            refine ⟨bn, p2, f, openN ps (nextN ps a r j) j, rfl, by omega, Lib.hid ⟨O5.out, (C5.out.block k (by omega) (by show ¬ k = bn; omega)).trans HIW.out, HCW.out.trans (C5.out.below (B := w.heap.size) HCW.out.size (fun i hi => by omega)), by rw [openN_len, nextN_len, H3.out], I5.out⟩, by omega⟩
          case measure =>
            have e2 : w5.iterPos k = p2 := by simp only [World.iterPos, (C5.out.block k (by omega) (by show ¬ k = bn; omega)).trans HIW.out]
            rw [e2]
            exact HP.out
    · have hnx : ∀ ty, (Instr.next (.pointer (some ⟨k, 0, none⟩)) true ty).run Tryd.prog wr = _ := fun ty => Lib.run_next_end_at wr k s pos ty i2 hp
      have e0 : rnFrom s fuel pos = [] := by
        cases fuel with
        | zero => rfl
        | succ f => rw [rnFrom, if_neg hp]
      rw [e0, runM] at i5
      obtain ⟨y, hy⟩ : ∃ y, a[n]? = some y := ⟨_, List.getElem?_eq_getElem (by omega)⟩
      have hc : wr.cell? ⟨ba, n, none⟩ = some (.bool y) := (i1.cell n).trans (bls_at hy)
      have HE := Lib.hid (show y = mt ps (rnB s) by
        have := match_mt ps (rnB s)
        rw [H3.out, ← i5, hy] at this
        exact this)
      have HW := Lib.hid i3
      clear i1 i2 i3 i5 HI hy e0
      go_wp2_with fail
      go_ret
      exact ⟨by rw [HE.out]; rfl, HW.out⟩
end Go.Proofs.YtbdehlphblbmoaaDoor
