/- The document's answer for record: GetLocal. -/
import Derived.Test.YtbdehlphblbmoaaRecQ
import Derived.Test.YtbdehlphblbmoaaCopy
import Derived.Lib.SliceRun
import Derived.Deep.RegionLaw
import Derived.Deep.RegionHeld3
namespace Go.Proofs.Ytbdehlphblbmoaa
open Go.RowKit
attribute [local go_sem ↓] Go.wp_at_zero Go.wp_at_succ

/-- What the document tells of a head: its cells, where it ends, the error. -/
def gtC (f0 f1 f2 f3 cs sz at_ : Int) (nm : Value) (wd : Bool) (fin E : Int) : Array Value := #[.int .i64 f0, .int .i64 f1, .int .i64 f2, .int .u32 f3, .int .i64 cs, .int .i64 sz, .int .i64 at_, nm, .bool wd, .int .i64 fin, .int .i64 E]
def gt0 (E : Int) : Array Value := gtC 0 0 0 0 0 0 0 (.slice none 0 0) false 0 E
def RGP (r : Sum Int HdG) (e : Ending) (w' : World) : Prop := match r with
  | .inl E => e = .returned (.agg (gt0 E))
  | .inr x => ∃ A m c, e = .returned (.agg (gtC x.flags x.method x.dos x.crc x.csize x.size x.at_ (.slice A m c) x.wide x.fin 0)) ∧ m ≤ c ∧ Rd w' w'.heap.size 1 A m (bys x.name)
theorem cells11 {w : World} {g : Nat} {T : TypeId} {c0 c1 c2 c3 c4 c5 c6 c7 c8 c9 c10 : Value} (h : Bk w g T #[c0, c1, c2, c3, c4, c5, c6, c7, c8, c9, c10]) :
    w.cell? ⟨g, 0, none⟩ = some c0 ∧ w.cell? ⟨g, 1, none⟩ = some c1 ∧ w.cell? ⟨g, 2, none⟩ = some c2 ∧ w.cell? ⟨g, 3, none⟩ = some c3 ∧ w.cell? ⟨g, 4, none⟩ = some c4 ∧ w.cell? ⟨g, 5, none⟩ = some c5 ∧ w.cell? ⟨g, 6, none⟩ = some c6 ∧ w.cell? ⟨g, 7, none⟩ = some c7 ∧ w.cell? ⟨g, 8, none⟩ = some c8 ∧ w.cell? ⟨g, 9, none⟩ = some c9 ∧ w.cell? ⟨g, 10, none⟩ = some c10 :=
  ⟨h.cell 0, h.cell 1, h.cell 2, h.cell 3, h.cell 4, h.cell 5, h.cell 6, h.cell 7, h.cell 8, h.cell 9, h.cell 10⟩
theorem frees11 {w : World} {g : Nat} {T : TypeId} {cs : Array Value} (h : Bk w g T cs) :
    w.frozen? ⟨g, 0, none⟩ = false ∧ w.frozen? ⟨g, 1, none⟩ = false ∧ w.frozen? ⟨g, 2, none⟩ = false ∧ w.frozen? ⟨g, 3, none⟩ = false ∧ w.frozen? ⟨g, 4, none⟩ = false ∧ w.frozen? ⟨g, 5, none⟩ = false ∧ w.frozen? ⟨g, 6, none⟩ = false ∧ w.frozen? ⟨g, 7, none⟩ = false ∧ w.frozen? ⟨g, 8, none⟩ = false ∧ w.frozen? ⟨g, 9, none⟩ = false ∧ w.frozen? ⟨g, 10, none⟩ = false :=
  ⟨h.free 0, h.free 1, h.free 2, h.free 3, h.free 4, h.free 5, h.free 6, h.free 7, h.free 8, h.free 9, h.free 10⟩
theorem ch_set11 (w : World) (g : Nat) (u0 u1 u2 u3 u4 u5 u6 u7 u8 u9 u10 : Value) :
    Ch (fun i => i = g) w (((((((((((w.setCell ⟨g, 0, none⟩ u0).setCell ⟨g, 1, none⟩ u1).setCell ⟨g, 2, none⟩ u2).setCell ⟨g, 3, none⟩ u3).setCell ⟨g, 4, none⟩ u4).setCell ⟨g, 5, none⟩ u5).setCell ⟨g, 6, none⟩ u6).setCell ⟨g, 7, none⟩ u7).setCell ⟨g, 8, none⟩ u8).setCell ⟨g, 9, none⟩ u9).setCell ⟨g, 10, none⟩ u10) :=
  ((ch_set9 w g u0 u1 u2 u3 u4 u5 u6 u7 u8).set (p := ⟨g, 9, none⟩) (.inl rfl) _).set (p := ⟨g, 10, none⟩) (.inl rfl) _
theorem below_set11 {B : Nat} {a w : World} (h : Below B a w) {g : Nat} (hg : B ≤ g) (u0 u1 u2 u3 u4 u5 u6 u7 u8 u9 u10 : Value) :
    Below B a (((((((((((w.setCell ⟨g, 0, none⟩ u0).setCell ⟨g, 1, none⟩ u1).setCell ⟨g, 2, none⟩ u2).setCell ⟨g, 3, none⟩ u3).setCell ⟨g, 4, none⟩ u4).setCell ⟨g, 5, none⟩ u5).setCell ⟨g, 6, none⟩ u6).setCell ⟨g, 7, none⟩ u7).setCell ⟨g, 8, none⟩ u8).setCell ⟨g, 9, none⟩ u9).setCell ⟨g, 10, none⟩ u10) :=
  ((below_set9 h hg u0 u1 u2 u3 u4 u5 u6 u7 u8).setCell (p := ⟨g, 9, none⟩) hg _).setCell (p := ⟨g, 10, none⟩) hg _
theorem Bk.set11 {w : World} {g : Nat} {T : TypeId} {c0 c1 c2 c3 c4 c5 c6 c7 c8 c9 c10 : Value} (h : Bk w g T #[c0, c1, c2, c3, c4, c5, c6, c7, c8, c9, c10]) (u0 u1 u2 u3 u4 u5 u6 u7 u8 u9 u10 : Value) :
    Bk (((((((((((w.setCell ⟨g, 0, none⟩ u0).setCell ⟨g, 1, none⟩ u1).setCell ⟨g, 2, none⟩ u2).setCell ⟨g, 3, none⟩ u3).setCell ⟨g, 4, none⟩ u4).setCell ⟨g, 5, none⟩ u5).setCell ⟨g, 6, none⟩ u6).setCell ⟨g, 7, none⟩ u7).setCell ⟨g, 8, none⟩ u8).setCell ⟨g, 9, none⟩ u9).setCell ⟨g, 10, none⟩ u10) g T #[u0, u1, u2, u3, u4, u5, u6, u7, u8, u9, u10] := by
  have h0 : Bk _ g T #[u0, c1, c2, c3, c4, c5, c6, c7, c8, c9, c10] := h.set 0 u0
  have h1 : Bk _ g T #[u0, u1, c2, c3, c4, c5, c6, c7, c8, c9, c10] := h0.set 1 u1
  have h2 : Bk _ g T #[u0, u1, u2, c3, c4, c5, c6, c7, c8, c9, c10] := h1.set 2 u2
  have h3 : Bk _ g T #[u0, u1, u2, u3, c4, c5, c6, c7, c8, c9, c10] := h2.set 3 u3
  have h4 : Bk _ g T #[u0, u1, u2, u3, u4, c5, c6, c7, c8, c9, c10] := h3.set 4 u4
  have h5 : Bk _ g T #[u0, u1, u2, u3, u4, u5, c6, c7, c8, c9, c10] := h4.set 5 u5
  have h6 : Bk _ g T #[u0, u1, u2, u3, u4, u5, u6, c7, c8, c9, c10] := h5.set 6 u6
  have h7 : Bk _ g T #[u0, u1, u2, u3, u4, u5, u6, u7, c8, c9, c10] := h6.set 7 u7
  have h8 : Bk _ g T #[u0, u1, u2, u3, u4, u5, u6, u7, u8, c9, c10] := h7.set 8 u8
  have h9 : Bk _ g T #[u0, u1, u2, u3, u4, u5, u6, u7, u8, u9, c10] := h8.set 9 u9
  exact h9.set 10 u10
/-- The head told, and the result. -/
theorem rfinal {w w10 : World} {h base n1 c8 : Nat} {A8 : Option Addr} {l : List UInt8} {T : TypeId} {c0 c1 c2 c3 c4 c5 c6 c7 c8' c9 c10 : Value} (hb : Below w.heap.size w w10) (hr : Bk w10 w.heap.size T #[c0, c1, c2, c3, c4, c5, c6, c7, c8', c9, c10]) (ho : w10.ownsRow base 5 1 (.slice A8 n1 c8) n1 (bys l))
    (h1 : w.heap.size < h) (h2 : h < base) (a0 a1 a2 a3 u0 u1 u2 u3 u4 u5 u6 u7 u8 u9 u10 : Value) :
    Bk (((((((((((((((w10.setCell ⟨h, 5, none⟩ a0).setCell ⟨h, 4, none⟩ a1).setCell ⟨h, 8, none⟩ a2).setCell ⟨h, 6, none⟩ a3).setCell ⟨w.heap.size, 0, none⟩ u0).setCell ⟨w.heap.size, 1, none⟩ u1).setCell ⟨w.heap.size, 2, none⟩ u2).setCell ⟨w.heap.size, 3, none⟩ u3).setCell ⟨w.heap.size, 4, none⟩ u4).setCell ⟨w.heap.size, 5, none⟩ u5).setCell ⟨w.heap.size, 6, none⟩ u6).setCell ⟨w.heap.size, 7, none⟩ u7).setCell ⟨w.heap.size, 8, none⟩ u8).setCell ⟨w.heap.size, 9, none⟩ u9).setCell ⟨w.heap.size, 10, none⟩ u10) w.heap.size T #[u0, u1, u2, u3, u4, u5, u6, u7, u8, u9, u10] ∧ Below w.heap.size w (((((((((((((((w10.setCell ⟨h, 5, none⟩ a0).setCell ⟨h, 4, none⟩ a1).setCell ⟨h, 8, none⟩ a2).setCell ⟨h, 6, none⟩ a3).setCell ⟨w.heap.size, 0, none⟩ u0).setCell ⟨w.heap.size, 1, none⟩ u1).setCell ⟨w.heap.size, 2, none⟩ u2).setCell ⟨w.heap.size, 3, none⟩ u3).setCell ⟨w.heap.size, 4, none⟩ u4).setCell ⟨w.heap.size, 5, none⟩ u5).setCell ⟨w.heap.size, 6, none⟩ u6).setCell ⟨w.heap.size, 7, none⟩ u7).setCell ⟨w.heap.size, 8, none⟩ u8).setCell ⟨w.heap.size, 9, none⟩ u9).setCell ⟨w.heap.size, 10, none⟩ u10) ∧ Rd (((((((((((((((w10.setCell ⟨h, 5, none⟩ a0).setCell ⟨h, 4, none⟩ a1).setCell ⟨h, 8, none⟩ a2).setCell ⟨h, 6, none⟩ a3).setCell ⟨w.heap.size, 0, none⟩ u0).setCell ⟨w.heap.size, 1, none⟩ u1).setCell ⟨w.heap.size, 2, none⟩ u2).setCell ⟨w.heap.size, 3, none⟩ u3).setCell ⟨w.heap.size, 4, none⟩ u4).setCell ⟨w.heap.size, 5, none⟩ u5).setCell ⟨w.heap.size, 6, none⟩ u6).setCell ⟨w.heap.size, 7, none⟩ u7).setCell ⟨w.heap.size, 8, none⟩ u8).setCell ⟨w.heap.size, 9, none⟩ u9).setCell ⟨w.heap.size, 10, none⟩ u10) (((((((((((((((w10.setCell ⟨h, 5, none⟩ a0).setCell ⟨h, 4, none⟩ a1).setCell ⟨h, 8, none⟩ a2).setCell ⟨h, 6, none⟩ a3).setCell ⟨w.heap.size, 0, none⟩ u0).setCell ⟨w.heap.size, 1, none⟩ u1).setCell ⟨w.heap.size, 2, none⟩ u2).setCell ⟨w.heap.size, 3, none⟩ u3).setCell ⟨w.heap.size, 4, none⟩ u4).setCell ⟨w.heap.size, 5, none⟩ u5).setCell ⟨w.heap.size, 6, none⟩ u6).setCell ⟨w.heap.size, 7, none⟩ u7).setCell ⟨w.heap.size, 8, none⟩ u8).setCell ⟨w.heap.size, 9, none⟩ u9).setCell ⟨w.heap.size, 10, none⟩ u10).heap.size 1 A8 n1 (bys l) := by
  have c4 : Ch (fun i => i = h) w10 ((((w10.setCell ⟨h, 5, none⟩ a0).setCell ⟨h, 4, none⟩ a1).setCell ⟨h, 8, none⟩ a2).setCell ⟨h, 6, none⟩ a3) := ((((Ch.refl (fun i => i = h) w10).set (p := ⟨h, 5, none⟩) (.inl rfl) a0).set (p := ⟨h, 4, none⟩) (.inl rfl) a1).set (p := ⟨h, 8, none⟩) (.inl rfl) a2).set (p := ⟨h, 6, none⟩) (.inl rfl) a3
  have r4 := hr.ch c4 (by omega)
  have b4 := hb.trans (c4.below hb.size (fun i hi => by have : i = h := hi; omega))
  have o4 := own_ch ho c4 (fun i hi => by have := (ho.lt i hi).1; omega)
  have o11 := own_ch o4 (ch_set11 _ w.heap.size u0 u1 u2 u3 u4 u5 u6 u7 u8 u9 u10) (fun i hi => by have := (ho.lt i hi).1; omega)
  exact ⟨r4.set11 u0 u1 u2 u3 u4 u5 u6 u7 u8 u9 u10, below_set11 b4 (Nat.le_refl _) u0 u1 u2 u3 u4 u5 u6 u7 u8 u9 u10, Rd.of_own o11⟩
set_option maxHeartbeats 4000000 in
set_option maxRecDepth 100000 in
theorem rgetlocal_any (A : Option Addr) (n c : Nat) (a : Int) (L : List UInt8) (w : World) (hr : Rd w w.heap.size 1 A n (bys L)) (hnc : n ≤ c) (hn : n ≤ 1000000000) (ha : -9223372036854775808 ≤ a ∧ a ≤ 9223372036854775807) :
    Calls Try.prog 9 #[.slice A n c, .int .i64 a] w fun e w' => RGP (anyG glG 3 4 L a) e w' ∧ Below w.heap.size w w' := by
  have hll := hr.blen
  have hr1 : Rd (w.alloc (.cells (gt0 0) 39)) (w.alloc (.cells (gt0 0) 39)).heap.size 1 A n (bys L) := (hr.alloc (Nat.le_refl _) _).more (by simp)
  have Hr := Lib.hid hr
  have Hf := Lib.hid (rfirst_any A n c a 3 4 L _ hr1 hnc hn ha)
  have Hr1 := Lib.hid hr1
  have Hll := Lib.hid hll
  clear hr hll hr1
  simp only [gt0, gtC] at Hf Hr1
  by_cases hF : frG L a 3 4 = 0
  · have h0 := frG_nn hF
    obtain ⟨p, rfl⟩ : ∃ p : Nat, a = p := ⟨a.toNat, by omega⟩
    have Hany := Lib.hid (show anyG glG 3 4 L (p : Int) = glG L p from (anyG_go hF).trans (by rw [Int.toNat_natCast]))
    have hp4 : p + 4 ≤ n := by
      unfold frG at hF
      rw [Int.toNat_natCast] at hF
      have := Hll.out
      split at hF
      · cases hF
      · split at hF
        · cases hF
        · omega
    rw [hF] at Hf
    clear ha hF h0
    by_cases h30 : n < p + 30
    · have Hres := Lib.hid (Hany.out.trans (glG_end (L := L) (p := p) (.inl (by rw [Hll.out]; exact h30))))
      have h3 : (n : Int) - (p : Int) < 30 := by omega
      go_enter Try.func9, Try.ntmps9
      go_wp2_with fail
      refine Hf.out.mono ?_
      rintro e w1 ⟨rfl, rfl⟩
      go_wp2
      exact bodyPost_ret (v := .agg (gt0 3)) (by simp [results, Try.results9, go_sem, gt0, gtC]) rfl ⟨by rw [Hres.out]; rfl, (Below.refl _ _).alloc (Nat.le_refl _) _⟩
    · have h3 : ¬ (n : Int) - (p : Int) < 30 := by omega
      obtain ⟨b0, o0, hA, hb0, _⟩ := Hr.out.2 (by omega : 0 < n)
      have HA := Lib.hid hA
      clear hA
      have Hco := Lib.hid (rcore_any A n c (p + 6) ((p : Int) + 6) L _ Hr1.out hnc hn (by omega) (by omega))
      simp only [hdC] at Hco
      go_enter Try.func9, Try.ntmps9
      go_wp2_with fail
      refine Hf.out.mono ?_
      rintro e w1 ⟨rfl, rfl⟩
      go_wp2_with fail
      refine Hco.out.mono ?_
      rintro e w2 ⟨rfl, hb2⟩
      have rs2 : Bk w2 w.heap.size 39 (gt0 0) := Bk.below (Bk.new w _ _) hb2 (by simp)
      have bl2 : Below w.heap.size w w2 := ((Below.refl _ _).alloc (Nat.le_refl _) _).trans (hb2.mono (by simp))
      have b1 := nAt_2 L (p + 26)
      have b2 := nAt_2 L (p + 28)
      have hn1 : ∃ m : Nat, nAt L (p + 26) 2 = m := ⟨(nAt L (p + 26) 2).toNat, by omega⟩
      have hk1 : ∃ m : Nat, nAt L (p + 28) 2 = m := ⟨(nAt L (p + 28) 2).toNat, by omega⟩
      obtain ⟨n1, hn1⟩ := hn1
      obtain ⟨k1, hk1⟩ := hk1
      rw [hn1] at b1
      rw [hk1] at b2
      have HN := Lib.hid hn1
      have HK := Lib.hid hk1
      have hat : ∀ (W : World) (q x : Nat) (z y : Int), Below w.heap.size w W → q + x ≤ n → x ≤ 6 → 0 < x → z = (q : Int) → y = (x : Int) → Calls Try.prog 20 #[.slice A n c, .int .i64 z, .int .i64 y] W fun e w' => e = .returned (.int .i64 (nAt L q x)) ∧ W = w' :=
        fun W q x z y hb h1 h2 h3 h4 h5 => at_numI A n c q x z y L W ((Hr.out.below hb (Nat.le_refl _)).more hb.size) hnc hn h1 h2 h3 h4 h5
      have H1 := Lib.hid (fun W hb => hat W (p + 26) 2 ((p : Int) + 26) 2 hb (by omega) (by omega) (by omega) (by omega) rfl)
      have H2 := Lib.hid (fun W hb => hat W (p + 28) 2 ((p : Int) + 28) 2 hb (by omega) (by omega) (by omega) (by omega) rfl)
      rw [hn1] at H1
      rw [hk1] at H2
      have bl3 := bl2.alloc bl2.size (.cells (hdC (nAt L (p + 6) 2) (nAt L (p + 6 + 2) 2) (nAt L (p + 6 + 4) 4) (nAt L (p + 6 + 8) 4) (nAt L (p + 6 + 12) 4) (nAt L (p + 6 + 16) 4) 0 (.slice none 0 0) false) 35)
      have rs3 := rs2.alloc (.cells (hdC (nAt L (p + 6) 2) (nAt L (p + 6 + 2) 2) (nAt L (p + 6 + 4) 4) (nAt L (p + 6 + 8) 4) (nAt L (p + 6 + 12) 4) (nAt L (p + 6 + 16) 4) 0 (.slice none 0 0) false) 35)
      have hd3 := Bk.new w2 35 (hdC (nAt L (p + 6) 2) (nAt L (p + 6 + 2) 2) (nAt L (p + 6 + 4) 4) (nAt L (p + 6 + 8) 4) (nAt L (p + 6 + 12) 4) (nAt L (p + 6 + 16) 4) 0 (.slice none 0 0) false)
      have hlr := rs2.lt
      clear hat hb2 rs2 hn1 hk1 Hco Hf
      have B3 := Lib.hid bl3
      have R3 := Lib.hid rs3
      have D3 := Lib.hid hd3
      have Hok := Lib.hid (show p + 30 + n1 + k1 ≤ n → ∀ s cc wd, widG ((L.drop (p + 30 + n1)).take k1) [nAt L (p + 6 + 16) 4, nAt L (p + 6 + 12) 4] = some ([s, cc], wd) → anyG glG 3 4 L (p : Int) = .inr ⟨nAt L (p + 6) 2, nAt L (p + 6 + 2) 2, nAt L (p + 6 + 4) 4, nAt L (p + 6 + 8) 4, cc, s, p, (L.drop (p + 30)).take n1, wd, ((p + 30 + n1 + k1 : Nat) : Int)⟩ from
        fun h s cc wd hwi => Hany.out.trans (glG_ok (by rw [HN.out]; simp) (by rw [HK.out]; simp) (by rw [Hll.out]; exact h) hwi))
      have Hbad := Lib.hid (show p + 30 + n1 + k1 ≤ n → widG ((L.drop (p + 30 + n1)).take k1) [nAt L (p + 6 + 16) 4, nAt L (p + 6 + 12) 4] = none → anyG glG 3 4 L (p : Int) = .inl 4 from
        fun h hwi => Hany.out.trans (glG_bad (by rw [HN.out]; simp) (by rw [HK.out]; simp) (by rw [Hll.out]; exact h) hwi))
      generalize nAt L (p + 6) 2 = f0 at *
      generalize nAt L (p + 6 + 2) 2 = f1 at *
      generalize nAt L (p + 6 + 4) 4 = f2 at *
      generalize nAt L (p + 6 + 8) 4 = f3 at *
      generalize nAt L (p + 6 + 12) 4 = f4 at *
      generalize nAt L (p + 6 + 16) 4 = f5 at *
      simp only [hdC] at B3 R3 D3
      go_wp2_with fail
      generalize w2.alloc (.cells #[.int .i64 f0, .int .i64 f1, .int .i64 f2, .int .u32 f3, .int .i64 f4, .int .i64 f5, .int .i64 0, .slice none 0 0, .bool false] 35) = w3 at *
      have hrh : w.heap.size < w2.heap.size := hlr
      generalize w2.heap.size = h at *
      refine (H1.out _ B3.out).mono ?_
      rintro e w1 ⟨rfl, rfl⟩
      go_wp2_with fail
      refine (H2.out _ B3.out).mono ?_
      rintro e w1 ⟨rfl, rfl⟩
      clear H1 H2
      obtain ⟨r0, r1, r2, r3, r4, r5, r6, r7, r8, r9, r10⟩ := cells11 R3.out
      obtain ⟨z0, z1, z2, z3, z4, z5, z6, z7, z8, z9, z10⟩ := frees11 R3.out
      have hlt := R3.out.lt
      by_cases hbig : n < p + 30 + n1 + k1
      · have Hres := Lib.hid (Hany.out.trans (glG_end (L := L) (p := p) (.inr (by rw [Hll.out, HN.out, HK.out]; simpa using hbig))))
        have h4 : (n : Int) - (p : Int) < 30 + (n1 : Int) + (k1 : Int) := by omega
        go_wp2
        exact bodyPost_ret (v := .agg (gt0 3)) (by simp [results, Try.results9, go_sem, gt0, gtC, r0, r1, r2, r3, r4, r5, r6, r7, r8, r9, r10]) rfl ⟨by rw [Hres.out]; rfl, below_set11 B3.out (Nat.le_refl _) _ _ _ _ _ _ _ _ _ _ _⟩
      · have h4 : ¬ (n : Int) - (p : Int) < 30 + (n1 : Int) + (k1 : Int) := by omega
        go_wp2_with fail
        have hA := HA.out
        subst hA
        obtain ⟨s0, s1, s2, s3, s4, s5, s6, s7, s8⟩ := cells9 D3.out
        have y7 := D3.out.free 7
        have q1 : IntKind.i64.wrap ((p : Int) + 30) = (p : Int) + 30 := IntWalk.i64_in _ (by omega)
        have q2 : (0 : Int) ≤ (p : Int) + 30 := by omega
        have q3 : ((p : Int) + 30).toNat = p + 30 := by omega
        have q4 : IntKind.i64.wrap ((p : Int) + 30 + (n1 : Int)) = (p : Int) + 30 + (n1 : Int) := IntWalk.i64_in _ (by omega)
        have q5 : (p : Int) + 30 ≤ (p : Int) + 30 + (n1 : Int) := by omega
        have q6 : ((p : Int) + 30 + (n1 : Int)).toNat = p + 30 + n1 := by omega
        have q7 : (p : Int) + 30 + (n1 : Int) ≤ (c : Int) := by omega
        have q8 : p + 30 + n1 - (p + 30) = n1 := by omega
        obtain ⟨A3, hA3⟩ : ∃ A3, (if c = p + 30 then some (⟨b0, o0, none⟩ : Addr) else some ⟨b0, o0 + (p + 30), none⟩) = A3 := ⟨_, rfl⟩
        have hrn : Rd w3.drew w.heap.size 1 A3 n1 (bys ((L.drop (p + 30)).take n1)) := ((Hr.out.below B3.out (Nat.le_refl _)).bcut (k := p + 30) (m := n1) (by omega) (A' := A3) (fun h => by rw [← hA3, if_neg (by omega)]; simp [addLit])).drew
        have Hrn := Lib.hid hrn
        have hh3 : h < w3.heap.size := D3.out.lt
        have hbd : ∀ w8, Below w3.heap.size w3.drew w8 → Bk w8 h 35 #[.int .i64 f0, .int .i64 f1, .int .i64 f2, .int .u32 f3, .int .i64 f4, .int .i64 f5, .int .i64 0, .slice none 0 0, .bool false] := fun w8 hb => Bk.below (Bk.drew D3.out) hb hh3
        have Hbd := Lib.hid hbd
        clear hrn hbd
        go_region_law (refine ap_step (v := .slice none 0 0) (n := 0) (xs := []) (base := w3.heap.size) (w0 := w3.drew) (own_nilB _ _ _) Hrn.out (Below.refl _ _) (Nat.le_refl _) (by omega) (by rfl) (by rfl) ?_; intro v8 w8 hown8 hb8 hg8 hv8; rw [List.nil_append, Nat.zero_add] at hown8; obtain ⟨A8, c8, rfl, hcc8, _⟩ := own_form hown8; have hc7 : w8.cell? ⟨h, 7, none⟩ = some (.slice none 0 0) := (Hbd.out w8 hb8).cell 7; have hf7 : w8.frozen? ⟨h, 7, none⟩ = false := (Hbd.out w8 hb8).free 7)
        all_goals
          have hlt8 : h < w8.heap.size := (Hbd.out w8 hb8).lt
          have hz3 : w3.heap.size ≤ w8.heap.size := hb8.size
          have D9 : Hid (Bk (w8.setCell ⟨h, 7, none⟩ (.slice A8 n1 c8)) h 35 #[.int .i64 f0, .int .i64 f1, .int .i64 f2, .int .u32 f3, .int .i64 f4, .int .i64 f5, .int .i64 0, .slice A8 n1 c8, .bool false]) := Lib.hid ((Hbd.out w8 hb8).set 7 (.slice A8 n1 c8))
          have R9 := Lib.hid ((Bk.below (Bk.drew R3.out) hb8 hlt).far (p := ⟨h, 7, none⟩) (by show w.heap.size ≠ h; omega) (.slice A8 n1 c8))
          have B9 := Lib.hid ((B3.out.drew.trans (hb8.mono (by have := B3.out.size; exact this))).setCell (p := ⟨h, 7, none⟩) (by show w.heap.size ≤ h; omega) (.slice A8 n1 c8))
          have O9 := Lib.hid (own_ch hown8 ((Ch.refl (fun i => i = h) w8).set (p := ⟨h, 7, none⟩) (.inl rfl) (.slice A8 n1 c8)) (fun i hi => by have := (hown8.lt i hi).1; omega))
          clear hg8 hv8 hown8 hb8 hA3 q1 q2 q3 q4 q5 q6 q7 q8 r0 r1 r2 r3 r4 r5 r6 r7 r8 r9 r10 z0 z1 z2 z3 z4 z5 z6 z7 z8 z9 z10 s0 s1 s2 s3 s4 s5 s6 s7 s8 y7 Hbd D3 R3 Hrn
          go_wp2_with fail
          clear hc7 hf7
          generalize w8.setCell ⟨h, 7, none⟩ (.slice A8 n1 c8) = w9 at *
          have s5 : w9.drew.cell? ⟨h, 5, none⟩ = some (.int .i64 f5) := D9.out.cell 5
          have s4 : w9.drew.cell? ⟨h, 4, none⟩ = some (.int .i64 f4) := D9.out.cell 4
          have t5 : ((w9.alloc (.cells #[.int .i64 f5, .int .i64 f4] 3)).drew).cell? ⟨h, 5, none⟩ = some (.int .i64 f5) := (D9.out.alloc _).cell 5
          have t4 : ((w9.alloc (.cells #[.int .i64 f5, .int .i64 f4] 3)).drew).cell? ⟨h, 4, none⟩ = some (.int .i64 f4) := (D9.out.alloc _).cell 4
          have q1 : IntKind.i64.wrap ((p : Int) + 30) = (p : Int) + 30 := IntWalk.i64_in _ (by omega)
          have q4 : IntKind.i64.wrap ((p : Int) + 30 + (n1 : Int)) = (p : Int) + 30 + (n1 : Int) := IntWalk.i64_in _ (by omega)
          have q4' : IntKind.i64.wrap ((p : Int) + 30 + (n1 : Int) + (k1 : Int)) = (p : Int) + 30 + (n1 : Int) + (k1 : Int) := IntWalk.i64_in _ (by omega)
          have q2 : (0 : Int) ≤ (p : Int) + 30 + (n1 : Int) := by omega
          have q3 : ((p : Int) + 30 + (n1 : Int)).toNat = p + 30 + n1 := by omega
          have q5 : (p : Int) + 30 + (n1 : Int) ≤ (p : Int) + 30 + (n1 : Int) + (k1 : Int) := by omega
          have q6 : ((p : Int) + 30 + (n1 : Int) + (k1 : Int)).toNat = p + 30 + n1 + k1 := by omega
          have q7 : (p : Int) + 30 + (n1 : Int) + (k1 : Int) ≤ (c : Int) := by omega
          have q8 : p + 30 + n1 + k1 - (p + 30 + n1) = k1 := by omega
          obtain ⟨A4, hA4⟩ : ∃ A4, (if c = p + 30 + n1 then some (⟨b0, o0, none⟩ : Addr) else some ⟨b0, o0 + (p + 30 + n1), none⟩) = A4 := ⟨_, rfl⟩
          have hrk : Rd w9 w.heap.size 1 A4 k1 (bys ((L.drop (p + 30 + n1)).take k1)) := ((Hr.out.below B9.out (Nat.le_refl _)).bcut (k := p + 30 + n1) (m := k1) (by omega) (A' := A4) (fun h => by rw [← hA4, if_neg (by omega)]; simp [addLit]))
          have hz9 : w.heap.size ≤ w9.heap.size := B9.out.size
          have hw := rwiden_any A4 k1 (c - (p + 30 + n1)) ((L.drop (p + 30 + n1)).take k1) (some ⟨w9.heap.size, 0, none⟩) 2 2 [f5, f4] ((w9.alloc (.cells #[.int .i64 f5, .int .i64 f4] 3)).drew) (Rd.drew ((hrk.alloc hz9 (.cells #[.int .i64 f5, .int .i64 f4] 3)).more (by show w.heap.size ≤ (w9.alloc _).heap.size; simp; omega))) (Rd.drew ((Rd.lits w9 3 #[.int .i64 f5, .int .i64 f4] rfl).more (by show w9.heap.size + 1 ≤ (w9.alloc _).heap.size; simp))) (by omega) (by omega) (by omega)
          have Hw := Lib.hid hw
          have hh9 : h < w9.heap.size := D9.out.lt
          have Hd10 := Lib.hid (fun w10 (hb : Below ((w9.alloc (.cells #[.int .i64 f5, .int .i64 f4] 3)).drew).heap.size ((w9.alloc (.cells #[.int .i64 f5, .int .i64 f4] 3)).drew) w10) => Bk.below (Bk.drew (D9.out.alloc (.cells #[.int .i64 f5, .int .i64 f4] 3))) hb (by show h < (w9.alloc _).heap.size; simp; omega))
          clear hw hrk
          go_region_held3 (fun w' => w'.cell? ⟨h, 5, none⟩ = some (.int .i64 f5) ∧ w'.cell? ⟨h, 4, none⟩ = some (.int .i64 f4)) (first | (exact ⟨s5, s4⟩) | (exact ⟨t5, t4⟩) | (exact ⟨u5, u4⟩))
            (first | ((go_at_call 28; (with_reducible refine Hw.out.mono ?_); rintro e w10 ⟨⟨v10, rfl, hq10⟩, hb10⟩; have u5 : w10.cell? ⟨h, 5, none⟩ = some (.int .i64 f5) := (Hd10.out w10 hb10).cell 5; have u4 : w10.cell? ⟨h, 4, none⟩ = some (.int .i64 f4) := (Hd10.out w10 hb10).cell 4)))
          all_goals
            have hz10 : w9.heap.size + 1 ≤ w10.heap.size := by
              have h1 := hb10.size
              have h2 : ((w9.alloc (.cells #[.int .i64 f5, .int .i64 f4] 3)).drew).heap.size = w9.heap.size + 1 := by show (w9.alloc _).heap.size = _; simp
              omega
            have D10 := Lib.hid (Hd10.out w10 hb10)
            have R10 := Lib.hid (Bk.below (Bk.drew (R9.out.alloc (.cells #[.int .i64 f5, .int .i64 f4] 3))) hb10 (by show w.heap.size < (w9.alloc _).heap.size; simp; omega))
            have B10 := Lib.hid ((B9.out.alloc hz9 (.cells #[.int .i64 f5, .int .i64 f4] 3)).drew.trans (hb10.mono (by show w.heap.size ≤ (w9.alloc _).heap.size; simp; omega)))
            have O10 := Lib.hid (own_below (own_drewN (O9.out.alloc (.cells #[.int .i64 f5, .int .i64 f4] 3)) 1) hb10 (Nat.le_refl _))
            clear s5 s4 t5 t4 u5 u4 q1 q2 q3 q4 q4' q5 q6 q7 q8 hA4 Hd10 D9 R9 B9 O9 Hw hb10
            rcases hq10 with ⟨ys, wd, hwi, hyl, ho⟩ | ⟨rfl, hwi⟩
            · obtain ⟨y0, y1, rfl⟩ : ∃ y0 y1, ys = [y0, y1] := by
                match ys, hyl with
                | [y0, y1], _ => exact ⟨y0, y1, rfl⟩
              have Hres := Lib.hid (Hok.out (by omega) _ _ _ hwi)
              obtain ⟨g10, c10, rfl, hg10, hgl10, _⟩ := own_pos ho (by simp)
              have hro := Rd.of_own ho
              obtain ⟨_, _, x0, ea, _, hx0, k0⟩ := hro.num (k := 0) (by simp)
              injection ea with ea; injection ea with ea1 ea2; subst ea1 ea2
              obtain ⟨_, _, x1, ea, _, hx1, k1'⟩ := hro.num (k := 1) (by simp)
              injection ea with ea; injection ea with ea1 ea2; subst ea1 ea2
              obtain ⟨_, _, x2, ea, _, hx2, k2⟩ := hro.num (k := 2) (by simp)
              injection ea with ea; injection ea with ea1 ea2; subst ea1 ea2
              obtain rfl : y0 = x0 := by simpa using hx0
              obtain rfl : y1 = x1 := by simpa using hx1
              have hx2 : wdI wd = x2 := by simpa using hx2
              rw [← hx2] at k2
              simp only [Nat.zero_add] at k0 k1' k2
              have hgh : h < g10 := by
                have h2 : ((w9.alloc (.cells #[.int .i64 f5, .int .i64 f4] 3)).drew).heap.size = w9.heap.size + 1 := by show (w9.alloc _).heap.size = _; simp
                omega
              have hsm := fun W g m c => Lib.run_eql_slice_nil (P := Try.prog) W 67 3 (some g) m c 0 0 Try.underlying67
              simp only [Option.isNone_some] at hsm
              obtain ⟨s0, s1, s2, s3, s4, s5, s6, s7, s8⟩ := cells9 D10.out
              obtain ⟨y0', y1', y2', y3', y4', y5', y6', y7', y8'⟩ := frees9 D10.out
              obtain ⟨r0, r1, r2, r3, r4, r5, r6, r7, r8, r9, r10⟩ := cells11 R10.out
              obtain ⟨z0, z1, z2, z3, z4, z5, z6, z7, z8, z9, z10⟩ := frees11 R10.out
              have hlt10 := R10.out.lt
              have hlth := D10.out.lt
              clear hwi ho hro hx0 hx1 hx2 Hok Hbad
              have hz3' : w.heap.size ≤ w3.heap.size := B3.out.size
              have Hfin := Lib.hid (fun b => rfinal B10.out R10.out O10.out hrh hh3 (.int .i64 y0) (.int .i64 y1) (.bool b) (.int .i64 (p : Int)) (.int .i64 f0) (.int .i64 f1) (.int .i64 f2) (.int .u32 f3) (.int .i64 y1) (.int .i64 y0) (.int .i64 (p : Int)) (.slice A8 n1 c8) (.bool b) (.int .i64 ((p : Int) + 30 + (n1 : Int) + (k1 : Int))) (.int .i64 0))
              cases wd
              all_goals
                simp only [wdI, if_true, if_false, Bool.false_eq_true] at k2
                go_wp2
                obtain ⟨hq, hbl, hrdF⟩ := Hfin.out _
                have Hbl := Lib.hid hbl
                have HrdF := Lib.hid hrdF
                obtain ⟨q0, q1, q2, q3, q4, q5, q6, q7, q8, q9, q10⟩ := cells11 hq
                clear hq hbl hrdF
                refine bodyPost_ret (v := .agg (gtC f0 f1 f2 f3 y1 y0 (p : Int) (.slice A8 n1 c8) _ ((p : Int) + 30 + (n1 : Int) + (k1 : Int)) 0)) (by simp [results, Try.results9, go_sem, gtC, q0, q1, q2, q3, q4, q5, q6, q7, q8, q9, q10]; rfl) rfl ⟨?_, Hbl.out⟩
                rw [Hres.out]
                exact ⟨A8, n1, c8, rfl, hcc8, HrdF.out⟩
            · have Hres := Lib.hid (Hbad.out (by omega) hwi)
              obtain ⟨r0, r1, r2, r3, r4, r5, r6, r7, r8, r9, r10⟩ := cells11 R10.out
              obtain ⟨z0, z1, z2, z3, z4, z5, z6, z7, z8, z9, z10⟩ := frees11 R10.out
              have hlt10 := R10.out.lt
              have hnil := fun W => Lib.run_eql_slice_nil (P := Try.prog) W 67 3 none 0 0 0 0 Try.underlying67
              simp only [Option.isNone_none] at hnil
              clear hwi
              go_wp2
              exact bodyPost_ret (v := .agg (gt0 4)) (by simp [results, Try.results9, go_sem, gt0, gtC, r0, r1, r2, r3, r4, r5, r6, r7, r8, r9, r10]) rfl ⟨by rw [Hres.out]; rfl, below_set11 B10.out (Nat.le_refl _) _ _ _ _ _ _ _ _ _ _ _⟩
  · have Hres := Lib.hid (anyG_no (f := glG) hF)
    generalize frG L a 3 4 = F at *
    have hFb : (F != 0) = true := by simpa using hF
    clear hF ha
    go_enter Try.func9, Try.ntmps9
    go_wp2_with fail
    refine Hf.out.mono ?_
    rintro e w1 ⟨rfl, rfl⟩
    go_wp2
    exact bodyPost_ret (v := .agg (gt0 F)) (by simp [results, Try.results9, go_sem, gt0, gtC]) rfl ⟨by rw [Hres.out]; rfl, (Below.refl _ _).alloc (Nat.le_refl _) _⟩
end Go.Proofs.Ytbdehlphblbmoaa
