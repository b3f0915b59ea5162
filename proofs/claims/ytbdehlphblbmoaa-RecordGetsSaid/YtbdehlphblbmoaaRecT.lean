/- RecordGets. -/
import Derived.Test.YtbdehlphblbmoaaRecS
import Derived.Test.YtbdehlphblbmoaaRecM
import Derived.Test.YtbdehlphblbmoaaRecA
namespace Go.Proofs.Ytbdehlphblbmoaa
open Go.RowKit
attribute [local go_sem ↓] Go.wp_at_zero Go.wp_at_succ

def gV : Sum Int HdG → HdG × Int
  | .inl E => (⟨0, 0, 0, 0, 0, 0, 0, [], false, 0⟩, E)
  | .inr x => (x, 0)
theorem ghp_one {base : Nat} {r : Sum Int HdG} {e : Ending} {w : World} (h : GHP base r e w) : ∃ A m c, e = .returned (.tuple #[.agg (hdC (gV r).1.flags (gV r).1.method (gV r).1.dos (gV r).1.crc (gV r).1.csize (gV r).1.size (gV r).1.at_ (.slice A m c) (gV r).1.wide), .int .i64 (gV r).1.fin, .int .i64 (gV r).2]) ∧ m ≤ c ∧ w.ownsRow base 5 1 (.slice A m c) m (bys (gV r).1.name) := by
  cases r with
  | inl E => exact ⟨none, 0, 0, h, Nat.le_refl _, own_nilB _ _ _⟩
  | inr x => exact h
theorem rgp_one {r : Sum Int HdG} {e : Ending} {w : World} (h : RGP r e w) : ∃ A m c, e = .returned (.agg (gtC (gV r).1.flags (gV r).1.method (gV r).1.dos (gV r).1.crc (gV r).1.csize (gV r).1.size (gV r).1.at_ (.slice A m c) (gV r).1.wide (gV r).1.fin (gV r).2)) ∧ m ≤ c ∧ Rd w w.heap.size 1 A m (bys (gV r).1.name) := by
  cases r with
  | inl E => exact ⟨none, 0, 0, h, Nat.le_refl _, Rd.nil_⟩
  | inr x => exact h
set_option maxHeartbeats 2000000 in
set_option maxRecDepth 100000 in
theorem rsame_one (f0 f1 f2 f3 f4 f5 f6 : Int) (A : Option Addr) (n c : Nat) (A2 : Option Addr) (n2 c2 : Nat) (wd : Bool) (l : List UInt8) (w : World) (h1 : Rd w w.heap.size 1 A n (bys l)) (h2 : Rd w w.heap.size 1 A2 n2 (bys l)) (hn : l.length ≤ 1000000000) :
    Calls Try.prog 10 #[.agg (hdC f0 f1 f2 f3 f4 f5 f6 (.slice A n c) wd), .agg (hdC f0 f1 f2 f3 f4 f5 f6 (.slice A2 n2 c2) wd)] w fun e w' => e = .returned (.bool true) ∧ Below w.heap.size w w' := by
  have hl1 := h1.blen
  have hl2 := h2.blen
  have hs := fun W (hb : Below w.heap.size w W) => same_any A A2 n n2 c c2 l l W ((h1.below hb (Nat.le_refl _)).more hb.size) ((h2.below hb (Nat.le_refl _)).more hb.size) (by omega) (by omega)
  simp only [decide_true] at hs
  have Hs := Lib.hid hs
  clear hs h1 h2 hl1 hl2
  unfold hdC
  cases wd
  all_goals
    go_enter Try.func10, Try.ntmps10
    go_wp2_with fail
    refine (Hs.out _ (((Below.refl _ _).alloc (Nat.le_refl _) _).alloc (by simp) _)).mono ?_
    rintro e w1 ⟨rfl, q, rfl⟩
    go_wp2
    go_ret
    exact ⟨rfl, below_drewN (((Below.refl _ _).alloc (Nat.le_refl _) _).alloc (by simp) _) _⟩
/-- glG's and gcG's names are no longer than what they were read from. -/
theorem len_le {L : List UInt8} {p k : Nat} : ((L.drop p).take k).length ≤ L.length := by
  rw [List.length_take, List.length_drop]; omega
theorem gl_len (L : List UInt8) (a : Int) : (gV (anyG glG 3 4 L a)).1.name.length ≤ L.length := by
  unfold anyG
  split
  · unfold glG
    split
    · simp [gV]
    · split
      · simp [gV]
      · split
        · exact len_le
        · simp [gV]
  · simp [gV]
theorem gc_len (L : List UInt8) (a : Int) : (gV (anyG gcG 1 2 L a)).1.name.length ≤ L.length := by
  unfold anyG
  split
  · unfold gcG
    split
    · simp [gV]
    · split
      · simp [gV]
      · split
        · exact len_le
        · simp [gV]
  · simp [gV]
theorem both_local (L : List UInt8) (a : Int) (hL : L.length ≤ 1000000000) (ha : -9223372036854775808 ≤ a ∧ a ≤ 9223372036854775807) : ∃ (f0 f1 f2 f3 f4 f5 f6 fin E : Int) (nm : List UInt8) (wd : Bool), nm.length ≤ L.length ∧
    (∀ (A : Option Addr) (n c : Nat) (W : World), Rd W W.heap.size 1 A n (bys L) → n ≤ c → Calls Try.prog 8 #[.slice A n c, .int .i64 a] W fun e w' => ∃ A1 m1 c1, e = .returned (.tuple #[.agg (hdC f0 f1 f2 f3 f4 f5 f6 (.slice A1 m1 c1) wd), .int .i64 fin, .int .i64 E]) ∧ w'.ownsRow W.heap.size 5 1 (.slice A1 m1 c1) m1 (bys nm) ∧ Below W.heap.size W w') ∧
    (∀ (A : Option Addr) (n c : Nat) (W : World), Rd W W.heap.size 1 A n (bys L) → n ≤ c → Calls Try.prog 9 #[.slice A n c, .int .i64 a] W fun e w' => ∃ A1 m1 c1, e = .returned (.agg (gtC f0 f1 f2 f3 f4 f5 f6 (.slice A1 m1 c1) wd fin E)) ∧ Rd w' w'.heap.size 1 A1 m1 (bys nm) ∧ Below W.heap.size W w') := by
  refine ⟨(gV (anyG glG 3 4 L a)).1.flags, (gV (anyG glG 3 4 L a)).1.method, (gV (anyG glG 3 4 L a)).1.dos, (gV (anyG glG 3 4 L a)).1.crc, (gV (anyG glG 3 4 L a)).1.csize, (gV (anyG glG 3 4 L a)).1.size, (gV (anyG glG 3 4 L a)).1.at_, (gV (anyG glG 3 4 L a)).1.fin, (gV (anyG glG 3 4 L a)).2, (gV (anyG glG 3 4 L a)).1.name, (gV (anyG glG 3 4 L a)).1.wide, gl_len L a, fun A n c W hr hnc => ?_, fun A n c W hr hnc => ?_⟩
  · refine (getlocal_any A n c a L W hr hnc (by have := hr.blen; omega) ha).mono ?_
    rintro e w' ⟨h, hb⟩
    obtain ⟨A1, m1, c1, he, _, hrd⟩ := ghp_one h
    exact ⟨A1, m1, c1, he, hrd, hb⟩
  · refine (rgetlocal_any A n c a L W hr hnc (by have := hr.blen; omega) ha).mono ?_
    rintro e w' ⟨h, hb⟩
    obtain ⟨A1, m1, c1, he, _, hrd⟩ := rgp_one h
    exact ⟨A1, m1, c1, he, hrd, hb⟩
theorem both_central (L : List UInt8) (a : Int) (hL : L.length ≤ 1000000000) (ha : -9223372036854775808 ≤ a ∧ a ≤ 9223372036854775807) : ∃ (f0 f1 f2 f3 f4 f5 f6 fin E : Int) (nm : List UInt8) (wd : Bool), nm.length ≤ L.length ∧
    (∀ (A : Option Addr) (n c : Nat) (W : World), Rd W W.heap.size 1 A n (bys L) → n ≤ c → Calls Try.prog 11 #[.slice A n c, .int .i64 a] W fun e w' => ∃ A1 m1 c1, e = .returned (.tuple #[.agg (hdC f0 f1 f2 f3 f4 f5 f6 (.slice A1 m1 c1) wd), .int .i64 fin, .int .i64 E]) ∧ w'.ownsRow W.heap.size 5 1 (.slice A1 m1 c1) m1 (bys nm) ∧ Below W.heap.size W w') ∧
    (∀ (A : Option Addr) (n c : Nat) (W : World), Rd W W.heap.size 1 A n (bys L) → n ≤ c → Calls Try.prog 12 #[.slice A n c, .int .i64 a] W fun e w' => ∃ A1 m1 c1, e = .returned (.agg (gtC f0 f1 f2 f3 f4 f5 f6 (.slice A1 m1 c1) wd fin E)) ∧ Rd w' w'.heap.size 1 A1 m1 (bys nm) ∧ Below W.heap.size W w') := by
  refine ⟨(gV (anyG gcG 1 2 L a)).1.flags, (gV (anyG gcG 1 2 L a)).1.method, (gV (anyG gcG 1 2 L a)).1.dos, (gV (anyG gcG 1 2 L a)).1.crc, (gV (anyG gcG 1 2 L a)).1.csize, (gV (anyG gcG 1 2 L a)).1.size, (gV (anyG gcG 1 2 L a)).1.at_, (gV (anyG gcG 1 2 L a)).1.fin, (gV (anyG gcG 1 2 L a)).2, (gV (anyG gcG 1 2 L a)).1.name, (gV (anyG gcG 1 2 L a)).1.wide, gc_len L a, fun A n c W hr hnc => ?_, fun A n c W hr hnc => ?_⟩
  · refine (getcentral_any A n c a L W hr hnc (by have := hr.blen; omega) ha).mono ?_
    rintro e w' ⟨h, hb⟩
    obtain ⟨A1, m1, c1, he, _, hrd⟩ := ghp_one h
    exact ⟨A1, m1, c1, he, hrd, hb⟩
  · refine (rgetcentral_any A n c a L W hr hnc (by have := hr.blen; omega) ha).mono ?_
    rintro e w' ⟨h, hb⟩
    obtain ⟨A1, m1, c1, he, _, hrd⟩ := rgp_one h
    exact ⟨A1, m1, c1, he, hrd, hb⟩
set_option maxHeartbeats 4000000 in
set_option maxRecDepth 100000 in
theorem recordGets_walk (A : Option Addr) (n c : Nat) (L : List UInt8) (a : Int) (w : World) (hr : Rd w w.heap.size 1 A n (bys L)) (hnc : n ≤ c) (hcm : c ≤ maxLen) (ha : -9223372036854775808 ≤ a ∧ a ≤ 9223372036854775807) :
    Calls Try.prog 4 #[.slice A n c, .int .i64 a] w fun e w' => e = .returned (.bool true) ∧ Below w.heap.size w w' := by
  unfold maxLen at hcm
  by_cases hbig : 2000 < n
  · clear hr ha
    go_enter Try.func4, Try.ntmps4
    go_wp2_with fail
    refine (rec_wakes _).mono ?_
    rintro e w1 ⟨rfl, hb1⟩
    go_wp2
    go_ret
    exact ⟨rfl, hb1⟩
  have hll := hr.blen
  obtain ⟨f0, f1, f2, f3, f4, f5, f6, fin, E, nm, wd, hnm, hg1, hg2⟩ := both_local L a (by omega) ha
  obtain ⟨k0, k1, k2, k3, k4, k5, k6, kin, F, km, kd, hkm, hk1, hk2⟩ := both_central L a (by omega) ha
  have Hr := Lib.hid hr
  have Hg1 := Lib.hid hg1
  have Hg2 := Lib.hid hg2
  have Hk1 := Lib.hid hk1
  have Hk2 := Lib.hid hk2
  simp only [hdC, gtC] at Hg1 Hg2 Hk1 Hk2
  have hn5 : nm.length ≤ 1000000000 := by omega
  have hm5 : km.length ≤ 1000000000 := by omega
  have Hll := Lib.hid hll
  clear hr hll hg1 hg2 hk1 hk2 ha hnm hkm
  go_enter Try.func4, Try.ntmps4
  go_wp2_with fail
  refine (rec_wakes _).mono ?_
  rintro e w1 ⟨rfl, hb1⟩
  have hz1 := hb1.size
  have Hb1 := Lib.hid hb1
  clear hb1
  go_wp2_with (
    at_builtin
    refine ap_bys (own_lit0 w1 _) ((Hr.out.below Hb1.out (Nat.le_refl _)).alloc hz1 _) ((Below.refl w1.heap.size w1).alloc (Nat.le_refl _) _) (by simp) (by omega) rfl rfl rfl ?_
    intro v2 w2 hown2 hb2 hg2 ha2)
  rw [List.nil_append, Nat.zero_add] at hown2
  obtain ⟨A2, c2, rfl, hc2, _⟩ := own_form hown2
  have B2 := Lib.hid (Hb1.out.trans (hb2.mono hz1))
  have O2 := Lib.hid (Rd.of_own hown2)
  clear hg2 ha2 hb2 hown2 Hb1
  go_wp2_with fail
  refine (Hg1.out A2 n c2 _ O2.out hc2).mono ?_
  rintro e w3 ⟨A3, m3, c3, rfl, ho3, hb3⟩
  have hr3 := Rd.of_own ho3
  have hz2 := B2.out.size
  have hz3 := hb3.size
  have B3 := Lib.hid (B2.out.trans (hb3.mono hz2))
  have O3 := Lib.hid (O2.out.below hb3 (Nat.le_refl _))
  have R3 := Lib.hid hr3
  have B4 := Lib.hid (B3.out.alloc B3.out.size (.cells #[.int .i64 f0, .int .i64 f1, .int .i64 f2, .int .u32 f3, .int .i64 f4, .int .i64 f5, .int .i64 f6, .slice A3 m3 c3, .bool wd] 35))
  have D4 := Lib.hid (Bk.new w3 35 #[.int .i64 f0, .int .i64 f1, .int .i64 f2, .int .u32 f3, .int .i64 f4, .int .i64 f5, .int .i64 f6, .slice A3 m3 c3, .bool wd])
  have O4 := Lib.hid (O3.out.alloc hz3 (.cells #[.int .i64 f0, .int .i64 f1, .int .i64 f2, .int .u32 f3, .int .i64 f4, .int .i64 f5, .int .i64 f6, .slice A3 m3 c3, .bool wd] 35))
  have R4 := Lib.hid (R3.out.alloc (Nat.le_refl _) (.cells #[.int .i64 f0, .int .i64 f1, .int .i64 f2, .int .u32 f3, .int .i64 f4, .int .i64 f5, .int .i64 f6, .slice A3 m3 c3, .bool wd] 35))
  have hz4 : w3.heap.size + 1 = (w3.alloc (.cells #[.int .i64 f0, .int .i64 f1, .int .i64 f2, .int .u32 f3, .int .i64 f4, .int .i64 f5, .int .i64 f6, .slice A3 m3 c3, .bool wd] 35)).heap.size := by simp
  have Hz4 := Lib.hid hz4
  clear hr3 hb3 R3 B3 O3 hz4
  go_wp2_with fail
  generalize w3.alloc (.cells #[.int .i64 f0, .int .i64 f1, .int .i64 f2, .int .u32 f3, .int .i64 f4, .int .i64 f5, .int .i64 f6, .slice A3 m3 c3, .bool wd] 35) = w4 at *
  refine (Hg2.out A n c _ ((Hr.out.below B4.out (Nat.le_refl _)).more B4.out.size) hnc).mono ?_
  rintro e w5 ⟨A5, m5, c5, rfl, hr5, hb5⟩
  have hz5 := hb5.size
  have hz34 : w3.heap.size < w4.heap.size := by have := Hz4.out; omega
  have B6 := Lib.hid ((B4.out.trans (hb5.mono B4.out.size)).alloc (by have := B4.out.size; omega) (.cells #[.int .i64 f0, .int .i64 f1, .int .i64 f2, .int .u32 f3, .int .i64 f4, .int .i64 f5, .int .i64 f6, .slice A5 m5 c5, .bool wd, .int .i64 fin, .int .i64 E] 39))
  have D6 := Lib.hid ((D4.out.below hb5 D4.out.lt).alloc (.cells #[.int .i64 f0, .int .i64 f1, .int .i64 f2, .int .u32 f3, .int .i64 f4, .int .i64 f5, .int .i64 f6, .slice A5 m5 c5, .bool wd, .int .i64 fin, .int .i64 E] 39))
  have G6 := Lib.hid (Bk.new w5 39 #[.int .i64 f0, .int .i64 f1, .int .i64 f2, .int .u32 f3, .int .i64 f4, .int .i64 f5, .int .i64 f6, .slice A5 m5 c5, .bool wd, .int .i64 fin, .int .i64 E])
  have O6 := Lib.hid ((O4.out.below hb5 (by omega)).alloc (by omega) (.cells #[.int .i64 f0, .int .i64 f1, .int .i64 f2, .int .u32 f3, .int .i64 f4, .int .i64 f5, .int .i64 f6, .slice A5 m5 c5, .bool wd, .int .i64 fin, .int .i64 E] 39))
  have R6 := Lib.hid ((R4.out.below hb5 (by omega)).alloc (by omega) (.cells #[.int .i64 f0, .int .i64 f1, .int .i64 f2, .int .u32 f3, .int .i64 f4, .int .i64 f5, .int .i64 f6, .slice A5 m5 c5, .bool wd, .int .i64 fin, .int .i64 E] 39))
  have Q6 := Lib.hid (hr5.alloc (Nat.le_refl _) (.cells #[.int .i64 f0, .int .i64 f1, .int .i64 f2, .int .u32 f3, .int .i64 f4, .int .i64 f5, .int .i64 f6, .slice A5 m5 c5, .bool wd, .int .i64 fin, .int .i64 E] 39))
  have Hz6 := Lib.hid (show w5.heap.size + 1 = (w5.alloc (.cells #[.int .i64 f0, .int .i64 f1, .int .i64 f2, .int .u32 f3, .int .i64 f4, .int .i64 f5, .int .i64 f6, .slice A5 m5 c5, .bool wd, .int .i64 fin, .int .i64 E] 39)).heap.size by simp)
  obtain ⟨s0, s1, s2, s3, s4, s5, s6, s7, s8⟩ := cells9 D6.out
  clear hb5 hr5 B4 D4 O4 R4 Hg1 Hg2 Hz4
  obtain ⟨j0, j1, j2, j3, j4, j5, j6, j7, j8, j9, j10⟩ := cells11 G6.out
  go_wp2_with fail
  generalize w5.alloc (.cells #[.int .i64 f0, .int .i64 f1, .int .i64 f2, .int .u32 f3, .int .i64 f4, .int .i64 f5, .int .i64 f6, .slice A5 m5 c5, .bool wd, .int .i64 fin, .int .i64 E] 39) = w6 at *
  have hs := rsame_one f0 f1 f2 f3 f4 f5 f6 A3 m3 c3 A5 m5 c5 wd nm w6 (R6.out.more (by have := Hz6.out; omega)) (Q6.out.more (by have := Hz6.out; omega)) hn5
  simp only [hdC] at hs
  refine hs.mono ?_
  rintro e w7 ⟨rfl, hb7⟩
  have hz7 := hb7.size
  have hz56 : w5.heap.size < w6.heap.size := by have := Hz6.out; omega
  have B7 := Lib.hid (B6.out.trans (hb7.mono B6.out.size))
  have D7 := Lib.hid (D6.out.below hb7 D6.out.lt)
  have G7 := Lib.hid (G6.out.below hb7 G6.out.lt)
  have O7 := Lib.hid (O6.out.below hb7 (by omega))
  clear hs hb7 s0 s1 s2 s3 s4 s5 s6 s7 s8 j0 j1 j2 j3 j4 j5 j6 j7 j8 j9 j10 B6 D6 G6 O6 R6 Q6 Hz6
  obtain ⟨_, _, _, _, _, _, _, _, _, j9, j10⟩ := cells11 G7.out
  obtain ⟨s0, s1, s2, s3, s4, s5, s6, s7, s8⟩ := cells9 D7.out
  obtain ⟨z0, z1, z2, z3, z4, z5, z6, z7, z8⟩ := frees9 D7.out
  go_wp2_with fail
  refine (Hk1.out A2 n c2 _ (O7.out.more (by omega)) hc2).mono ?_
  rintro e w8 ⟨A8, m8, c8, rfl, ho8, hb8⟩
  have hz8 := hb8.size
  have D8 := D7.out.below hb8 D7.out.lt
  clear s0 s1 s2 s3 s4 s5 s6 s7 s8 z0 z1 z2 z3 z4 z5 z6 z7 z8 j9 j10 G7
  obtain ⟨s0, s1, s2, s3, s4, s5, s6, s7, s8⟩ := cells9 D8
  obtain ⟨z0, z1, z2, z3, z4, z5, z6, z7, z8⟩ := frees9 D8
  have hlt8 := D8.lt
  have B9 := Lib.hid (below_set9 (B7.out.trans (hb8.mono B7.out.size)) (by have := B2.out.size; omega : w.heap.size ≤ w3.heap.size) (.int .i64 k0) (.int .i64 k1) (.int .i64 k2) (.int .u32 k3) (.int .i64 k4) (.int .i64 k5) (.int .i64 k6) (.slice A8 m8 c8) (.bool kd))
  have D9 := Lib.hid (D8.set9 (.int .i64 k0) (.int .i64 k1) (.int .i64 k2) (.int .u32 k3) (.int .i64 k4) (.int .i64 k5) (.int .i64 k6) (.slice A8 m8 c8) (.bool kd))
  have C9 := ch_set9 w8 w3.heap.size (.int .i64 k0) (.int .i64 k1) (.int .i64 k2) (.int .u32 k3) (.int .i64 k4) (.int .i64 k5) (.int .i64 k6) (.slice A8 m8 c8) (.bool kd)
  have hz3' : w2.heap.size ≤ w3.heap.size := by omega
  have hz78 : w3.heap.size < w7.heap.size := D7.out.lt
  have O9 := Lib.hid ((O7.out.below hb8 (by omega)).ch C9 (by omega) (fun i hi => by have : i = w3.heap.size := hi; omega))
  have R9 := Lib.hid (Rd.of_own (own_ch ho8 C9 (fun i hi => by have := (ho8.lt i hi).1; omega)))
  have Z9 := Lib.hid C9.size
  clear ho8 hb8 D8 C9 B7 D7 O7
  go_wp2_with fail
  generalize ((((((((w8.setCell ⟨w3.heap.size, 0, none⟩ (.int .i64 k0)).setCell ⟨w3.heap.size, 1, none⟩ (.int .i64 k1)).setCell ⟨w3.heap.size, 2, none⟩ (.int .i64 k2)).setCell ⟨w3.heap.size, 3, none⟩ (.int .u32 k3)).setCell ⟨w3.heap.size, 4, none⟩ (.int .i64 k4)).setCell ⟨w3.heap.size, 5, none⟩ (.int .i64 k5)).setCell ⟨w3.heap.size, 6, none⟩ (.int .i64 k6)).setCell ⟨w3.heap.size, 7, none⟩ (.slice A8 m8 c8)).setCell ⟨w3.heap.size, 8, none⟩ (.bool kd) = w9 at *
  clear s0 s1 s2 s3 s4 s5 s6 s7 s8 z0 z1 z2 z3 z4 z5 z6 z7 z8 hlt8
  refine (Hk2.out A n c _ ((Hr.out.below B9.out (Nat.le_refl _)).more B9.out.size) hnc).mono ?_
  rintro e wb ⟨Ab, mb, cb, rfl, hrb, hbb⟩
  have hzb := hbb.size
  have hz9 := Z9.out
  have Bc := Lib.hid ((B9.out.trans (hbb.mono B9.out.size)).alloc (by have := B9.out.size; omega) (.cells #[.int .i64 k0, .int .i64 k1, .int .i64 k2, .int .u32 k3, .int .i64 k4, .int .i64 k5, .int .i64 k6, .slice Ab mb cb, .bool kd, .int .i64 kin, .int .i64 F] 39))
  have Dc := Lib.hid ((D9.out.below hbb D9.out.lt).alloc (.cells #[.int .i64 k0, .int .i64 k1, .int .i64 k2, .int .u32 k3, .int .i64 k4, .int .i64 k5, .int .i64 k6, .slice Ab mb cb, .bool kd, .int .i64 kin, .int .i64 F] 39))
  have Gc := Lib.hid (Bk.new wb 39 #[.int .i64 k0, .int .i64 k1, .int .i64 k2, .int .u32 k3, .int .i64 k4, .int .i64 k5, .int .i64 k6, .slice Ab mb cb, .bool kd, .int .i64 kin, .int .i64 F])
  have Oc := Lib.hid ((O9.out.below hbb (by omega)).alloc (by omega) (.cells #[.int .i64 k0, .int .i64 k1, .int .i64 k2, .int .u32 k3, .int .i64 k4, .int .i64 k5, .int .i64 k6, .slice Ab mb cb, .bool kd, .int .i64 kin, .int .i64 F] 39))
  have Rc := Lib.hid ((R9.out.below hbb (Nat.le_refl _)).alloc hzb (.cells #[.int .i64 k0, .int .i64 k1, .int .i64 k2, .int .u32 k3, .int .i64 k4, .int .i64 k5, .int .i64 k6, .slice Ab mb cb, .bool kd, .int .i64 kin, .int .i64 F] 39))
  have Qc := Lib.hid (hrb.alloc (Nat.le_refl _) (.cells #[.int .i64 k0, .int .i64 k1, .int .i64 k2, .int .u32 k3, .int .i64 k4, .int .i64 k5, .int .i64 k6, .slice Ab mb cb, .bool kd, .int .i64 kin, .int .i64 F] 39))
  have Hzc := Lib.hid (show wb.heap.size + 1 = (wb.alloc (.cells #[.int .i64 k0, .int .i64 k1, .int .i64 k2, .int .u32 k3, .int .i64 k4, .int .i64 k5, .int .i64 k6, .slice Ab mb cb, .bool kd, .int .i64 kin, .int .i64 F] 39)).heap.size by simp)
  obtain ⟨s0, s1, s2, s3, s4, s5, s6, s7, s8⟩ := cells9 Dc.out
  obtain ⟨j0, j1, j2, j3, j4, j5, j6, j7, j8, j9, j10⟩ := cells11 Gc.out
  clear hbb hrb B9 D9 O9 R9
  go_wp2_with fail
  generalize wb.alloc (.cells #[.int .i64 k0, .int .i64 k1, .int .i64 k2, .int .u32 k3, .int .i64 k4, .int .i64 k5, .int .i64 k6, .slice Ab mb cb, .bool kd, .int .i64 kin, .int .i64 F] 39) = wc at *
  have hzc : wb.heap.size < wc.heap.size := by have := Hzc.out; omega
  have hs := rsame_one k0 k1 k2 k3 k4 k5 k6 A8 m8 c8 Ab mb cb kd km wc (Rc.out.more (by omega)) (Qc.out.more (by omega)) hm5
  simp only [hdC] at hs
  refine hs.mono ?_
  rintro e wd' ⟨rfl, hbd⟩
  have hzd := hbd.size
  have Bd := Lib.hid (Bc.out.trans (hbd.mono Bc.out.size))
  have Gd := Lib.hid (Gc.out.below hbd Gc.out.lt)
  have Od := Lib.hid (Oc.out.below hbd (by omega))
  clear hs hbd s0 s1 s2 s3 s4 s5 s6 s7 s8 j0 j1 j2 j3 j4 j5 j6 j7 j8 j9 j10 Bc Dc Gc Oc Rc Qc Hzc
  obtain ⟨_, _, _, _, _, _, _, _, _, j9, j10⟩ := cells11 Gd.out
  go_wp2_with fail
  refine (same_any A2 A n n c2 c L L wd' (Od.out.more (by omega)) ((Hr.out.below Bd.out (Nat.le_refl _)).more Bd.out.size) (by omega) (by omega)).mono ?_
  simp only [decide_true]
  rintro e we ⟨rfl, q, rfl⟩
  go_wp2
  go_ret
  exact ⟨rfl, below_drewN Bd.out q⟩
end Go.Proofs.Ytbdehlphblbmoaa
